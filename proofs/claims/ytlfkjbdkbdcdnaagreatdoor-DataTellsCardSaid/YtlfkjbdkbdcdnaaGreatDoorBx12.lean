/- slices.Values, AppendSeq, Collect, Sorted, Sort, Compact at []int; gone.Keys. gone.Has, gone.Read, gone.Make: the walks. data.Read and what it does with a line: the walks. Printed by gen_data.py. deedboxlaw1.dated: a closed fact of files of rows. -/
import Derived.Test.YtlfkjbdkbdcdnaaGreatDoorBx8
import Derived.Test.YtlfkjbdkbdcdnaaGreatDoorBx4
import Derived.Test.YtlfkjbdkbdcdnaaGreatDoorBx2
import Derived.Test.YtlfkjbdkbdcdnaaGreatDoorBx5
import Derived.Test.YtlfkjbdkbdcdnaaGreatDoorBx6
import Derived.Lib.OwnBridge
import Derived.Test.YtlfkjbdkbdcdnaaGreatDoorBx11
import Derived.Deep.RegionHeld3
namespace Go.Proofs.YtlfkjbdkbdcdnaaGreatDoor
open Go.RowKit Go.Shelf Go.Sort

attribute [local go_sem] Oper.semAt_some in
set_option maxRecDepth 100000 in
set_option maxHeartbeats 2000000 in
/-- slices.Values's closure, for every loop body that keeps what lay below n₀. -/
theorem values1I_in (F : Fence) (n : Nat) (h7 : F.fn 148) (hro : F.round = none) (hn : 1 ≤ n) (l Bs n₀ : Nat) (a : Option Addr) (c b o : Nat) (zs : List Int) (ha : 0 < zs.length → a = some ⟨b, o, none⟩) (hb : 0 < zs.length → b < n₀) (J Jx : List Int → World → Prop)
    (W : World) (hcm : zs.length ≤ 9223372036854775807)
    (hY : ∀ pre x W1, J pre W1 → pre.length < zs.length → YieldAt F (n - 1) Tryz.prog l #[.int .i64 x] W1 fun e W' =>
      (e = .returned (.bool true) ∧ J (pre ++ [x]) W' ∧ Below n₀ W1 W') ∨ (e = .returned (.bool false) ∧ Jx (pre ++ [x]) W'))
    (hBs : W.cell? ⟨Bs, 0, none⟩ = some (.slice a zs.length c)) (hx : ∀ (k : Nat) (x : Int), zs[k]? = some x → ∀ (j : Nat) (u : Value), (encI x)[j]? = some u → W.cell? ⟨b, o + k * 1 + j, none⟩ = some u) (h0 : J [] W) :
    CallsIn F n Tryz.prog 148 #[.func (.yield l) #[] #[], .pointer (some ⟨Bs, 0, none⟩)] W fun e W' => (∃ v, e = .returned v) ∧ ((∃ ys, ys = zs ∧ J ys W') ∨ (∃ pre, pre <+: zs ∧ Jx pre W')) := by
  refine callsIn_of_wp Tryz.func148 rfl h7 ?_ hro
  simp only [Tryz.ntmps148, List.size_toArray, List.length_cons, List.length_nil, Nat.reduceAdd, Nat.reduceSub, Array.replicate_succ, Array.replicate_zero, List.push_toArray, List.append_toArray, List.nil_append, List.cons_append]
  gi_wp2
  gi_loopw [7] (fun i wr => ∃ k : Nat, k ≤ zs.length ∧ i = .int .i64 k ∧ J (zs.take k) wr ∧ Below n₀ W wr) (fun i _ => zs.length - (intOf i).toNat)
  case atStart => exact ⟨0, Nat.zero_le _, rfl, h0, Below.refl _ _⟩
  case round =>
    obtain ⟨k, hk, rfl, hJs, hnx⟩ := hrel
    by_cases hlt : k < zs.length
    case neg =>
      obtain rfl : k = zs.length := by omega
      rw [List.take_length] at hJs
      gi_wp2
      go_end0
      exact ⟨⟨_, rfl⟩, .inl ⟨_, rfl, hJs⟩⟩
    obtain ⟨x, hxk⟩ := get_ex hlt
    have hbn := hb (by omega)
    have c0 := (hnx.cell (p := ⟨b, o + k * 1 + 0, none⟩) hbn).trans (hx k x hxk 0 _ rfl)
    have i1 := idx_at (c := c) 1 Tryz.underlying39 szInt ha k hlt
    have hk1 : (k : Int) < (zs.length : Int) := by omega
    simp only [Nat.add_zero, Nat.mul_one] at c0 i1
    obtain ⟨fn, tmps, assign, body, hy, hR⟩ := hY _ x wr hJs (by rw [List.length_take]; omega)
    have HSn := Lib.hid (take_snoc' hxk)
    clear hxk
    gi_wp2
    refine hR.mono ?_
    rintro e W3 (⟨rfl, hJ3, hk3⟩ | ⟨rfl, hJx3⟩)
    · gi_wp2
      go_roundw
      case rel => exact ⟨k + 1, by omega, by simp, by rw [HSn.out]; exact hJ3, hnx.trans hk3⟩
      case measure => simp [intOf]; omega
    · gi_wp2
      refine bodyPost_ret (results_none rfl _ _ _) rfl ?_
      exact ⟨⟨_, rfl⟩, .inr ⟨_, by rw [← HSn.out]; exact List.take_prefix _ _, hJx3⟩⟩
theorem valuesI_any (a : Option Addr) (len cap : Nat) (w : World) :
    Calls Tryz.prog 114 #[.slice a len cap] w fun e w' => e = .returned (.func (.func 148) #[] #[.pointer (some ⟨w.heap.size, 0, none⟩)]) ∧ w' = w.alloc (.cells #[.slice a len cap] 39) := by
  go_enter Tryz.func114, Tryz.ntmps114
  go_wp2_with fail
  go_ret
  exact ⟨rfl, rfl⟩
/-- slices.Values(l) hands back a value that yields all of l, in order. -/
theorem valuesI_stops (F : Fence) (n : Nat) (h7 : F.fn 148) (hro : F.round = none) (hn : 1 ≤ n) (Bs n₀ : Nat) (v : Value) (zs : List Int) (w0 w : World) (hBs : Bs < w.heap.size) (_hn₀ : n₀ ≤ w.heap.size)
    (hc : w.cell? ⟨Bs, 0, none⟩ = some v) (hl : IntsAt w0 v zs) (hlow : w0.heap.size ≤ n₀) (hb0 : Below w0.heap.size w0 w) :
    SeqStopsK F n Tryz.prog 148 #[.pointer (some ⟨Bs, 0, none⟩)] (fun x : Int => #[.int .i64 x]) (Below n₀) (fun ys => ys = zs) (fun pre => pre <+: zs) zs.length w := fun l J Jx W hW hJ _ hY h0 => by
  obtain ⟨a, c, b, o, rfl, ha, hcc, hcm, hx⟩ := hl
  have hbn : 0 < zs.length → b < w0.heap.size := fun h => by
    obtain ⟨x, hxk⟩ := get_ex (l := zs) (k := 0) h
    exact World.block_lt_of_cell? w0 ⟨b, o + 0 * 1 + 0, none⟩ (hx 0 x hxk 0 _ rfl)
  have hbW := hb0.trans (hW.mono hb0.size)
  refine values1I_in F n h7 hro hn l Bs n₀ a c b o zs ha (fun h => Nat.lt_of_lt_of_le (hbn h) hlow) J Jx W (by unfold maxLen at hcm; omega) hY ((hW.cell (p := ⟨Bs, 0, none⟩) hBs).trans hc) (fun k x hk j u hu => ?_) h0
  have h1 := hx k x hk j u hu
  exact (hbW.cell (World.block_lt_of_cell? w0 _ h1)).trans h1
theorem infoInt : (Tryz.prog.info? 3).map (fun i => (i.zero, i.size, i.bytes)) = some (some (.int .i64 0), 1, 8) := by kernel_rfl
attribute [local go_sem] Oper.semAt_some in
set_option maxRecDepth 100000 in
set_option maxHeartbeats 2000000 in
/-- slices.AppendSeq(nil, seq): all that seq yields. -/
theorem appendSeqI_in (F : Fence) (n : Nat) (h3 : F.fn 183) (hro : F.round = none) (hn : 3 ≤ n) (gf : Nat) (lb : Array Value) (hFg : F.fn gf) (eg : ∀ args w, (callFunc gf args).run Tryz.prog w = .ok (.enter gf args) w) (zs : List Int) (hz : zs.length ≤ 100000) (n₀ : Nat) (w : World) (hn₀ : n₀ ≤ w.heap.size)
    (hseq : SeqStopsK F (n - 1) Tryz.prog gf lb (fun x : Int => #[.int .i64 x]) (Below n₀) (fun ys => ys = zs) (fun pre => pre <+: zs) zs.length w) :
    CallsIn F n Tryz.prog 183 #[.slice none 0 0, .func (.func gf) #[] lb] w fun e w' => ∃ v, e = .returned v ∧ Own encI 3 1 w.heap.size w' v zs ∧ Below w.heap.size w w' := by
  have h1 : 1 ≤ n := by omega
  obtain ⟨i0, hi, hz0, hz1, hz2⟩ := info_parts infoInt
  refine callsIn_of_wp_marks Tryz.func183 rfl h3 ?_ hro
  simp only [Tryz.ntmps183, List.size_toArray, List.length_cons, List.length_nil, Nat.reduceAdd, Nat.reduceSub, Array.replicate_succ, Array.replicate_zero, List.push_toArray, List.append_toArray, List.nil_append, List.cons_append]
  gi_wp2
  have bO := Boxed.new w 39 (.slice none 0 0)
  have hB0 : Below w.heap.size w (w.alloc (.cells #[.slice none 0 0] 39)) := (Below.refl _ w).alloc (Nat.le_refl _) _
  have hsz : (w.alloc (.cells #[.slice none 0 0] 39)).heap.size = w.heap.size + 1 := by simp
  have hseq' : SeqStopsK F (n - 1) Tryz.prog gf lb (fun x : Int => #[.int .i64 x]) (Below n₀) (fun ys => ys = zs) (fun pre => pre <+: zs) zs.length (w.alloc (.cells #[.slice none 0 0] 39)) := fun l J Jx W hW => hseq l J Jx W (hB0.trans (hW.mono hB0.size))
  obtain ⟨W0, hW0⟩ : ∃ W0, w.alloc (.cells #[.slice none 0 0] 39) = W0 := ⟨_, rfl⟩
  rw [hW0] at bO hB0 hsz hseq' ⊢
  clear hW0
  refine wpIn_rangeFunc_ownF hro h1 (gf := gf) (lb := lb) rfl hFg eg hseq' belowK_t (belowK_b (by omega)) (Below.refl _ _) (fun _ => rfl)
    (fun pre W => (∃ v, Boxed W w.heap.size 39 v ∧ W.ownsRow w.heap.size 3 1 v pre.length (pre.flatMap encI) ∧ True) ∧ Below w.heap.size w W)
    (fun _ _ _ => False)
    (OwnFrom.and (Go.Own.from (holdsRow_own w.heap.size w.heap.size 39 3 1 (fun pre : List Int => pre.length) (fun pre => pre.flatMap encI) (fun _ _ => True)) _) (ownFrom_below (Nat.le_refl _) (by omega)))
    (fun _ _ _ _ _ hs _ _ => hs)
    ⟨⟨_, bO, World.ownsRow_nil _ _ _ _, trivial⟩, hB0⟩ ?a1 ?assign ?body ?done ?stop
  case assign =>
    intro l x W K hK
    gi_wp2
    exact hK
  case body =>
    rintro l pre x W ⟨⟨v, hv, hrow, -⟩, hB⟩ hlt
    have hc := hv.cell
    gi_wp2_with (gi_at_builtin; refine wpListIn_append_own _ rfl _ _ 39 rfl w.heap.size 3 i0 _ 1 8 Tryz.underlying39 hi hz0 hz1 hz2 rfl (by decide) _ _ _ rfl (hrow.alloc _) ⟨W.heap.size, 0, none⟩ 1 1 (encI x) rfl rfl (cells_new3 _ _ _) (by simp [Value.oneCell']) (by unfold maxLen; omega) (by omega) (by have := hB.size; simp; omega) ?_; intro v' w1 hown' hgrow _; obtain ⟨g', cap', rfl⟩ := ownsRow_succ hown'; obtain ⟨hv1, hv2, hr2, hk2, hb2⟩ := hv.appended (by decide) hrow hB.size (Nat.le_refl _) hown' hgrow; have hc1 := hv1.cell; have hf1 := hv1.frozen)
    exact ⟨hk2, hb2.mono hn₀, ⟨_, hv2, by simpa using hr2, trivial⟩, hB.trans hb2⟩
  case done =>
    rintro D ys W hD rfl ⟨⟨v, hv, hrow, -⟩, hB⟩ hK
    have hc := hv.cell
    gi_wp2
    refine ⟨by simp, .inl ⟨_, _, rfl, run_takeDeferred hK, ?_⟩⟩
    exact ⟨_, results_tmp rfl _ _ _, v, rfl, ownsRow_putObj hrow _ hK rfl, hB.trans (belowK_b (w := w) (Nat.le_refl _) W D _ _ (by omega) hK rfl rfl)⟩
  case stop =>
    rintro D c pre W _ _ h _
    exact h.elim
theorem collectI_any (Bs : Nat) (v : Value) (l : List Int) (w0 w : World) (hBs : Bs < w.heap.size) (hc : w.cell? ⟨Bs, 0, none⟩ = some v) (hl : IntsAt w0 v l) (hb0 : Below w0.heap.size w0 w) (hn : l.length ≤ 100000) :
    Calls Tryz.prog 146 #[.func (.func 148) #[] #[.pointer (some ⟨Bs, 0, none⟩)]] w fun e w' => ∃ u, e = .returned u ∧ Own encI 3 1 w.heap.size w' u l ∧ Below w.heap.size w w' := by
  have HA := Lib.hid ((callsIn_wide (n := 5)).1 (appendSeqI_in Fence.wide 5 trivial rfl (by omega) 148 #[.pointer (some ⟨Bs, 0, none⟩)] trivial (enters_of Tryz.func148 (by kernel_rfl) rfl) l hn w.heap.size w (Nat.le_refl _)
    (valuesI_stops Fence.wide 4 trivial rfl (by omega) Bs w.heap.size v l w0 w hBs (Nat.le_refl _) hc hl hb0.size hb0)))
  clear hc
  go_enter Tryz.func146, Tryz.ntmps146
  go_wp2_with fail
  refine HA.out.mono ?_
  rintro e w1 ⟨u, rfl, hown, hb1⟩
  go_wp2_with fail
  go_ret
  exact ⟨_, rfl, hown, hb1⟩
theorem flat_encI (l : List Int) : l.flatMap encI = l.map (.int .i64) := flat_one _ _
theorem grownBy_grow (w : World) (os : Array Obj) : w.grownBy (grow w os) none := ⟨rfl, rfl, rfl, by simp, fun k hk _ => heap_grow_old _ _ hk⟩
theorem sortI_any (B : Nat) (v : Value) (l : List Int) (w : World) (ho : Own encI 3 1 B w v l) (hB : B ≤ w.heap.size) (hn : l.length ≤ 100000) :
    Calls Tryz.prog 147 #[v] w fun e w' => e = .returned (.tuple #[]) ∧ Own encI 3 1 B w' v (sortI l) ∧ Below B w w' := by
  have ho' : w.ownsRow B 3 1 v l.length (l.map (.int .i64)) := by rw [← flat_encI]; exact ho
  by_cases hv : v = .slice none 0 0
  · subst hv
    have h0 : l = [] := by
      rcases ho'.2 with ⟨_, h0⟩ | ⟨g, cap, cur, e, _⟩
      · exact List.eq_nil_of_length_eq_zero h0
      · cases e
    subst h0
    refine (Tryz.slices_Sort_int_none none 0 w).mono ?_
    rintro e w' ⟨rfl, rfl⟩
    exact ⟨rfl, by simpa [sortI] using ho, Below.refl _ _⟩
  · obtain ⟨g, cap, rfl, hBg, hgl, hc, hcm, -, hH⟩ := Lib.holds_of_ownsRow ho' hv
    refine (Tryz.slices_Sort_int g 0 cap l w hH hgl (by omega)).mono ?_
    rintro e w' ⟨rfl, q, os, rfl⟩
    have h1 := Lib.ownsRow_putRow (q := q) (k := l.length) (ys := sortI l) ho' (by simp) (Nat.le_refl _)
    rw [List.take_of_length_le (by simp)] at h1
    refine ⟨rfl, ?_, (Lib.below_putRow (Below.refl _ _) hBg).grown (grownBy_grow _ os) (by simpa using hB) (fun j e => by cases e)⟩
    unfold Own
    rw [flat_encI, List.length_mergeSort]
    exact World.ownsRow.kept h1 (grownBy_grow _ os) (.inr (by simp [Value.ownBlock]))
theorem compactI_any (B : Nat) (v : Value) (l : List Int) (w : World) (ho : Own encI 3 1 B w v l) (hn : l.length ≤ 100000) :
    Calls Tryz.prog 115 #[v] w fun e w' => ∃ v', e = .returned v' ∧ Own encI 3 1 B w' v' (Lib.compact l) ∧ Below B w w' := by
  have ho' : w.ownsRow B 3 1 v l.length (l.map (.int .i64)) := by rw [← flat_encI]; exact ho
  by_cases hv : v = .slice none 0 0
  · subst hv
    have h0 : l = [] := by
      rcases ho'.2 with ⟨_, h0⟩ | ⟨g, cap, cur, e, _⟩
      · exact List.eq_nil_of_length_eq_zero h0
      · cases e
    subst h0
    refine (Tryz.slices_Compact_int_empty none 0 w).mono ?_
    rintro e w' ⟨rfl, rfl⟩
    exact ⟨_, rfl, by simpa [Lib.compact, Lib.compactUpTo] using ho, Below.refl _ _⟩
  · obtain ⟨g, cap, rfl, hBg, hgl, hc, hcm, -, hH⟩ := Lib.holds_of_ownsRow ho' hv
    have hle := Lib.compact_length_le l
    refine (Tryz.slices_Compact_int g 0 cap l w hH (by omega) hc).mono ?_
    rintro e w' ⟨rfl, q, rfl⟩
    refine ⟨_, rfl, ?_, Lib.below_putRow (Below.refl _ _) hBg⟩
    have hc := Lib.ownsRow_putRow (q := q) (k := (Lib.compact l).length) (ys := Lib.compact l ++ List.replicate (l.length - (Lib.compact l).length) 0) ho' (by simp; omega) (by omega)
    rw [List.take_left] at hc
    unfold Own
    rw [flat_encI]
    exact hc
theorem sortedI_any (Bs : Nat) (v : Value) (l : List Int) (w0 w : World) (hBs : Bs < w.heap.size) (hc : w.cell? ⟨Bs, 0, none⟩ = some v) (hl : IntsAt w0 v l) (hb0 : Below w0.heap.size w0 w) (hn : l.length ≤ 100000) :
    Calls Tryz.prog 113 #[.func (.func 148) #[] #[.pointer (some ⟨Bs, 0, none⟩)]] w fun e w' => ∃ u, e = .returned u ∧ Own encI 3 1 w.heap.size w' u (sortI l) ∧ Below w.heap.size w w' := by
  have HC := Lib.hid (collectI_any Bs v l w0 w hBs hc hl hb0 hn)
  clear hc
  go_enter Tryz.func113, Tryz.ntmps113
  go_wp2_with fail
  refine HC.out.mono ?_
  rintro e w1 ⟨u, rfl, hown, hb1⟩
  have HS := Lib.hid (sortI_any w.heap.size u l w1 hown hb1.size hn)
  go_wp2_with fail
  refine HS.out.mono ?_
  rintro e w2 ⟨rfl, hown2, hb2⟩
  go_wp2_with fail
  go_ret
  exact ⟨_, rfl, hown2, hb1.trans hb2⟩
theorem goneKeys_any (v : Value) (l : List Int) (w : World) (hl : IntsAt w v l) (hn : l.length ≤ 100000) :
    Calls Tryz.prog 62 #[v] w fun e w' => ∃ u, e = .returned u ∧ Own encI 3 1 w.heap.size w' u (risOf l) ∧ Below w.heap.size w w' := by
  obtain ⟨a, c, rfl, -, -⟩ := hl.form'
  have hba : Below w.heap.size w (w.alloc (.cells #[.slice a l.length c] 39)) := (Below.refl _ _).alloc (Nat.le_refl _) _
  have c0 : (w.alloc (.cells #[.slice a l.length c] 39)).cell? ⟨w.heap.size, 0, none⟩ = some (.slice a l.length c) := by simp
  have HS := Lib.hid (sortedI_any w.heap.size _ l w _ (by simp) c0 hl hba hn)
  clear c0
  go_enter Tryz.func62, Tryz.ntmps62
  go_wp2_with fail
  refine (valuesI_any a l.length c w).mono ?_
  rintro e w1 ⟨rfl, rfl⟩
  go_wp2_with fail
  refine HS.out.mono ?_
  rintro e w2 ⟨u, rfl, hown, hb2⟩
  have HC := Lib.hid (compactI_any w.heap.size u (sortI l) w2 (hown.base (by simp)) (by simpa using hn))
  rw [compact_sort] at HC
  go_wp2_with fail
  refine HC.out.mono ?_
  rintro e w3 ⟨u3, rfl, hown3, hb3⟩
  go_wp2_with fail
  go_ret
  exact ⟨_, rfl, hown3, (hba.trans (hb2.mono hba.size)).trans hb3⟩
end Go.Proofs.YtlfkjbdkbdcdnaaGreatDoor
namespace Go.Proofs.YtlfkjbdkbdcdnaaGreatDoor
open Go.RowKit

theorem Own.stays3 {α : Type} {enc : α → List Value} {sz : Nat} {w w' : World} {v : Value} {l : List α} {e : TypeId} {B : Nat} (hen : Enc enc sz) (h : Own enc e sz B w v l) (hw : ∀ p : Addr, B ≤ p.block → p.block < w.heap.size → w'.cell? p = w.cell? p) : At enc sz w' v l := by
  rcases Nat.eq_zero_or_pos l.length with h0 | h0
  · obtain ⟨a, c, b, o, hv, ha, hc, hm, hx⟩ := h.at hen
    exact ⟨a, c, b, o, hv, ha, hc, hm, fun k x hk => absurd (List.getElem?_eq_some_iff.1 hk).1 (by omega)⟩
  · obtain ⟨g', cap, cur, rfl, hB, _, hc, hm, _, _⟩ := h.open h0
    refine ⟨_, cap, g', 0, rfl, fun _ => rfl, hc, hm, fun k x hk j u hu => ?_⟩
    have h1 := h.cells hen k x hk j u hu
    rw [Nat.zero_add]
    exact (hw ⟨g', k * sz + j, none⟩ hB (World.block_lt_of_cell? w _ h1)).trans h1
/-- Integers that lie where nothing lay before: whatever turns what lay there leaves them. -/
def FarI (B : Nat) (w : World) (v : Value) (l : List Int) : Prop := ∀ W : World, (∀ p : Addr, B ≤ p.block → p.block < w.heap.size → W.cell? p = w.cell? p) → IntsAt W v l
theorem FarI.here {B : Nat} {w : World} {v : Value} {l : List Int} (h : FarI B w v l) : IntsAt w v l := h w fun _ _ _ => rfl
theorem goneHas_any (v : Value) (l : List Int) (x : Int) (w : World) (hl : IntsAt w v l) (hn : l.length ≤ 100000) (hup : upI l) :
    Calls Tryz.prog 22 #[v, .int .i64 x] w fun e w' => e = .returned (.bool (decide (x ∈ l))) ∧ Below w.heap.size w w' := by
  obtain ⟨a, c, b, o, rfl, ha, hc, hcm, hx⟩ := hl
  rcases Nat.eq_zero_or_pos l.length with h0 | hpos
  · obtain rfl := List.eq_nil_of_length_eq_zero h0
    go_enter Tryz.func22, Tryz.ntmps22
    go_wp2_with fail
    refine (Tryz.slices_BinarySearch_int_empty a c x w).mono ?_
    rintro e w1 ⟨rfl, rfl⟩
    go_wp2_with fail
    go_ret
    exact ⟨ret_bool (by simp), Below.refl _ _⟩
  · obtain rfl := ha hpos
    have HS := Lib.hid (Tryz.slices_BinarySearch_int b o l.length c l x w (Nat.le_refl _) (by omega) (fun j hj => by
      have := hx j _ (getD_of hj) 0 _ rfl
      simpa using this) (by rw [List.take_length]; exact hup.imp fun {a b} h => Int.le_of_lt h))
    rw [List.take_length] at HS
    clear hx
    go_enter Tryz.func22, Tryz.ntmps22
    go_wp2_with fail
    refine HS.out.mono ?_
    rintro e w1 ⟨rfl, q, rfl⟩
    go_wp2_with fail
    go_ret
    exact ⟨ret_bool (by simp), Bdn (Below.refl _ _) _⟩
theorem goneBad_none {ls : List Str} {i : Nat} {s : Str} (h : ls[i]? = some s) (hn : numOf s = none) : goneBad ls i = 1 := by
  unfold goneBad; rw [h]; simp only; rw [hn]; rfl
theorem goneBad_far {ls : List Str} {i : Nat} {s : Str} {k : Int} (h : ls[i]? = some s) (hn : numOf s = some k) (hf : farN k) : goneBad ls i = 2 := by
  have e : numD s = k := by unfold numD; rw [hn]; rfl
  unfold goneBad; rw [h]; simp only; rw [hn, e]; simp only [Option.isNone_some, Bool.false_eq_true, if_false]; rw [if_pos hf]
theorem goneBad_near {ls : List Str} {i : Nat} {s : Str} {k : Int} (h : ls[i]? = some s) (hn : numOf s = some k) (hf : ¬ farN k) : goneBad ls i = if 0 < i ∧ ∃ t, ls[i - 1]? = some t ∧ k ≤ numD t then 9 else 0 := by
  have e : numD s = k := by unfold numD; rw [hn]; rfl
  unfold goneBad; rw [h]; simp only; rw [hn, e]; simp only [Option.isNone_some, Bool.false_eq_true, if_false]; rw [if_neg hf]
/-- Where the reading stands: the box holds the numbers of the lines read. -/
def GJ (ls : List Str) (O : Nat) (i : Nat) (W : World) : Prop := ∃ v, Boxed W O 39 v ∧ Own encI 3 1 O W v ((ls.take i).map numD)
set_option maxHeartbeats 2000000 in
set_option maxRecDepth 20000 in
theorem goneRead1_any (E : Nat → Addr) (B : Nat) (ls : List Str) (O i : Nat) (s : Str) (w : World) (hE : Errs [1, 2, 9] E B w) (hT : LNum B w) (hs : ls[i]? = some s) (hJ : GJ ls O i w) (hn : ls.length ≤ 100000) (hsl : s.length ≤ 100000) :
    Calls Tryz.prog 69 #[.int .i64 i, S s, .pointer (some ⟨O, 0, none⟩)] w fun e w' => ∃ ev, e = .returned ev ∧ ErV E w' ev (erOf (goneBad ls i)) ∧ (goneBad ls i = 0 → GJ ls O (i + 1) w') ∧ Below O w w' := by
  have hBw := hE.le
  obtain ⟨v, hv, hown⟩ := hJ
  have hO : O < w.heap.size := hv.lt
  have hE1 := fun w1 (hb : Below w.heap.size w w1) => (⟨(hE.below' hb hBw).var 1 (by decide), (hE.below' hb hBw).var 2 (by decide), (hE.below' hb hBw).var 9 (by decide)⟩ : _ ∧ _ ∧ _)
  simp only [errG] at hE1
  have HE1 := Lib.hid hE1
  have hlen : ((ls.take i).map numD).length = i := by rw [List.length_map, List.length_take]; have := (List.getElem?_eq_some_iff.1 hs).1; omega
  have hi1 := (List.getElem?_eq_some_iff.1 hs).1
  have HN := Lib.hid (number_any B s w hT hsl)
  have hsn : (ls.take (i + 1)).map numD = (ls.take i).map numD ++ [numD s] := by rw [take_snoc' hs, List.map_append]; rfl
  have HB1 := Lib.hid (goneBad_none hs)
  have HB2 := Lib.hid (fun k => @goneBad_far ls i s k hs)
  have HB3 := Lib.hid (fun k => @goneBad_near ls i s k hs)
  have hprev : ∀ y, 0 < i → ((ls.take i).map numD)[i - 1]? = some y → ((∃ t, ls[i - 1]? = some t ∧ numD s ≤ numD t) ↔ numD s ≤ y) := fun y h0 hy => by
    rw [List.getElem?_map, List.getElem?_take_of_lt (by omega)] at hy
    cases ht : ls[i - 1]? with
    | none => rw [ht] at hy; cases hy
    | some t =>
      rw [ht] at hy
      cases hy
      exact ⟨fun ⟨t', e, h⟩ => by cases e; exact h, fun h => ⟨t, rfl, h⟩⟩
  obtain ⟨q, hq⟩ : ∃ q, (ls.take i).map numD = q := ⟨_, rfl⟩
  rw [hq] at hown hlen hsn hprev
  have HSn := Lib.hid hsn
  have HPrev := Lib.hid hprev
  have HLen := Lib.hid hlen
  obtain ⟨atn, hat⟩ : ∃ m, atoiN s = m := ⟨_, rfl⟩
  obtain ⟨o, ho⟩ : ∃ o, numOf s = o := ⟨_, rfl⟩
  have hom : ∀ n, o = some n → atn = n := fun n h => by rw [← hat, ← numOf_atoiN (ho.trans h)]
  have hnd : ∀ n, o = some n → numD s = n := fun n h => by unfold numD; rw [ho, h]; rfl
  rw [hat, ho] at HN
  rw [ho] at HB1
  simp only [ho] at HB2 HB3
  have HHnd := Lib.hid hnd
  clear hE1 hs hsn hprev hat ho hnd hq hlen
  go_enter Tryz.func69, Tryz.ntmps69
  go_wp2_with fail
  refine HN.out.mono ?_
  rintro e w1 ⟨rfl, hb1⟩
  obtain ⟨v1, v2, v3⟩ := HE1.out _ hb1
  cases o with
  | none =>
    have hbad : goneBad ls i = 1 := HB1.out rfl
    have HBad := Lib.hid hbad
    clear hbad hom
    simp only [Option.isSome_none]
    go_wp2_with fail
    go_ret
    exact ⟨_, rfl, by rw [HBad.out]; exact ⟨by decide, rfl⟩, fun h => (by rw [HBad.out] at h; cases h), hb1.mono (by omega)⟩
  | some k =>
    obtain rfl := hom k rfl
    have hnk := HHnd.out atn rfl
    simp only [Option.isSome_some]
    clear hom HHnd
    rw [hnk] at HSn HPrev
    clear hnk
    by_cases hf : farN atn
    case pos =>
      have hbad : goneBad ls i = 2 := HB2.out atn rfl hf
      have hd : decide (farN atn) = true := decide_eq_true hf
      have HBad := Lib.hid hbad
      clear hbad hf
      go_wp2_with (first | (go_at_call 64; refine (far_any _ _).mono ?_; rintro e w' ⟨rfl, rfl⟩; rw [hd]))
      go_ret
      exact ⟨_, rfl, by rw [HBad.out]; exact ⟨by decide, rfl⟩, fun h => (by rw [HBad.out] at h; cases h), hb1.mono (by omega)⟩
    have hd : decide (farN atn) = false := decide_eq_false hf
    have hbad := HB3.out atn rfl hf
    have HBad := Lib.hid hbad
    have hown1 := hown.below hb1
    have hv1 : Boxed w1 O 39 v := (hb1.block O hO).trans hv
    have hb1' : Below O w w1 := hb1.mono (by omega)
    have hO1 : O ≤ w1.heap.size := Nat.le_trans (by omega) hb1.size
    clear hbad hf HB1 HB2 HB3 hown hv
    have hbx := hv1.cell
    by_cases h0 : 0 < i
    case' pos =>
      obtain ⟨g, cap, cur, rfl, -⟩ := hown1.open (by rw [HLen.out]; exact h0)
      obtain ⟨y, hy⟩ := get_ex (l := q) (k := i - 1) (by rw [HLen.out]; omega)
      have hyc := hown1.cells1 (f := Value.int .i64) encI_enc (fun _ => rfl) (i - 1) y hy
      have hpv := HPrev.out y h0 hy
      have i2 := idx_at (n := q.length) (c := cap) (b := g) (o := 0) 1 Tryz.underlying39 szInt (fun _ => rfl) (i - 1) (by rw [HLen.out]; omega)
      have hcast : ((i - 1 : Nat) : Int) = (i : Int) - 1 := by omega
      simp only [hcast, Nat.mul_one, Nat.zero_add] at i2
      have hp1 : (0 : Int) < (i : Int) := by omega
      have hs0 : (0 : Int) ≤ (i : Int) - 1 := by omega
      have hs1 : (i : Int) - 1 < (q.length : Int) := by rw [HLen.out]; omega
      clear hy hcast
      by_cases hle : atn ≤ y
      case pos =>
        have HBad9 : Hid (goneBad ls i = 9) := Lib.hid (by rw [HBad.out, if_pos ⟨h0, hpv.2 hle⟩])
        clear hpv
        go_wp2_with (first | (go_at_call 64; refine (far_any _ _).mono ?_; rintro e w' ⟨rfl, rfl⟩; rw [hd]))
        go_ret
        exact ⟨_, rfl, by rw [HBad9.out]; exact ⟨by decide, rfl⟩, fun h => (by rw [HBad9.out] at h; cases h), hb1'⟩
      have hle2 : decide (atn ≤ y) = false := by simpa using hle
      have HBad0 : Hid (goneBad ls i = 0) := Lib.hid (by rw [HBad.out, if_neg (fun h => hle (hpv.1 h.2))])
      clear hpv hle
    case' neg =>
      have hp0 : decide ((0 : Int) < (i : Int)) = false := by simp; omega
      have HBad0 : Hid (goneBad ls i = 0) := Lib.hid (by rw [HBad.out, if_neg (fun h => h0 h.1)])
    all_goals
      go_wp2_with (first
        | (go_at_call 64; refine (far_any _ _).mono ?_; rintro e w' ⟨rfl, rfl⟩; rw [hd])
        | (at_builtin; refine wpList_app rfl _ _ _ rfl O elInt _ q.length _ rfl (hown1.alloc _) (.slice (some ⟨w1.heap.size, 0, none⟩) 1 1) 1 (encI atn) rfl (src_one rfl rfl (by simp [Value.oneCell'])) (by rw [HLen.out]; unfold maxLen; omega) (by rw [HLen.out]; omega) (by simp; omega) ?_; intro v' w2 hown2 hg2 _; obtain ⟨g', cap', rfl⟩ := ownsRow_succ hown2; obtain ⟨hq1, hq2, hq3, hq4, hq5⟩ := hv1.appended (by decide) hown1 hO1 (Nat.le_refl _) hown2 hg2; have hc1 := hq1.cell; have hf1 := hq1.frozen))
      go_ret
      exact ⟨_, rfl, by rw [HBad0.out]; rfl, fun _ => ⟨_, hq2, by rw [HSn.out]; exact Own.snoc hq3⟩, hb1'.trans hq5⟩
theorem readEr_split {word s : Str} {bad : List Str → Nat → Nat} {keys : List Str → List Int} (h : splitE word s ≠ .nil) : readEr word s bad keys = splitE word s := if_pos h
theorem readEr_each {word s : Str} {bad : List Str → Nat → Nat} {keys : List Str → List Int} (h : splitE word s = .nil) (h2 : eachEr (bad (splitL s)) (splitL s) ≠ .nil) : readEr word s bad keys = eachEr (bad (splitL s)) (splitL s) := by
  unfold readEr; rw [if_neg (by simpa using h), if_pos h2]
theorem readEr_full {word s : Str} {bad : List Str → Nat → Nat} {keys : List Str → List Int} (h : splitE word s = .nil) (h2 : eachEr (bad (splitL s)) (splitL s) = .nil) (h3 : 40 < (keys (splitL s).dropLast).length) : readEr word s bad keys = .bare 8 := by
  unfold readEr; rw [if_neg (by simpa using h), if_neg (by simpa using h2), if_pos h3]
theorem readEr_last {word s : Str} {bad : List Str → Nat → Nat} {keys : List Str → List Int} (h : splitE word s = .nil) (h2 : eachEr (bad (splitL s)) (splitL s) = .nil) (h3 : ¬ 40 < (keys (splitL s).dropLast).length) : readEr word s bad keys = if fitsI (splitN word s) (keys (splitL s).dropLast) then .nil else .bare 3 := by
  unfold readEr; rw [if_neg (by simpa using h), if_neg (by simpa using h2), if_neg h3]
theorem splitN_four {word s : Str} (h : splitE word s = .nil) : ∃ n0 n1 n2 n3, splitN word s = [n0, n1, n2, n3] := by
  unfold splitE at h
  split at h
  · cases h
  cases hn : headN word s with
  | none => rw [hn] at h; cases h
  | some n =>
    obtain ⟨n0, n1, n2, n3, rfl, -⟩ := headN_some hn
    exact ⟨n0, n1, n2, n3, by unfold splitN; rw [hn]; rfl⟩
theorem splitL_len {s : Str} {m : Nat} (h : s.length ≤ m) : (splitL s).length ≤ m + 1 ∧ ∀ x ∈ splitL s, x.length ≤ m := by
  have hc := (cut_len s [10]).2
  unfold splitL
  constructor
  · rw [cutAt_length]
    have h2 : (Lib.cut s [10]).2.1.count 10 ≤ (Lib.cut s [10]).2.1.length := List.count_le_length
    omega
  · intro x hx
    have := cutAt_mem_len (c := 10) hx
    omega
set_option maxHeartbeats 2000000 in
set_option maxRecDepth 20000 in
theorem goneReadFar_any (E : Nat → Addr) (B : Nat) (s : Str) (w : World) (hE : Errs [1, 2, 3, 8, 9, 10] E B w) (hT : LNum B w) (hM : LMax B w) (hs : s.length ≤ 50000) :
    Calls Tryz.prog 19 #[S s] w fun e w' => ∃ u ev, e = .returned (.tuple #[u, ev]) ∧ ErV E w' ev (goneE s) ∧ FarI w.heap.size w' u (goneL s) ∧ Below w.heap.size w w' := by
  have hBw := hE.le
  have hif := isIfaceE
  have hE1 := fun w1 (hb : Below w.heap.size w w1) => (⟨(hE.below' hb hBw).var 3 (by decide), (hE.below' hb hBw).var 8 (by decide)⟩ : _ ∧ _)
  simp only [errG] at hE1
  have HE1 := Lib.hid hE1
  have X := Lib.hid (fun W (h : Below w.heap.size w W) => (⟨hE.below' h hBw, hT.below' h hBw, hM.below' h hBw⟩ : Errs [1, 2, 3, 8, 9, 10] E B W ∧ LNum B W ∧ LMax B W))
  obtain ⟨hll, hlm⟩ := splitL_len hs
  have HS := Lib.hid (dataSplit_any E B kGone s w (hE.sub (by decide)) hT hM (by omega))
  have hG : goneE s = readEr kGone s goneBad (fun l => l.map numD) := rfl
  have hL : goneL s = if goneE s = .nil then (splitL s).dropLast.map numD else [] := rfl
  have HL := Lib.hid hL
  have HG := Lib.hid hG
  have HLm := Lib.hid hlm
  have HF4 := Lib.hid (@splitN_four kGone s)
  have H1 := Lib.hid (@readEr_split kGone s goneBad (fun l => l.map numD))
  have H2 := Lib.hid (@readEr_each kGone s goneBad (fun l => l.map numD))
  have H3 := Lib.hid (@readEr_full kGone s goneBad (fun l => l.map numD))
  have H4 := Lib.hid (@readEr_last kGone s goneBad (fun l => l.map numD))
  clear hG hL hE1 hlm
  generalize splitN kGone s = ns at *
  generalize splitL s = ls at *
  go_enter Tryz.func19, Tryz.ntmps19
  go_wp2_with fail
  refine HS.out.mono ?_
  rintro e w1 ⟨vn, vl, ev, rfl, hev, hgood, hb1⟩
  by_cases h0 : splitE kGone s = .nil
  case neg =>
    obtain ⟨t1, x1, rfl⟩ := hev.iface h0
    have hGe : goneE s = splitE kGone s := HG.out.trans (H1.out h0)
    have HGe := Lib.hid hGe
    have HLe : Hid (goneL s = []) := Lib.hid (by rw [HL.out, hGe, if_neg h0])
    clear h0 hgood hGe
    go_wp2_with fail
    go_ret2
    exact ⟨_, _, rfl, by rw [HGe.out]; exact hev, fun _ _ => (by rw [HLe.out]; exact At.nil _ _ _), hb1⟩
  rw [h0] at hev
  obtain rfl : ev = .nilIface := hev
  obtain ⟨hon, hol⟩ := hgood h0
  obtain ⟨n0, n1, n2, n3, hns⟩ := HF4.out h0
  have H0 := Lib.hid h0
  have HNs := Lib.hid hns
  have hat := hol.at encS_enc
  have hba : Below w1.heap.size w1 (w1.alloc (.cells #[.slice none 0 0] 39)) := (Below.refl _ _).alloc (Nat.le_refl _) _
  have hbA := hb1.trans (hba.mono hb1.size)
  have hEa := dataEach_any E B vl ls 69 #[.pointer (some ⟨w1.heap.size, 0, none⟩)] (goneBad ls) (GJ ls w1.heap.size) w1.heap.size _ ((X.out _ hbA).1.sub (by decide)) (Nat.le_trans hBw hb1.size) (by simp) (enters_of Tryz.func69 (by kernel_rfl) rfl) w1 hat (Nat.le_refl _) hba (by omega)
    ⟨_, Boxed.new w1 39 (.slice none 0 0), Own.nil _ _ _ _ _⟩
    (fun i x W hx hJ hbW => by
      have hbW' := hbA.trans (hbW.mono hb1.size)
      have := goneRead1_any E B ls w1.heap.size i x W ((X.out _ hbW').1.sub (by decide)) (X.out _ hbW').2.1 hx hJ (by omega) (by have := HLm.out x (List.mem_of_getElem? hx); omega)
      exact this)
  have HEa := Lib.hid hEa
  have HOn := Lib.hid hon
  clear hEa hgood hol hat h0 hns hon
  go_wp2_with fail
  refine HEa.out.mono ?_
  rintro e w2 ⟨ev, rfl, hev, hJ, hb2⟩
  have hb12 := hba.trans hb2
  have hb2' := hb1.trans (hb12.mono hb1.size)
  by_cases he : eachEr (goneBad ls) ls = .nil
  case neg =>
    obtain ⟨t1, x1, rfl⟩ := hev.iface he
    have hGe : goneE s = eachEr (goneBad ls) ls := HG.out.trans (H2.out H0.out he)
    have HGe := Lib.hid hGe
    have HLe : Hid (goneL s = []) := Lib.hid (by rw [HL.out, hGe, if_neg he])
    clear he hJ hGe
    go_wp2_with fail
    go_ret2
    exact ⟨_, _, rfl, by rw [HGe.out]; exact hev, fun _ _ => (by rw [HLe.out]; exact At.nil _ _ _), hb2'⟩
  rw [he] at hev
  obtain rfl : ev = .nilIface := hev
  obtain ⟨v, hv, hown⟩ := hJ he
  rw [← List.dropLast_eq_take] at hown
  have H3' := Lib.hid (H3.out H0.out he)
  have H4' := Lib.hid (H4.out H0.out he)
  obtain ⟨keys, hkeys⟩ : ∃ keys, ls.dropLast.map numD = keys := ⟨_, rfl⟩
  rw [hkeys] at hown HL H3' H4'
  obtain ⟨a, c, rfl, -, -⟩ := (hown.at encI_enc).form'
  have hbx := hv.cell
  have HOwn := Lib.hid hown
  have hkl : keys.length ≤ 60000 := by rw [← hkeys, List.length_map, List.length_dropLast]; omega
  obtain ⟨v3, v8⟩ := HE1.out _ hb2'
  clear he hkeys hown HEa
  by_cases h40 : 40 < keys.length
  case pos =>
    have g : (40 : Int) < (keys.length : Int) := by omega
    have hGe : goneE s = .bare 8 := HG.out.trans (H3'.out h40)
    have HGe := Lib.hid hGe
    have HLe : Hid (goneL s = []) := Lib.hid (by rw [HL.out, hGe]; rfl)
    clear h40 hGe
    go_wp2_with fail
    go_quiet (fail)
    go_wp2_with fail
    go_ret2
    exact ⟨_, _, rfl, by rw [HGe.out]; exact ⟨by decide, rfl⟩, fun _ _ => (by rw [HLe.out]; exact At.nil _ _ _), Bdn hb2' _⟩
  have g : decide ((40 : Int) < (keys.length : Int)) = false := by simp; omega
  have hGe := HG.out.trans (H4'.out h40)
  have hFi := dataFits_any vn n0 n1 n2 n3 _ keys w2 (by have := (HOn.out.below hb12).at encI_enc; rwa [HNs.out] at this) (HOwn.out.at encI_enc) (by omega)
  rw [← HNs.out] at hFi
  have HGe := Lib.hid hGe
  have HFi := Lib.hid hFi
  clear h40 hGe hFi
  by_cases hf : fitsI ns keys
  case neg =>
    have hGe : goneE s = .bare 3 := by rw [HGe.out, if_neg hf]
    have HGe3 := Lib.hid hGe
    have HLe : Hid (goneL s = []) := Lib.hid (by rw [HL.out, hGe]; rfl)
    rw [decide_eq_false hf] at HFi
    clear hf hGe
    go_wp2_with fail
    refine HFi.out.mono ?_
    rintro e w3 ⟨rfl, hb3⟩
    have hb3' := hb2'.trans (hb3.mono hb2'.size)
    clear v3 v8
    obtain ⟨v3, v8⟩ := HE1.out _ hb3'
    go_wp2_with fail
    go_quiet (fail)
    go_wp2_with fail
    go_ret2
    exact ⟨_, _, rfl, by rw [HGe3.out]; exact ⟨by decide, rfl⟩, fun _ _ => (by rw [HLe.out]; exact At.nil _ _ _), Bdn hb3' _⟩
  have hGe : goneE s = .nil := by rw [HGe.out, if_pos hf]
  have HGe3 := Lib.hid hGe
  have HLe : Hid (goneL s = keys) := Lib.hid (by rw [HL.out, hGe, if_pos rfl])
  rw [decide_eq_true hf] at HFi
  clear hf hGe
  go_wp2_with fail
  refine HFi.out.mono ?_
  rintro e w3 ⟨rfl, hb3⟩
  have hb3' := hb2'.trans (hb3.mono hb2'.size)
  have hbx3 := (hb3.cell hv.lt).trans hbx
  clear hbx
  go_wp2_with fail
  go_ret2
  exact ⟨_, _, rfl, by rw [HGe3.out]; rfl, fun W hW => (by rw [HLe.out]; exact Own.stays3 encI_enc (HOwn.out.below hb3) (fun p hp hp2 => hW p (Nat.le_trans hb1.size hp) hp2)), hb3'⟩
theorem goneRead_any (E : Nat → Addr) (B : Nat) (s : Str) (w : World) (hE : Errs [1, 2, 3, 8, 9, 10] E B w) (hT : LNum B w) (hM : LMax B w) (hs : s.length ≤ 50000) :
    Calls Tryz.prog 19 #[S s] w fun e w' => ∃ u ev, e = .returned (.tuple #[u, ev]) ∧ ErV E w' ev (goneE s) ∧ IntsAt w' u (goneL s) ∧ Below w.heap.size w w' :=
  (goneReadFar_any E B s w hE hT hM hs).mono fun _ _ ⟨u, ev, h1, h2, h3, h4⟩ => ⟨u, ev, h1, h2, h3.here, h4⟩
end Go.Proofs.YtlfkjbdkbdcdnaaGreatDoor
namespace Go.Proofs.YtlfkjbdkbdcdnaaGreatDoor
open Go.RowKit

theorem dataBad_row {ls : List Str} {i : Nat} {s : Str} (h : ls[i]? = some s) (hc : (rowRead s).2 ≠ 0) : dataBad ls i = (rowRead s).2 := by
  unfold dataBad; rw [h]; simp only; rw [if_pos hc]
theorem dataBad_fine {ls : List Str} {i : Nat} {s : Str} (h : ls[i]? = some s) (hc : (rowRead s).2 = 0) : dataBad ls i = if 0 < i ∧ ∃ t, ls[i - 1]? = some t ∧ lessR (rowD s) (rowD t) = true then 9 else 0 := by
  unfold dataBad; rw [h]; simp only; rw [if_neg (fun h => h hc)]
/-- Where the reading stands: the box holds the rows of the lines read. -/
def DJ (ls : List Str) (O : Nat) (i : Nat) (W : World) : Prop := ∃ v, Boxed W O 22 v ∧ Own encR 36 3 O W v ((ls.take i).map rowD)
set_option maxHeartbeats 4000000 in
set_option maxRecDepth 20000 in
theorem dataRead1_any (E : Nat → Addr) (B : Nat) (ls : List Str) (O i : Nat) (s : Str) (w : World) (hE : Errs [1, 2, 5, 9] E B w) (hT : LNum B w) (hM : LMax B w) (hs : ls[i]? = some s) (hJ : DJ ls O i w) (hn : ls.length ≤ 100000) (hsl : s.length ≤ 10000) :
    Calls Tryz.prog 86 #[.int .i64 i, S s, .pointer (some ⟨O, 0, none⟩)] w fun e w' => ∃ ev, e = .returned ev ∧ ErV E w' ev (erOf (dataBad ls i)) ∧ (dataBad ls i = 0 → DJ ls O (i + 1) w') ∧ Below O w w' := by
  have hBw := hE.le
  have hif := isIfaceE
  obtain ⟨v, hv, hown⟩ := hJ
  have hO : O < w.heap.size := hv.lt
  have hE1 := fun w1 (hb : Below w.heap.size w w1) => (hE.below' hb hBw).var 9 (by decide)
  simp only [errG] at hE1
  have HE1 := Lib.hid hE1
  have hlen : ((ls.take i).map rowD).length = i := by rw [List.length_map, List.length_take]; have := (List.getElem?_eq_some_iff.1 hs).1; omega
  have hi1 := (List.getElem?_eq_some_iff.1 hs).1
  have HN := Lib.hid (rowRead_any E B s w (hE.sub (by decide)) hT hM hsl)
  have hsn : (ls.take (i + 1)).map rowD = (ls.take i).map rowD ++ [rowD s] := by rw [take_snoc' hs, List.map_append]; rfl
  have HB1 := Lib.hid (dataBad_row hs)
  have HB2 := Lib.hid (dataBad_fine hs)
  have hprev : ∀ y, 0 < i → ((ls.take i).map rowD)[i - 1]? = some y → ((∃ t, ls[i - 1]? = some t ∧ lessR (rowD s) (rowD t) = true) ↔ lessR (rowD s) y = true) := fun y h0 hy => by
    rw [List.getElem?_map, List.getElem?_take_of_lt (by omega)] at hy
    cases ht : ls[i - 1]? with
    | none => rw [ht] at hy; cases hy
    | some t =>
      rw [ht] at hy
      cases hy
      exact ⟨fun ⟨t', e, h⟩ => by cases e; exact h, fun h => ⟨t, rfl, h⟩⟩
  obtain ⟨q, hq⟩ : ∃ q, (ls.take i).map rowD = q := ⟨_, rfl⟩
  rw [hq] at hown hlen hsn hprev
  have HSn := Lib.hid hsn
  have HPrev := Lib.hid hprev
  have HLen := Lib.hid hlen
  have hxd : rowD s = (rowRead s).1 := rfl
  rw [hxd] at HSn HPrev HB2
  obtain ⟨x, hx⟩ : ∃ x, (rowRead s).1 = x := ⟨_, rfl⟩
  obtain ⟨c, hc⟩ : ∃ c, (rowRead s).2 = c := ⟨_, rfl⟩
  rw [hx] at HSn HPrev HB2 HN
  rw [hc] at HB1 HB2 HN
  clear hE1 hs hsn hprev hq hlen hxd hx hc
  go_enter Tryz.func86, Tryz.ntmps86
  go_wp2_with fail
  refine HN.out.mono ?_
  rintro e w1 ⟨ev, rfl, hev, hb1⟩
  have hba : Below w1.heap.size w1 (w1.alloc (.cells #[S x.part, .int .i64 x.key, .int .i64 x.val] 36)) := (Below.refl _ _).alloc (Nat.le_refl _) _
  have hb2 := hb1.trans (hba.mono hb1.size)
  by_cases h0 : c = 0
  case neg =>
    have HBad : Hid (dataBad ls i = c) := Lib.hid (HB1.out h0)
    have hev' : ErV E w1 ev (.bare c) := by unfold erOf at hev; rwa [if_neg h0] at hev
    obtain ⟨t1, x1, rfl⟩ := hev'.iface (by simp)
    have HEv := Lib.hid (hev.below hba)
    have HC0 := Lib.hid h0
    clear hev hev' h0
    go_wp2_with fail
    go_ret
    exact ⟨_, rfl, by rw [HBad.out]; exact HEv.out, fun h => absurd (HBad.out.symm.trans h) HC0.out, hb2.mono (Nat.le_of_lt hO)⟩
  subst h0
  have hev' : ev = .nilIface := by unfold erOf at hev; rw [if_pos rfl] at hev; exact hev
  subst hev'
  have CR := Lib.hid (fun W (h : Below (w1.alloc (.cells #[S x.part, .int .i64 x.key, .int .i64 x.val] 36)).heap.size (w1.alloc (.cells #[S x.part, .int .i64 x.key, .int .i64 x.val] 36)) W) => rowCells (r := x) (w := w1) rfl h)
  have HBad := Lib.hid (HB2.out rfl)
  clear hev HB1 HB2 HN hba
  go_upto_region 4 with fail
  generalize w1.alloc (.cells #[S x.part, .int .i64 x.key, .int .i64 x.val] 36) = w2 at *
  obtain ⟨d0, d1, d2⟩ := CR.out _ (Below.refl _ _)
  by_cases h0 : 0 < i
  case neg =>
    have hp0 : decide ((0 : Int) < (i : Int)) = false := by simp; omega
    have HBad0 : Hid (dataBad ls i = 0) := Lib.hid (by rw [HBad.out, if_neg (fun h => h0 h.1)])
    have hv2 : Boxed w2 O 22 v := (hb2.block O hO).trans hv
    have hbx := hv2.cell
    have hp0' : decide (0 < i) = false := by simp; omega
    go_wp2_with fail
    go_quiet (fail)
    clear hbx hv2
    have hown3 := hown.below (Bdn hb2 nq)
    have hv3 : Boxed (w2.drewN nq) O 22 v := (((Bdn hb2 nq)).block O hO).trans hv
    have hbO := (Bdn hb2 nq).mono (Nat.le_of_lt hO)
    have hO3 : O ≤ w2.heap.size := Nat.le_trans (Nat.le_of_lt hO) hbO.size
    have hbx := hv3.cell
    clear hown hv
    go_wp2_with (at_builtin; refine wpList_app rfl _ _ _ rfl O elRw _ q.length _ rfl (hown3.alloc _) (.slice (some ⟨w2.heap.size, 0, none⟩) 1 1) 1 (encR x) rfl (src_one rfl rfl (by simp [Value.oneCell'])) (by rw [HLen.out]; unfold maxLen; omega) (by rw [HLen.out]; omega) (by simp; omega) ?_; intro v' w5 hown5 hg5 _; obtain ⟨g5, cap5, rfl⟩ := ownsRow_succ hown5; obtain ⟨hq1, hq2, hq3, hq4, hq5⟩ := hv3.appended (by decide) hown3 hO3 (Nat.le_refl _) hown5 hg5; have hc1 := hq1.cell; have hf1 := hq1.frozen)
    go_ret
    exact ⟨_, rfl, by rw [HBad0.out]; rfl, fun _ => ⟨_, hq2, by rw [HSn.out]; exact Own.snoc hq3⟩, hbO.trans hq5⟩
  obtain ⟨g, cap, cur, rfl, -⟩ := hown.open (by rw [HLen.out]; exact h0)
  obtain ⟨y, hy⟩ := get_ex (l := q) (k := i - 1) (by rw [HLen.out]; omega)
  have hyc := fun j u hu => hown.cells encR_enc (i - 1) y hy j u hu
  have y0 := hyc 0 _ rfl
  have y1 := hyc 1 _ rfl
  have y2 := hyc 2 _ rfl
  simp only [Nat.add_zero] at y0 y1 y2
  have hbx0 := hv.cell
  have KC := Lib.hid (fun W (h : Below w.heap.size w W) => (⟨(h.cell (World.block_lt_of_cell? w _ y0)).trans y0, (h.cell (World.block_lt_of_cell? w _ y1)).trans y1, (h.cell (World.block_lt_of_cell? w _ y2)).trans y2, (h.cell (World.block_lt_of_cell? w _ hbx0)).trans hbx0⟩ : _ ∧ _ ∧ _ ∧ _))
  have hpv := HPrev.out y h0 hy
  have i2 := idx_at (n := q.length) (c := cap) (b := g) (o := 0) 3 Tryz.underlying22 szRw (fun _ => rfl) (i - 1) (by rw [HLen.out]; omega)
  have hcast : ((i - 1 : Nat) : Int) = (i : Int) - 1 := by omega
  simp only [hcast, Nat.zero_add] at i2
  have hp1 : (0 : Int) < (i : Int) := by omega
  have hs0 : (0 : Int) ≤ (i : Int) - 1 := by omega
  have hs1 : (i : Int) - 1 < (q.length : Int) := by rw [HLen.out]; omega
  have HLs := Lib.hid (fun W => rowLess_any x y W)
  have hbD : Below w2.heap.size w2 w2.drew := (Below.refl _ _).drew
  have hwk : IntKind.i64.wrap ((i : Int) - 1) = (i : Int) - 1 := by rw [IntKind.wrap_i64]; omega
  have hp4 : (1 : Int) ≤ (i : Int) := by omega
  have hp2 : decide ((0 : Int) < (i : Int)) = true := by simpa using h0
  have hp3 : decide (0 < i) = true := by simpa using h0
  clear d0 d1 d2
  obtain ⟨d0, d1, d2⟩ := CR.out _ hbD
  obtain ⟨cy0, cy1, cy2, cb⟩ := KC.out _ (hb2.trans (hbD.mono hb2.size))
  have H0 := Lib.hid h0
  have HPv := Lib.hid hpv
  clear hy hcast hyc y0 y1 y2 hbx0 hpv
  generalize lessR x y = less at *
  go_wp2_with fail
  go_region_held3 (fun w' => w'.cell? ⟨w1.heap.size, 0, none⟩ = some (S x.part) ∧ w'.cell? ⟨w1.heap.size, 1, none⟩ = some (.int .i64 x.key) ∧ w'.cell? ⟨w1.heap.size, 2, none⟩ = some (.int .i64 x.val) ∧ w'.cell? ⟨g, (i - 1) * 3, none⟩ = some (S y.part) ∧ w'.cell? ⟨g, (i - 1) * 3 + 1, none⟩ = some (.int .i64 y.key) ∧ w'.cell? ⟨g, (i - 1) * 3 + 2, none⟩ = some (.int .i64 y.val) ∧ w'.cell? ⟨O, 0, none⟩ = some (.slice (some ⟨g, 0, none⟩) q.length cap)) (exact ⟨d0, d1, d2, cy0, cy1, cy2, cb⟩) ((go_at_call 88; (with_reducible refine (HLs.out _).mono ?_); rintro e wq ⟨rfl, hbq⟩; have hbq' := hbD.trans (hbq.mono hbD.size); have hb4 := hb2.trans (hbq'.mono hb2.size); clear d0 d1 d2 cy0 cy1 cy2 cb; obtain ⟨d0, d1, d2⟩ := CR.out _ hbq'; obtain ⟨cy0, cy1, cy2, cb⟩ := KC.out _ hb4))
  all_goals
    cases less with
    | true =>
      have HBad9 : Hid (dataBad ls i = 9) := Lib.hid (by rw [HBad.out, if_pos ⟨H0.out, HPv.out.2 rfl⟩])
      have v9 := HE1.out _ hb4
      go_wp2_with fail
      go_ret
      exact ⟨_, rfl, by rw [HBad9.out]; exact ⟨by decide, rfl⟩, fun h => (by rw [HBad9.out] at h; cases h), hb4.mono (Nat.le_of_lt hO)⟩
    | false =>
      have HBad0 : Hid (dataBad ls i = 0) := Lib.hid (by rw [HBad.out, if_neg (fun h => Bool.false_ne_true (HPv.out.1 h.2))])
      clear cy0 cy1 cy2 cb
      have hown3 := hown.below hb4
      have hv3 : Boxed wq O 22 (.slice (some ⟨g, 0, none⟩) q.length cap) := ((hb4).block O hO).trans hv
      have hbO := hb4.mono (Nat.le_of_lt hO)
      have hO3 : O ≤ wq.heap.size := Nat.le_trans (Nat.le_of_lt hO) hbO.size
      have hbx := hv3.cell
      clear hown hv
      go_wp2_with (at_builtin; refine wpList_app rfl _ _ _ rfl O elRw _ q.length _ rfl (hown3.alloc _) (.slice (some ⟨wq.heap.size, 0, none⟩) 1 1) 1 (encR x) rfl (src_one rfl rfl (by simp [Value.oneCell'])) (by rw [HLen.out]; unfold maxLen; omega) (by rw [HLen.out]; omega) (by simp; omega) ?_; intro v' w5 hown5 hg5 _; obtain ⟨g5, cap5, rfl⟩ := ownsRow_succ hown5; obtain ⟨hq1, hq2, hq3, hq4, hq5⟩ := hv3.appended (by decide) hown3 hO3 (Nat.le_refl _) hown5 hg5; have hc1 := hq1.cell; have hf1 := hq1.frozen)
      go_ret
      exact ⟨_, rfl, by rw [HBad0.out]; rfl, fun _ => ⟨_, hq2, by rw [HSn.out]; exact Own.snoc hq3⟩, hbO.trans hq5⟩
/-- Rows that lie where nothing lay before: whatever turns what lay there leaves them. -/
def FarR (B : Nat) (w : World) (v : Value) (l : List Rw) : Prop := ∀ W : World, (∀ p : Addr, B ≤ p.block → p.block < w.heap.size → W.cell? p = w.cell? p) → RowsAt W v l
theorem FarR.here {B : Nat} {w : World} {v : Value} {l : List Rw} (h : FarR B w v l) : RowsAt w v l := h w fun _ _ _ => rfl
set_option maxHeartbeats 2000000 in
set_option maxRecDepth 20000 in
theorem dataReadFar_any (E : Nat → Addr) (B : Nat) (s : Str) (w : World) (hE : Errs [1, 2, 3, 5, 8, 9, 10] E B w) (hT : LNum B w) (hM : LMax B w) (hs : s.length ≤ 10000 ∨ 20000 < s.length) (hs2 : s.length ≤ 50000) :
    Calls Tryz.prog 36 #[S s] w fun e w' => ∃ u ev, e = .returned (.tuple #[u, ev]) ∧ ErV E w' ev (dataE s) ∧ FarR w.heap.size w' u (dataL s) ∧ Below w.heap.size w w' := by
  have hBw := hE.le
  have hif := isIfaceE
  have hE1 := fun w1 (hb : Below w.heap.size w w1) => (⟨(hE.below' hb hBw).var 3 (by decide), (hE.below' hb hBw).var 8 (by decide)⟩ : _ ∧ _)
  simp only [errG] at hE1
  have HE1 := Lib.hid hE1
  have X := Lib.hid (fun W (h : Below w.heap.size w W) => (⟨hE.below' h hBw, hT.below' h hBw, hM.below' h hBw⟩ : Errs [1, 2, 3, 5, 8, 9, 10] E B W ∧ LNum B W ∧ LMax B W))
  obtain ⟨hll, -⟩ := splitL_len hs2
  have hlm : splitE kData s = .nil → ∀ x ∈ splitL s, x.length ≤ 10000 := fun h => (splitL_len (m := 10000) (by rcases hs with h1 | h1; exact h1; rw [splitE_long h1] at h; cases h)).2
  have HS := Lib.hid (dataSplit_any E B kData s w (hE.sub (by decide)) hT hM (by omega))
  have hG : dataE s = readEr kData s dataBad (fun l => keysR (l.map rowD)) := rfl
  have hL : dataL s = if dataE s = .nil then (splitL s).dropLast.map rowD else [] := rfl
  have HL := Lib.hid hL
  have HG := Lib.hid hG
  have HLm := Lib.hid hlm
  have HF4 := Lib.hid (@splitN_four kData s)
  have H1 := Lib.hid (@readEr_split kData s dataBad (fun l => keysR (l.map rowD)))
  have H2 := Lib.hid (@readEr_each kData s dataBad (fun l => keysR (l.map rowD)))
  have H3 := Lib.hid (@readEr_full kData s dataBad (fun l => keysR (l.map rowD)))
  have H4 := Lib.hid (@readEr_last kData s dataBad (fun l => keysR (l.map rowD)))
  clear hG hL hE1 hlm
  generalize splitN kData s = ns at *
  generalize splitL s = ls at *
  go_enter Tryz.func36, Tryz.ntmps36
  go_wp2_with fail
  refine HS.out.mono ?_
  rintro e w1 ⟨vn, vl, ev, rfl, hev, hgood, hb1⟩
  by_cases h0 : splitE kData s = .nil
  case neg =>
    obtain ⟨t1, x1, rfl⟩ := hev.iface h0
    have hGe : dataE s = splitE kData s := HG.out.trans (H1.out h0)
    have HGe := Lib.hid hGe
    have HLe : Hid (dataL s = []) := Lib.hid (by rw [HL.out, hGe, if_neg h0])
    clear h0 hgood hGe
    go_wp2_with fail
    go_ret2
    exact ⟨_, _, rfl, by rw [HGe.out]; exact hev, fun _ _ => (by rw [HLe.out]; exact At.nil _ _ _), hb1⟩
  rw [h0] at hev
  obtain rfl : ev = .nilIface := hev
  obtain ⟨hon, hol⟩ := hgood h0
  obtain ⟨n0, n1, n2, n3, hns⟩ := HF4.out h0
  have H0 := Lib.hid h0
  have HNs := Lib.hid hns
  have hat := hol.at encS_enc
  have hba : Below w1.heap.size w1 (w1.alloc (.cells #[.slice none 0 0] 22)) := (Below.refl _ _).alloc (Nat.le_refl _) _
  have hbA := hb1.trans (hba.mono hb1.size)
  have hEa := dataEach_any E B vl ls 86 #[.pointer (some ⟨w1.heap.size, 0, none⟩)] (dataBad ls) (DJ ls w1.heap.size) w1.heap.size _ ((X.out _ hbA).1.sub (by decide)) (Nat.le_trans hBw hb1.size) (by simp) (enters_of Tryz.func86 (by kernel_rfl) rfl) w1 hat (Nat.le_refl _) hba (by omega)
    ⟨_, Boxed.new w1 22 (.slice none 0 0), Own.nil _ _ _ _ _⟩
    (fun i x W hx hJ hbW => by
      have hbW' := hbA.trans (hbW.mono hb1.size)
      have := dataRead1_any E B ls w1.heap.size i x W ((X.out _ hbW').1.sub (by decide)) (X.out _ hbW').2.1 (X.out _ hbW').2.2 hx hJ (by omega) (by exact HLm.out H0.out x (List.mem_of_getElem? hx))
      exact this)
  have HEa := Lib.hid hEa
  have HOn := Lib.hid hon
  clear hEa hgood hol hat h0 hns hon
  go_wp2_with fail
  refine HEa.out.mono ?_
  rintro e w2 ⟨ev, rfl, hev, hJ, hb2⟩
  have hb12 := hba.trans hb2
  have hb2' := hb1.trans (hb12.mono hb1.size)
  by_cases he : eachEr (dataBad ls) ls = .nil
  case neg =>
    obtain ⟨t1, x1, rfl⟩ := hev.iface he
    have hGe : dataE s = eachEr (dataBad ls) ls := HG.out.trans (H2.out H0.out he)
    have HGe := Lib.hid hGe
    have HLe : Hid (dataL s = []) := Lib.hid (by rw [HL.out, hGe, if_neg he])
    clear he hJ hGe
    go_wp2_with fail
    go_ret2
    exact ⟨_, _, rfl, by rw [HGe.out]; exact hev, fun _ _ => (by rw [HLe.out]; exact At.nil _ _ _), hb2'⟩
  rw [he] at hev
  obtain rfl : ev = .nilIface := hev
  obtain ⟨v, hv, hown⟩ := hJ he
  rw [← List.dropLast_eq_take] at hown
  have H3' := Lib.hid (H3.out H0.out he)
  have H4' := Lib.hid (H4.out H0.out he)
  obtain ⟨q, hkeys⟩ : ∃ q, ls.dropLast.map rowD = q := ⟨_, rfl⟩
  rw [hkeys] at hown HL H3' H4'
  have hkq : (keysR q).length = q.length := by simp [keysR]
  rw [hkq] at H3' H4'
  obtain ⟨a, c, rfl, -, -⟩ := (hown.at encR_enc).form'
  have hbx := hv.cell
  have HOwn := Lib.hid hown
  have hkl : q.length ≤ 60000 := by rw [← hkeys, List.length_map, List.length_dropLast]; omega
  obtain ⟨v3, v8⟩ := HE1.out _ hb2'
  clear he hkeys hown HEa
  by_cases h40 : 40 < q.length
  case pos =>
    have g : (40 : Int) < (q.length : Int) := by omega
    have hGe : dataE s = .bare 8 := HG.out.trans (H3'.out h40)
    have HGe := Lib.hid hGe
    have HLe : Hid (dataL s = []) := Lib.hid (by rw [HL.out, hGe]; rfl)
    clear h40 hGe
    go_wp2_with fail
    go_quiet (fail)
    go_wp2_with fail
    go_ret2
    exact ⟨_, _, rfl, by rw [HGe.out]; exact ⟨by decide, rfl⟩, fun _ _ => (by rw [HLe.out]; exact At.nil _ _ _), Bdn hb2' _⟩
  have g : decide ((40 : Int) < (q.length : Int)) = false := by simp; omega
  have hGe := HG.out.trans (H4'.out h40)
  have hFi := fun W u (h : Below w2.heap.size w2 W) (hu : IntsAt W u (keysR q)) => dataFits_any vn n0 n1 n2 n3 u (keysR q) W (by have := (HOn.out.below (hb12.trans (h.mono hb12.size))).at encI_enc; rwa [HNs.out] at this) hu (by omega)
  rw [← HNs.out] at hFi
  have HKs := Lib.hid (dataKeys_any _ q w2 (HOwn.out.at encR_enc) (by omega))
  have HGe := Lib.hid hGe
  have HFi := Lib.hid hFi
  clear h40 hGe hFi hkq
  by_cases hf : fitsI ns (keysR q)
  case neg =>
    have hGe : dataE s = .bare 3 := by rw [HGe.out, if_neg hf]
    have HGe3 := Lib.hid hGe
    have HLe : Hid (dataL s = []) := Lib.hid (by rw [HL.out, hGe]; rfl)
    rw [decide_eq_false hf] at HFi
    clear hf hGe
    go_wp2_with fail
    refine HKs.out.mono ?_
    rintro e wk ⟨u, rfl, hu, hbk⟩
    have HF3 := Lib.hid (HFi.out wk u hbk (hu.at encI_enc))
    have hbx1 := (hbk.cell hv.lt).trans hbx
    clear hu hbx
    go_wp2_with fail
    refine HF3.out.mono ?_
    rintro e w3 ⟨rfl, hb3k⟩
    have hb3 := hbk.trans (hb3k.mono hbk.size)
    have hb3' := hb2'.trans (hb3.mono hb2'.size)
    clear v3 v8
    obtain ⟨v3, v8⟩ := HE1.out _ hb3'
    go_wp2_with fail
    go_quiet (fail)
    go_wp2_with fail
    go_ret2
    exact ⟨_, _, rfl, by rw [HGe3.out]; exact ⟨by decide, rfl⟩, fun _ _ => (by rw [HLe.out]; exact At.nil _ _ _), Bdn hb3' _⟩
  have hGe : dataE s = .nil := by rw [HGe.out, if_pos hf]
  have HGe3 := Lib.hid hGe
  have HLe : Hid (dataL s = q) := Lib.hid (by rw [HL.out, hGe, if_pos rfl])
  rw [decide_eq_true hf] at HFi
  clear hf hGe
  go_wp2_with fail
  refine HKs.out.mono ?_
  rintro e wk ⟨u, rfl, hu, hbk⟩
  have HF3 := Lib.hid (HFi.out wk u hbk (hu.at encI_enc))
  have hbx1 := (hbk.cell hv.lt).trans hbx
  clear hu
  go_wp2_with fail
  refine HF3.out.mono ?_
  rintro e w3 ⟨rfl, hb3k⟩
  have hb3 := hbk.trans (hb3k.mono hbk.size)
  have hb3' := hb2'.trans (hb3.mono hb2'.size)
  have hbx3 := (hb3.cell hv.lt).trans hbx
  clear hbx hbx1
  go_wp2_with fail
  go_ret2
  exact ⟨_, _, rfl, by rw [HGe3.out]; rfl, fun W hW => (by rw [HLe.out]; exact Own.stays3 encR_enc (HOwn.out.below hb3) (fun p hp hp2 => hW p (Nat.le_trans hb1.size hp) hp2)), hb3'⟩
theorem dataRead_any (E : Nat → Addr) (B : Nat) (s : Str) (w : World) (hE : Errs [1, 2, 3, 5, 8, 9, 10] E B w) (hT : LNum B w) (hM : LMax B w) (hs : s.length ≤ 10000 ∨ 20000 < s.length) (hs2 : s.length ≤ 50000) :
    Calls Tryz.prog 36 #[S s] w fun e w' => ∃ u ev, e = .returned (.tuple #[u, ev]) ∧ ErV E w' ev (dataE s) ∧ RowsAt w' u (dataL s) ∧ Below w.heap.size w w' :=
  (dataReadFar_any E B s w hE hT hM hs hs2).mono fun _ _ ⟨u, ev, h1, h2, h3, h4⟩ => ⟨u, ev, h1, h2, h3.here, h4⟩
end Go.Proofs.YtlfkjbdkbdcdnaaGreatDoor
namespace Go.Proofs.YtlfkjbdkbdcdnaaGreatDoor
open Go.RowKit

abbrev r1D : Rw := ⟨[97], 1, 2⟩
theorem r1_check : rowCheck r1D = 0 := by decide
theorem r1_sort : sortR [r1D] = [r1D] := by decide
theorem made_r1 : makeE [r1D] = .nil := by
  refine makeE_fine (by decide) fun j hj => ?_
  have h0 : j = 0 := by simpa using hj
  subst h0
  exact r1_check
theorem text_r1 : makeT [r1D] = dataText [r1D] := by rw [make_text made_r1, r1_sort]
theorem all_r1 : ∀ r ∈ [r1D], rowCheck r = 0 := fun r hr => by
  rw [List.mem_singleton.1 hr]; exact r1_check
theorem read_r1 : dataE (dataText [r1D]) = .nil ∧ dataL (dataText [r1D]) = [r1D] := dataRead_text (by unfold upR; simp) all_r1 (by decide)
theorem sum_nine : sumOf [49, 50, 51, 52, 53, 54, 55, 56, 57] = 3421780262 := by kernel_rfl
theorem row_new (w : World) {H : Nat} (hH : w.heap.size = H) (r : Rw) : RowsAt (w.alloc (.cells #[S r.part, .int .i64 r.key, .int .i64 r.val] 36)) (.slice (some ⟨H, 0, none⟩) 1 1) [r] := by
  subst hH
  obtain ⟨d0, d1, d2⟩ := rowCells (r := r) (w := w) rfl (Below.refl _ _)
  refine ⟨_, 1, w.heap.size, 0, rfl, fun _ => rfl, Nat.le_refl _, by unfold maxLen; omega, fun k x hk j u hu => ?_⟩
  have hk0 : k = 0 := by have := (List.getElem?_eq_some_iff.1 hk).1; simpa using this
  subst hk0
  have hx : x = r := by simpa using hk.symm
  subst hx
  match j, hu with
  | 0, hu => rw [← Option.some.inj hu]; exact d0
  | 1, hu => rw [← Option.some.inj hu]; exact d1
  | 2, hu => rw [← Option.some.inj hu]; exact d2
set_option maxHeartbeats 1000000 in
set_option maxRecDepth 20000 in
theorem dated_any (E : Nat → Addr) (B : Nat) (w : World) (hE : Errs [1, 2, 3, 5, 8, 9, 10] E B w) (hT : LNum B w) (hM : LMax B w) :
    Calls Tryz.prog 34 #[] w fun e w' => e = .returned (.bool true) ∧ Below w.heap.size w w' := by
  have hif := isIfaceE
  have hBw := hE.le
  have X := Lib.hid (fun W (h : Below w.heap.size w W) => (⟨hE.below' h hBw, hT.below' h hBw, hM.below' h hBw⟩ : Errs [1, 2, 3, 5, 8, 9, 10] E B W ∧ LNum B W ∧ LMax B W))
  have hba : Below w.heap.size w (w.alloc (.cells #[S [97], .int .i64 1, .int .i64 2] 36)) := (Below.refl _ _).alloc (Nat.le_refl _) _
  have hMk := dataMake_any E B _ [r1D] _ ((X.out _ hba).1.sub (by decide)) (X.out _ hba).2.1 (row_new w rfl r1D) (by decide) (fun r hr => by rw [List.mem_singleton.1 hr]; decide)
  rw [made_r1, text_r1] at hMk
  have HMk := Lib.hid hMk
  have hlen := dataText_len all_r1 (by decide)
  have hRd := fun W (h : Below w.heap.size w W) => dataRead_any E B (dataText [r1D]) W (X.out W h).1 (X.out W h).2.1 (X.out W h).2.2 (.inl (by omega)) (by omega)
  rw [read_r1.1, read_r1.2] at hRd
  have HRd := Lib.hid hRd
  have hsm := fun W => sum_any [49, 50, 51, 52, 53, 54, 55, 56, 57] W (by decide)
  rw [sum_nine] at hsm
  have HSm := Lib.hid hsm
  clear hMk hRd hlen hsm
  generalize dataText [r1D] = T at *
  go_enter Tryz.func34, Tryz.ntmps34
  go_wp2_with fail
  refine HMk.out.mono ?_
  rintro e w1 ⟨ev, rfl, hev, hb1⟩
  obtain rfl : ev = .nilIface := hev
  have hb1' := hba.trans (hb1.mono hba.size)
  go_wp2_with fail
  refine (HRd.out _ hb1').mono ?_
  rintro e w2 ⟨u, ev, rfl, hev, hu, hb2⟩
  obtain rfl : ev = .nilIface := hev
  have hb2' := hb1'.trans (hb2.mono hb1'.size)
  obtain ⟨a, c, rfl, -, -⟩ := hu.form'
  clear hu
  have h1 : [r1D].length = 1 := rfl
  rw [h1]
  go_wp2_with fail
  refine (HSm.out _).mono ?_
  rintro e w3 ⟨rfl, hb3⟩
  go_wp2_with fail
  go_ret
  exact ⟨rfl, hb2'.trans (hb3.mono hb2'.size)⟩
end Go.Proofs.YtlfkjbdkbdcdnaaGreatDoor
