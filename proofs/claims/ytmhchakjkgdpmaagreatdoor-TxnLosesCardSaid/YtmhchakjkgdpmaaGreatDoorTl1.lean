/- Two changes side by side, and the names that were added and removed, in memory. deedboxlaw3.TxnLoses: the walk (printed by gen_txl.py). -/
import Derived.Test.YtmhchakjkgdpmaaGreatDoorTt14
import Derived.Test.YtmhchakjkgdpmaaGreatDoorTt5
import Derived.Test.YtmhchakjkgdpmaaGreatDoorTt7
import Derived.Test.YtmhchakjkgdpmaaGreatDoorTt1
import Derived.Deep.RegionHeld3
import Derived.Deep.QuietTactic
import Derived.BigQuiet
import Derived.Deep.DeepCutAuto
namespace Go.Proofs.YtmhchakjkgdpmaaGreatDoor
open Go.RowKit

structure Four (B1 B2 H H2 : Nat) (K K2 : Nat → Prop) (tb ub : Nat) (vf vf2 : Value) (W : World) (t u : Tx) (va vr : Value) (ns rs : List Str) : Prop where
  pair : Pair 115 115 B1 B2 H K K2 tb ub vf vf2 W t u
  more : ∃ (D D2 : Nat → Prop) (x1 x2 y1 y2 : Value), TxAt 115 B1 W D K tb t vf x1 x2 ∧ TxAt 115 B2 W D2 K2 ub u vf2 y1 y2 ∧ (∀ k, D k → ¬ D2 k ∧ ¬ K2 k) ∧ (∀ k, D2 k → ¬ K k) ∧ (∀ k, D k ∨ D2 k → H ≤ k) ∧
    Own encS 9 1 H2 W va ns ∧ Own encS 9 1 H2 W vr rs ∧ (∀ k, va.ownBlock = some k → ¬ D k ∧ ¬ D2 k ∧ vr.ownBlock ≠ some k) ∧ (∀ k, vr.ownBlock = some k → ¬ D k ∧ ¬ D2 k)
  kl : ∀ k, K k ∨ K2 k → k < H2
  hh : H ≤ H2
section
variable {B1 B2 H H2 : Nat} {K K2 : Nat → Prop} {tb ub : Nat} {vf vf2 : Value} {W W' : World} {t t' u u' : Tx} {va vr : Value} {ns rs : List Str}
theorem Four.new (h : Pair 115 115 B1 B2 H K K2 tb ub vf vf2 W t u) (hk : ∀ k, K k ∨ K2 k → k < H2) (hh : H ≤ H2) : Four B1 B2 H H2 K K2 tb ub vf vf2 W t u (.slice none 0 0) (.slice none 0 0) [] [] := by
  refine ⟨h, ?_, hk, hh⟩
  obtain ⟨D, D2, a, b, c, d, h1, h2, h3, h4, h5⟩ := h
  exact ⟨D, D2, a, b, c, d, h1, h2, h3, h4, h5, Own.nil _ _ _ _ _, Own.nil _ _ _ _ _, fun k e => (by cases e), fun k e => (by cases e)⟩
theorem Four.below (h : Four B1 B2 H H2 K K2 tb ub vf vf2 W t u va vr ns rs) (hb : Below W.heap.size W W') : Four B1 B2 H H2 K K2 tb ub vf vf2 W' t u va vr ns rs := by
  refine ⟨h.pair.below hb, ?_, h.kl, h.hh⟩
  obtain ⟨D, D2, a, b, c, d, h1, h2, h3, h4, h5, h6, h7, h8, h9⟩ := h.more
  exact ⟨D, D2, a, b, c, d, h1.below hb, h2.below hb, h3, h4, h5, h6.below hb, h7.below hb, h8, h9⟩
theorem own_lt {e : TypeId} {n : Nat} {v : Value} {l : List Str} (h : Own encS e 1 n W v l) {k : Nat} (hk : v.ownBlock = some k) : n ≤ k ∧ k < W.heap.size := World.ownsRow.lt h k hk
theorem four_fst {D D2 D' : Nat → Prop} {y1 y2 x1' x2' : Value} (h2 : TxAt 115 B2 W D2 K2 ub u vf2 y1 y2) (h3 : ∀ k, D k → ¬ D2 k ∧ ¬ K2 k) (h4 : ∀ k, D2 k → ¬ K k) (h5 : ∀ k, D k ∨ D2 k → H ≤ k) (h6 : Own encS 9 1 H2 W va ns) (h7 : Own encS 9 1 H2 W vr rs)
    (h8 : ∀ k, va.ownBlock = some k → ¬ D k ∧ ¬ D2 k ∧ vr.ownBlock ≠ some k) (h9 : ∀ k, vr.ownBlock = some k → ¬ D k ∧ ¬ D2 k) (kl : ∀ k, K k ∨ K2 k → k < H2) (hh : H ≤ H2) (hH : H ≤ W.heap.size)
    (h1' : TxAt 115 B1 W' D' K tb t' vf x1' x2') (hs : ∀ k, D' k → D k ∨ W.heap.size ≤ k) (hb : ButD D W W') : Four B1 B2 H H2 K K2 tb ub vf vf2 W' t' u va vr ns rs ∧ Below H W W' := by
  obtain ⟨hp, hbl⟩ := pair_fst h2 h3 h4 h5 hH h1' hs hb
  refine ⟨⟨hp, ⟨D', D2, _, _, _, _, h1', h2.kept hb (fun k hk => h3 k hk), fun k hk => ?_, h4, fun k hk => ?_, h6.blocked fun g hg => hb.block g (own_lt h6 hg).2 (h8 g hg).1, h7.blocked fun g hg => hb.block g (own_lt h7 hg).2 (h9 g hg).1, fun k hk => ⟨fun h => ?_, (h8 k hk).2⟩, fun k hk => ⟨fun h => ?_, (h9 k hk).2⟩⟩, kl, hh⟩, hbl⟩
  · rcases hs k hk with h | h
    · exact h3 k h
    · exact ⟨fun h' => by have := (h2.low k h').2; omega, fun h' => by have := h2.klt k h'; omega⟩
  · rcases hk with hk | hk
    · rcases hs k hk with h | h
      · exact h5 k (.inl h)
      · omega
    · exact h5 k (.inr hk)
  · rcases hs k h with h' | h'
    · exact (h8 k hk).1 h'
    · have := (own_lt h6 hk).2; omega
  · rcases hs k h with h' | h'
    · exact (h9 k hk).1 h'
    · have := (own_lt h7 hk).2; omega
theorem four_snd {D D2 D' : Nat → Prop} {x1 x2 y1' y2' : Value} (h1 : TxAt 115 B1 W D K tb t vf x1 x2) (h3 : ∀ k, D k → ¬ D2 k ∧ ¬ K2 k) (h4 : ∀ k, D2 k → ¬ K k) (h5 : ∀ k, D k ∨ D2 k → H ≤ k) (h6 : Own encS 9 1 H2 W va ns) (h7 : Own encS 9 1 H2 W vr rs)
    (h8 : ∀ k, va.ownBlock = some k → ¬ D k ∧ ¬ D2 k ∧ vr.ownBlock ≠ some k) (h9 : ∀ k, vr.ownBlock = some k → ¬ D k ∧ ¬ D2 k) (kl : ∀ k, K k ∨ K2 k → k < H2) (hh : H ≤ H2) (hH : H ≤ W.heap.size)
    (h2' : TxAt 115 B2 W' D' K2 ub u' vf2 y1' y2') (hs : ∀ k, D' k → D2 k ∨ W.heap.size ≤ k) (hb : ButD D2 W W') : Four B1 B2 H H2 K K2 tb ub vf vf2 W' t u' va vr ns rs ∧ Below H W W' := by
  obtain ⟨hp, hbl⟩ := pair_snd h1 h3 h4 h5 hH h2' hs hb
  refine ⟨⟨hp, ⟨D, D', _, _, _, _, h1.kept hb (fun k hk => ⟨fun h => (h3 k h).1 hk, h4 k hk⟩), h2', fun k hk => ⟨fun h => ?_, (h3 k hk).2⟩, fun k hk => ?_, fun k hk => ?_, h6.blocked fun g hg => hb.block g (own_lt h6 hg).2 (h8 g hg).2.1, h7.blocked fun g hg => hb.block g (own_lt h7 hg).2 (h9 g hg).2, fun k hk => ⟨(h8 k hk).1, fun h => ?_, (h8 k hk).2.2⟩, fun k hk => ⟨(h9 k hk).1, fun h => ?_⟩⟩, kl, hh⟩, hbl⟩
  · rcases hs k h with h' | h'
    · exact (h3 k hk).1 h'
    · have := (h1.low k hk).2; omega
  · rcases hs k hk with h | h
    · exact h4 k h
    · exact fun h' => by have := h1.klt k h'; omega
  · rcases hk with hk | hk
    · exact h5 k (.inl hk)
    · rcases hs k hk with h | h
      · exact h5 k (.inr h)
      · omega
  · rcases hs k h with h' | h'
    · exact (h8 k hk).2.1 h'
    · have := (own_lt h6 hk).2; omega
  · rcases hs k h with h' | h'
    · exact (h9 k hk).2 h'
    · have := (own_lt h7 hk).2; omega
/-- A name more that was added. -/
theorem Four.added (h : Four B1 B2 H H2 K K2 tb ub vf vf2 W t u va vr ns rs) {w1 w2 : World} {v' : Value} {s : Str} (hb1 : Below W.heap.size W w1) (hg : w1.grownBy w2 va.ownBlock) (hn : v'.ownBlock = va.ownBlock ∨ v'.ownBlock = some w1.heap.size) (ho : Own encS 9 1 H2 w2 v' (ns ++ [s])) (hH : H ≤ W.heap.size) :
    Four B1 B2 H H2 K K2 tb ub vf vf2 w2 t u v' vr (ns ++ [s]) rs ∧ Below H W w2 := by
  obtain ⟨D, D2, a, b, c, d, h1, h2, h3, h4, h5, h6, h7, h8, h9⟩ := h.more
  have hs1 := hb1.size
  have hs2 := hg.size
  have hbd : ButD (fun k => va.ownBlock = some k) W w2 := ⟨hg.os.trans hb1.os, hg.tape.trans hb1.tape, hg.output.trans hb1.output, Nat.le_trans hs1 hs2, fun k hk hne => (hg.block k (by omega) (fun e => hne e.symm)).trans (hb1.block k hk)⟩
  have hva := fun k (hk : va.ownBlock = some k) => own_lt h6 hk
  have k1 := h1.kept hbd fun k hk => ⟨(h8 k hk).1, fun h' => by have := h.kl k (.inl h'); have := (hva k hk).1; omega⟩
  have k2 := h2.kept hbd fun k hk => ⟨(h8 k hk).2.1, fun h' => by have := h.kl k (.inr h'); have := (hva k hk).1; omega⟩
  have hv' : ∀ k, v'.ownBlock = some k → va.ownBlock = some k ∨ W.heap.size ≤ k := fun k hk => by
    rcases hn with hn | hn
    · exact .inl (hn ▸ hk)
    · rw [hn] at hk; cases hk; exact .inr hs1
  refine ⟨⟨⟨D, D2, a, b, c, d, k1, k2, h3, h4, h5⟩, ⟨D, D2, a, b, c, d, k1, k2, h3, h4, h5, ho, h7.blocked fun g hg' => hbd.block g (own_lt h7 hg').2 (fun e => (h8 g e).2.2 hg'), fun k hk => ?_, h9⟩, h.kl, h.hh⟩, hbd.below (fun k hk => Nat.le_trans h.hh (hva k hk).1) hH⟩
  rcases hv' k hk with h' | h'
  · exact h8 k h'
  · exact ⟨fun hd => by have := (h1.low k hd).2; omega, fun hd => by have := (h2.low k hd).2; omega, fun hd => by have := (own_lt h7 hd).2; omega⟩
/-- A name more that was removed. -/
theorem Four.removed (h : Four B1 B2 H H2 K K2 tb ub vf vf2 W t u va vr ns rs) {w1 w2 : World} {v' : Value} {s : Str} (hb1 : Below W.heap.size W w1) (hg : w1.grownBy w2 vr.ownBlock) (hn : v'.ownBlock = vr.ownBlock ∨ v'.ownBlock = some w1.heap.size) (ho : Own encS 9 1 H2 w2 v' (rs ++ [s])) (hH : H ≤ W.heap.size) :
    Four B1 B2 H H2 K K2 tb ub vf vf2 w2 t u va v' ns (rs ++ [s]) ∧ Below H W w2 := by
  obtain ⟨D, D2, a, b, c, d, h1, h2, h3, h4, h5, h6, h7, h8, h9⟩ := h.more
  have hs1 := hb1.size
  have hs2 := hg.size
  have hbd : ButD (fun k => vr.ownBlock = some k) W w2 := ⟨hg.os.trans hb1.os, hg.tape.trans hb1.tape, hg.output.trans hb1.output, Nat.le_trans hs1 hs2, fun k hk hne => (hg.block k (by omega) (fun e => hne e.symm)).trans (hb1.block k hk)⟩
  have hvr := fun k (hk : vr.ownBlock = some k) => own_lt h7 hk
  have k1 := h1.kept hbd fun k hk => ⟨(h9 k hk).1, fun h' => by have := h.kl k (.inl h'); have := (hvr k hk).1; omega⟩
  have k2 := h2.kept hbd fun k hk => ⟨(h9 k hk).2, fun h' => by have := h.kl k (.inr h'); have := (hvr k hk).1; omega⟩
  have hv' : ∀ k, v'.ownBlock = some k → vr.ownBlock = some k ∨ W.heap.size ≤ k := fun k hk => by
    rcases hn with hn | hn
    · exact .inl (hn ▸ hk)
    · rw [hn] at hk; cases hk; exact .inr hs1
  refine ⟨⟨⟨D, D2, a, b, c, d, k1, k2, h3, h4, h5⟩, ⟨D, D2, a, b, c, d, k1, k2, h3, h4, h5, h6.blocked fun g hg' => hbd.block g (own_lt h6 hg').2 (fun e => (h8 g hg').2.2 e), ho, fun k hk => ⟨(h8 k hk).1, (h8 k hk).2.1, fun e => ?_⟩, fun k hk => ?_⟩, h.kl, h.hh⟩, hbd.below (fun k hk => Nat.le_trans h.hh (hvr k hk).1) hH⟩
  · rcases hv' k e with h' | h'
    · exact (h8 k hk).2.2 h'
    · have := (own_lt h6 hk).2; omega
  · rcases hv' k hk with h' | h'
    · exact h9 k h'
    · exact ⟨fun hd => by have := (h1.low k hd).2; omega, fun hd => by have := (h2.low k hd).2; omega⟩
end
end Go.Proofs.YtmhchakjkgdpmaaGreatDoor
namespace Go.Proofs.YtmhchakjkgdpmaaGreatDoor
open Go.RowKit

theorem row8 {W : World} {g : Nat} {x0 x1 x2 x3 x4 x5 x6 x7 : Value} {t : TypeId} (h : W.heap[g]? = some (.cells #[x0, x1, x2, x3, x4, x5, x6, x7] t (0, 0))) :
    W.cell? ⟨g, 0, none⟩ = some x0 ∧ W.cell? ⟨g, 1, none⟩ = some x1 ∧ W.cell? ⟨g, 2, none⟩ = some x2 ∧ W.cell? ⟨g, 3, none⟩ = some x3 ∧ W.cell? ⟨g, 4, none⟩ = some x4 ∧ W.cell? ⟨g, 5, none⟩ = some x5 ∧ W.cell? ⟨g, 6, none⟩ = some x6 ∧ W.cell? ⟨g, 7, none⟩ = some x7 := by
  refine ⟨?_, ?_, ?_, ?_, ?_, ?_, ?_, ?_⟩ <;> (rw [cell_of_row W _ _ _ _ (0, 0) h]; rfl)
theorem addedT_addT {t : Tx} {f : Fl} (h : addTE t f = 0) : addedT (addT t f) = addedT t ++ [f.path] := by unfold addedT addT; rw [if_pos h, List.map_append]; rfl
theorem addT_none {t : Tx} {f : Fl} (h : addTE t f ≠ 0) : addT t f = t := if_neg h
theorem remT_none {t : Tx} {p : Str} (h : remTE t p ≠ 0) : remT t p = t := if_neg h
theorem removes_addT (t : Tx) (f : Fl) : (addT t f).removes = t.removes := by unfold addT; split <;> rfl
theorem removes_remT {t : Tx} {p : Str} (h : remTE t p = 0) : (remT t p).removes = t.removes ++ [p] := by unfold remT; rw [if_pos h]
theorem addedT_remT (t : Tx) (p : Str) : addedT (remT t p) = addedT t := by unfold remT addedT; split <;> rfl
theorem addedT_begin (s : Sn) : addedT (beginT s) = [] := rfl
theorem appCh_nil (t : Tx) : appCh t [] = t := rfl
set_option maxHeartbeats 16000000 in
set_option maxRecDepth 20000 in
theorem txnLoses_any (E : Nat → Addr) (B : Nat) (vb : Value) (base : Sn) (v1 : Value) (a : List Ch) (v2 : Value) (b : List Ch) (id day index : Int) (w : World) (hE : Errs [2, 4, 5, 6, 7, 8, 9, 11] E B w) (hT : LNum B w) (hM : LMax B w)
    (hlb : FilesAt w vb base.files) (hla : ChangesAt w v1 a) (hlc : ChangesAt w v2 b) (hid0 : -9223372036854775808 ≤ id) :
    Calls Tryz.prog 3 #[snapV base vb, v1, v2, .int .i64 id, .int .i64 day, .int .i64 index] w fun e w' => e = .returned (.bool true) ∧ Below w.heap.size w w' := by
  have hBw := hE.le
  have hif := isIfaceE
  have XF := Lib.hid (fun W (h : Below w.heap.size w W) => (⟨hlb.below h, hla.below h, hlc.below h⟩ : FilesAt W vb base.files ∧ ChangesAt W v1 a ∧ ChangesAt W v2 b))
  obtain ⟨ab, cb, bb, ob, rfl, hab, hcb, hcmb, hxb⟩ := hlb
  obtain ⟨aa, ca, ba, oa, rfl, haa, hca, hcma, hxa⟩ := hla
  obtain ⟨ac, cc, bc, oc, rfl, hac, hcc, hcmc, hxc⟩ := hlc
  unfold maxLen at hcmb hcma hcmc
  have HXb := Lib.hid hxb; have HXa := Lib.hid hxa; have HXc := Lib.hid hxc
  have X := Lib.hid (fun W (h : Below w.heap.size w W) => (⟨hE.below' h hBw, hT.below' h hBw, hM.below' h hBw⟩ : Errs [2, 4, 5, 6, 7, 8, 9, 11] E B W ∧ LNum B W ∧ LMax B W))
  have hba : Below w.heap.size w (w.alloc (.cells #[.int .i64 base.id, .int .i64 base.parent, .int .i64 base.seq, .int .i64 base.day, .int .i64 base.index, S base.op, .slice ab base.files.length cb] 24)) := (Below.refl _ _).alloc (Nat.le_refl _) _
  have hgb : (w.alloc (.cells #[.int .i64 base.id, .int .i64 base.parent, .int .i64 base.seq, .int .i64 base.day, .int .i64 base.index, S base.op, .slice ab base.files.length cb] 24)).heap[w.heap.size]? = some (.cells #[.int .i64 base.id, .int .i64 base.parent, .int .i64 base.seq, .int .i64 base.day, .int .i64 base.index, S base.op, .slice ab base.files.length cb] 24) := heap_alloc_new w _
  have HGb := Lib.hid (fun W (h : Below (w.alloc (.cells #[.int .i64 base.id, .int .i64 base.parent, .int .i64 base.seq, .int .i64 base.day, .int .i64 base.index, S base.op, .slice ab base.files.length cb] 24)).heap.size (w.alloc (.cells #[.int .i64 base.id, .int .i64 base.parent, .int .i64 base.seq, .int .i64 base.day, .int .i64 base.index, S base.op, .slice ab base.files.length cb] 24)) W) => rowKept hgb h)
  have HSz := Lib.hid (show (w.alloc (.cells #[.int .i64 base.id, .int .i64 base.parent, .int .i64 base.seq, .int .i64 base.day, .int .i64 base.index, S base.op, .slice ab base.files.length cb] 24)).heap.size = w.heap.size + 1 by simp)
  have HId0 := Lib.hid hid0
  clear hgb hxb hxa hxc hE hT hM hid0
  go_enter Tryz.func3, Tryz.ntmps3
  go_upto_region 1 with fail
  generalize (w.alloc (.cells #[.int .i64 base.id, .int .i64 base.parent, .int .i64 base.seq, .int .i64 base.day, .int .i64 base.index, S base.op, .slice ab base.files.length cb] 24)) = w0 at *
  have HCh := Lib.hid (changed_any E B w0 ((X.out _ hba).1.sub (by decide)) (X.out _ hba).2.1 (X.out _ hba).2.2)
  go_wp2_with fail
  refine HCh.out.mono ?_
  rintro e w1 ⟨rfl, hb1⟩
  have hbw1 := hba.trans (hb1.mono hba.size)
  obtain ⟨b0, b1, b2, b3, b4, b5, b6⟩ := rowS7 (HGb.out _ hb1)
  have HLb := Lib.hid (longSnapD_any base (.slice ab base.files.length cb) w1 (XF.out _ hbw1).1)
  clear HCh
  go_wp2_with fail
  refine HLb.out.mono ?_
  rintro e w2 ⟨rfl, hb2⟩
  have hb02 := hb1.trans (hb2.mono hb1.size)
  have hbw2 := hba.trans (hb02.mono hba.size)
  clear HLb b0 b1 b2 b3 b4 b5 b6 hb1 hbw1
  by_cases hsb : shortS base
  case neg =>
    rw [if_neg hsb]
    clear hsb
    go_wp2_with fail
    go_ret
    exact ⟨rfl, hbw2⟩
  rw [if_pos hsb]
  have HLa := Lib.hid (longChangesD_any (.slice aa a.length ca) a w2 (XF.out _ hbw2).2.1)
  have HSb := Lib.hid (show ∀ x ∈ base.files, midF x from hsb.2.mid)
  have HNb := Lib.hid (show base.files.length ≤ 61 from hsb.2.len)
  clear hsb
  go_wp2_with fail
  refine HLa.out.mono ?_
  rintro e w3 ⟨rfl, hb3⟩
  have hb03 := hb02.trans (hb3.mono hb02.size)
  have hbw3 := hba.trans (hb03.mono hba.size)
  clear HLa hb02 hbw2 hb3
  by_cases hsa : shortChs a
  case neg =>
    rw [decide_eq_false hsa, Bool.not_false]
    clear hsa
    go_wp2_with fail
    go_ret
    exact ⟨rfl, hbw3⟩
  rw [decide_eq_true hsa, Bool.not_true]
  have HSa := Lib.hid hsa
  have HLc := Lib.hid (longChangesD_any (.slice ac b.length cc) b w3 (XF.out _ hbw3).2.2)
  clear hsa
  go_wp2_with fail
  refine HLc.out.mono ?_
  rintro e w4 ⟨rfl, hb4⟩
  have hb04 := hb03.trans (hb4.mono hb03.size)
  have hbw4 := hba.trans (hb04.mono hba.size)
  clear HLc hb03 hbw3 hb4 w2 w3 hb2
  by_cases hsc : shortChs b
  case neg =>
    rw [decide_eq_false hsc, Bool.not_false]
    clear hsc
    go_wp2_with fail
    go_ret
    exact ⟨rfl, hbw4⟩
  rw [decide_eq_true hsc, Bool.not_true]
  have HSc := Lib.hid hsc
  clear hsc
  by_cases hid : id ≤ 1073741824
  case neg =>
    have g : (1073741824 : Int) < id := by omega
    clear hid
    go_wp2_with fail
    go_ret
    exact ⟨rfl, hbw4⟩
  have g : decide ((1073741824 : Int) < id) = false := by simp; omega
  have HId1 := Lib.hid hid
  clear hid
  obtain ⟨b0, b1, b2, b3, b4, b5, b6⟩ := rowS7 (HGb.out _ hb04)
  have HOw := Lib.hid (fun W (h : Below w.heap.size w W) => ownSnap_any base (.slice ab base.files.length cb) W (XF.out _ h).1 (by have := HNb.out; omega))
  have HBg := Lib.hid (fun W u (h : Below w.heap.size w W) (hu : FilesAt W u base.files) => txBegin_any E B base u W ((X.out _ h).1.sub (by decide)) (X.out _ h).2.1 (X.out _ h).2.2 hu HSb.out (by have := HNb.out; omega))
  go_wp2_with fail
  clear g
  refine (HOw.out _ hbw4).mono ?_
  rintro e w3 ⟨u3, rfl, hu3, hb3⟩
  have hb03 := hb04.trans (hb3.mono hb04.size)
  have hbw3 := hbw4.trans (hb3.mono hbw4.size)
  have HB3 := Lib.hid (HBg.out _ _ hbw3 hu3)
  obtain ⟨a3, c3, rfl, -, -⟩ := At.form' hu3
  clear b0 b1 b2 b3 b4 b5 b6 hu3 hb3 hb04 hbw4
  go_wp2_with fail
  refine HB3.out.mono ?_
  rintro e w5 ⟨hb5, hpost⟩
  have hb05 := hb03.trans (hb5.mono hb03.size)
  have hbw5 := hbw3.trans (hb5.mono hbw3.size)
  obtain ⟨b0, b1, b2, b3, b4, b5, b6⟩ := rowS7 (HGb.out _ hb05)
  rcases hpost with ⟨hbad, ev, rfl, hev⟩ | ⟨hck, tb, vf, D, K, rfl, hat, hlow⟩
  · obtain ⟨t1, x1, rfl⟩ := hev.iface hbad
    have HBad := Lib.hid hbad
    clear hev hbad
    go_wp2_with fail
    refine (HOw.out _ hbw5).mono ?_
    rintro e w6 ⟨u6, rfl, hu6, hb6⟩
    have hbw6 := hbw5.trans (hb6.mono hbw5.size)
    have HB6 := Lib.hid (HBg.out _ _ hbw6 hu6)
    obtain ⟨a6, c6, rfl, -, -⟩ := At.form' hu6
    clear b0 b1 b2 b3 b4 b5 b6 hu6
    go_wp2_with fail
    refine HB6.out.mono ?_
    rintro e w7 ⟨hb7, hpost⟩
    rcases hpost with ⟨hbad, ev, rfl, hev⟩ | ⟨hck, -⟩
    · obtain ⟨t2, x2, rfl⟩ := hev.iface hbad
      clear hev hbad
      go_wp2_with fail
      go_ret
      exact ⟨rfl, hbw6.trans (hb7.mono hbw6.size)⟩
    · exact absurd hck HBad.out
  have HAt := Lib.hid hat
  have HLow := Lib.hid hlow
  have HRb := Lib.hid ((snap_iff _).1 hck)
  clear hat hlow hck HB3
  go_wp2_with fail
  refine (HOw.out _ hbw5).mono ?_
  rintro e w4 ⟨u4, rfl, hu4, hb4⟩
  have hb04 := hb05.trans (hb4.mono hb05.size)
  have hbw4 := hbw5.trans (hb4.mono hbw5.size)
  have HB4 := Lib.hid (HBg.out _ _ hbw4 hu4)
  obtain ⟨a4, c4, rfl, -, -⟩ := At.form' hu4
  clear b0 b1 b2 b3 b4 b5 b6 hu4
  go_wp2_with fail
  refine HB4.out.mono ?_
  rintro e w6 ⟨hb6, hpost⟩
  have hb06 := hb04.trans (hb6.mono hb04.size)
  have hbw6 := hbw4.trans (hb6.mono hbw4.size)
  rcases hpost with ⟨hbad, -⟩ | ⟨-, ub, vf2, D2, K2, rfl, hat2, hlow2⟩
  · exact absurd ((snap_iff _).2 HRb.out) hbad
  have hpr := pair_two (H := w0.heap.size) HAt.out (hb4.trans (hb6.mono hb4.size)) hat2 (fun k hk => Nat.le_trans hb03.size (HLow.out k hk)) (fun k hk => Nat.le_trans hb4.size (hlow2 k hk)) hb05.size
  have hkl : ∀ k, K k ∨ K2 k → k < w6.heap.size := by
    rintro k (hk | hk)
    · have := HAt.out.klt k hk; have := hb4.size; have := hb6.size; omega
    · exact hat2.klt k hk
  have HF6 : Hid (Four w3.heap.size w4.heap.size w0.heap.size w6.heap.size K K2 tb ub vf vf2 w6 (appCh (beginT base) (a.take (0))) (appCh (beginT base) (b.take (0 - a.length))) (.slice none 0 0) (.slice none 0 0) (addedT (appCh (beginT base) (a.take (0))) ++ addedT (appCh (beginT base) (b.take (0 - a.length)))) (Tx.removes (appCh (beginT base) (a.take (0))) ++ Tx.removes (appCh (beginT base) (b.take (0 - a.length))))) := Lib.hid (by
    rw [List.take_zero, Nat.zero_sub, List.take_zero, appCh_nil]
    exact Four.new hpr hkl hb06.size)
  clear hat2 hlow2 hpr HAt HLow HB4 HOw HBg hkl
  go_wp2_with fail
  go_loopw [18, 19, 20] (fun u18 u19 i wr => ∃ (k : Nat) (va vr : Value), k ≤ a.length + b.length ∧ i = .int .i64 k ∧ va = u18 ∧ vr = u19 ∧ Hid (Four w3.heap.size w4.heap.size w0.heap.size w6.heap.size K K2 tb ub vf vf2 wr (appCh (beginT base) (a.take (k))) (appCh (beginT base) (b.take (k - a.length))) va vr (addedT (appCh (beginT base) (a.take (k))) ++ addedT (appCh (beginT base) (b.take (k - a.length)))) (Tx.removes (appCh (beginT base) (a.take (k))) ++ Tx.removes (appCh (beginT base) (b.take (k - a.length))))) ∧ Hid (w6.heap.size ≤ wr.heap.size) ∧ Below w0.heap.size w0 wr) (fun _ _ i _ => a.length + b.length - (intOf i).toNat)
  case atStart => exact ⟨0, _, _, by omega, rfl, rfl, rfl, HF6, Lib.hid (Nat.le_refl _), hb06⟩
  case round =>
    obtain ⟨k, va, vr, hk, rfl, rfl, rfl, hf, hz, hb⟩ := hrel
    obtain ⟨wo, rfl⟩ : ∃ wo, wo = wr := ⟨wr, rfl⟩
    have hbwo := hba.trans (hb.mono hba.size)
    by_cases hlt : k < a.length + b.length
    case neg =>
      have hl1 := HSa.out.1
      have hl2 := HSc.out.1
      have f : decide ((k : Int) < (a.length : Int) + (b.length : Int)) = false := by simp; omega
      have HFa := Lib.hid (Fit.upto HRb.out HSa.out.2 k)
      have HFc := Lib.hid (Fit.upto HRb.out HSc.out.2 (k - a.length))
      have HK : Hid (k ≤ 60) := Lib.hid (by omega)
      obtain ⟨t, ht⟩ : ∃ t, appCh (beginT base) (a.take k) = t := ⟨_, rfl⟩
      obtain ⟨u, hu⟩ : ∃ u, appCh (beginT base) (b.take (k - a.length)) = u := ⟨_, rfl⟩
      rw [ht, hu] at hf
      rw [ht] at HFa
      rw [hu] at HFc
      clear ht hu
      obtain ⟨b0, b1, b2, b3, b4, b5, b6⟩ := rowS7 (HGb.out _ hb)
      obtain ⟨D1, D2', p1, p2, q1, q2, P1, P2, P3, P4, P5, P6, P7, P8, P9⟩ := hf.out.more
      have HC1 := Lib.hid (txCommit_any E B w3.heap.size D1 K tb t vf p1 p2 base (.slice ab base.files.length cb) id day index wo ((X.out _ hbwo).1.sub (by decide)) (X.out _ hbwo).2.1 (X.out _ hbwo).2.2 P1 HFa.out.ok (XF.out _ hbwo).1 HSb.out (by have := HFa.out.na; have := HK.out; omega) (by have := HFa.out.nr; have := HK.out; omega) HFa.out.mid)
      have HC2 := Lib.hid (fun W (hW : Below wo.heap.size wo W) (h2 : Below w.heap.size w W) x1 u2 (hx : FilesAt W u2 (Sn.files x1)) (hs : ∀ f ∈ Sn.files x1, midF f) => txCommit_any E B w4.heap.size D2' K2 ub u vf2 q1 q2 x1 u2 (id + 1) day index W ((X.out _ h2).1.sub (by decide)) (X.out _ h2).2.1 (X.out _ h2).2.2 (P2.below hW) HFc.out.ok hx hs (by have := HFc.out.na; have := HK.out; omega) (by have := HFc.out.nr; have := HK.out; omega) HFc.out.mid)
      have HVa := Lib.hid (P6.at encS_enc)
      have HVr := Lib.hid (P7.at encS_enc)
      have HTD := Lib.hid (fun h1 h2 => two_done (base := base) (t := t) (u := u) (id := id) (id2 := id + 1) (day := day) (index := index) HFa.out.ok HFc.out.ok HFc.out.base h1 h2)
      have HLa : Hid ((addedT t ++ addedT u).length ≤ 120 ∧ (t.removes ++ u.removes).length ≤ 120) := Lib.hid (by have := HFa.out.na; have := HFa.out.nr; have := HFc.out.na; have := HFc.out.nr; have := HK.out; simp only [addedT, List.length_append, List.length_map]; omega)
      obtain ⟨av, cv, bv, ov, rfl, hav, -, hcmv, hxv⟩ := HVa.out
      obtain ⟨ar, cr, rfl, -, -⟩ := At.form' HVr.out
      unfold maxLen at hcmv
      obtain ⟨la, hla⟩ : ∃ la, addedT t ++ addedT u = la := ⟨_, rfl⟩
      obtain ⟨lr, hlr⟩ : ∃ lr, t.removes ++ u.removes = lr := ⟨_, rfl⟩
      have HLe := Lib.hid hla; have HLe2 := Lib.hid hlr
      rw [hla] at hav hxv HVa HLa ⊢
      rw [hlr] at HVr HLa ⊢
      have HXv := Lib.hid hxv
      obtain ⟨e1, he1⟩ : ∃ e1, commitE t base id day index = e1 := ⟨_, rfl⟩
      obtain ⟨x1, hx1⟩ : ∃ x1, commitS t base id day index = x1 := ⟨_, rfl⟩
      rw [he1, hx1] at HC1
      rw [he1, hx1] at HTD
      have He1 := Lib.hid he1; have Hx1 := Lib.hid hx1
      have Hlt := Lib.hid hlt
      clear P1 P2 P3 P4 P5 P6 P7 P8 P9 hf hla hlr hxv he1 hx1 hlt hk
      go_wp2_with fail
      clear f hl1 hl2
      refine HC1.out.mono ?_
      rintro e v1 ⟨u1, ev, rfl, hu1, hev, hv1⟩
      have hbv1 := hbwo.trans (hv1.mono hbwo.size)
      have hb01 := hb.trans (hv1.mono hb.size)
      obtain ⟨au1, cu1, rfl, -, -⟩ := At.form' hu1
      clear HC1 b0 b1 b2 b3 b4 b5 b6
      by_cases hn1 : e1 = .nil
      case neg =>
        have hz : x1 = zeroSn := by rw [← Hx1.out]; exact commitS_bad (by rw [He1.out]; exact hn1)
        subst hz
        obtain ⟨t1, y1, rfl⟩ := hev.iface hn1
        have gz1 : (zeroSn.id == 0) = true := rfl
        have gz2 : ((zeroSn.files.length : Int) == 0) = true := rfl
        clear hn1 hev hu1 HTD HC2
        go_wp2_with fail
        go_ret
        exact ⟨rfl, hbv1.alloc hbv1.size _⟩
      subst hn1
      obtain rfl : ev = .nilIface := hev
      obtain ⟨-, -, -, hR1, hS1⟩ := commit_nil He1.out
      rw [Hx1.out] at hS1
      have HM1 : Hid (∀ f ∈ x1.files, midF f) := Lib.hid (by rw [hS1]; exact right_mid hR1.lst)
      have hv1a : Below v1.heap.size v1 (v1.alloc (.cells #[.int .i64 x1.id, .int .i64 x1.parent, .int .i64 x1.seq, .int .i64 x1.day, .int .i64 x1.index, S x1.op, .slice au1 x1.files.length cu1] 24)) := (Below.refl _ _).alloc (Nat.le_refl _) _
      have hgx := heap_alloc_new v1 (.cells #[.int .i64 x1.id, .int .i64 x1.parent, .int .i64 x1.seq, .int .i64 x1.day, .int .i64 x1.index, S x1.op, .slice au1 x1.files.length cu1] 24)
      have HU1 := Lib.hid (hu1.below hv1a)
      have hbv2 := hbv1.trans (hv1a.mono hbv1.size)
      have hb02 := hb01.trans (hv1a.mono hb01.size)
      have hw12 := hv1.trans (hv1a.mono hv1.size)
      clear hR1 hS1 hu1 hv1a hv1 hb01 hbv1
      have hi0 := HId0.out
      have hi1 := HId1.out
      go_upto_region 27 with fail
      generalize v1.alloc (.cells #[.int .i64 x1.id, .int .i64 x1.parent, .int .i64 x1.seq, .int .i64 x1.day, .int .i64 x1.index, S x1.op, .slice au1 x1.files.length cu1] 24) = v2 at *
      obtain ⟨X1, hX1⟩ : ∃ X1, v1.heap.size = X1 := ⟨_, rfl⟩
      rw [hX1] at hgx ⊢
      clear hX1
      obtain ⟨x0, x1', x2', x3', x4', x5', x6'⟩ := rowS7 hgx
      have HC2' := Lib.hid (HC2.out v2 hw12 hbv2 x1 _ HU1.out HM1.out)
      obtain ⟨e2, he2⟩ : ∃ e2, commitE u x1 (id + 1) day index = e2 := ⟨_, rfl⟩
      obtain ⟨s, hs⟩ : ∃ s, commitS u x1 (id + 1) day index = s := ⟨_, rfl⟩
      rw [he2, hs] at HC2'
      rw [he2, hs] at HTD
      have He2 := Lib.hid he2; have Hs := Lib.hid hs
      clear he2 hs HC2 hgx HU1
      go_wp2_with fail
      refine HC2'.out.mono ?_
      rintro e v3 ⟨u3', ev, rfl, hu3, hev, hv3⟩
      have hbv3 := hbv2.trans (hv3.mono hbv2.size)
      have hb03 := hb02.trans (hv3.mono hb02.size)
      have hw13 := hw12.trans (hv3.mono hw12.size)
      clear x0 x1' x2' x3' x4' x5' x6' HC2' hi0 hi1
      by_cases hn2 : e2 = .nil
      case neg =>
        have hz : s = zeroSn := by rw [← Hs.out]; exact commitS_bad (by rw [He2.out]; exact hn2)
        subst hz
        obtain ⟨a3', c3', rfl, -, -⟩ := At.form' hu3
        obtain ⟨t1, y1, rfl⟩ := hev.iface hn2
        have gz1 : (zeroSn.id == 0) = true := rfl
        have gz2 : ((zeroSn.files.length : Int) == 0) = true := rfl
        clear hn2 hev hu3 HTD
        go_wp2_with fail
        go_ret
        exact ⟨rfl, hbv3.alloc hbv3.size _⟩
      subst hn2
      obtain rfl : ev = .nilIface := hev
      have HTd := Lib.hid (HTD.out (by first | rfl | trivial) (by first | rfl | trivial))
      have HU3 := Lib.hid hu3
      obtain ⟨sa, cs, bs, so, rfl, hsa, -, hcms, hxs⟩ := hu3
      unfold maxLen at hcms
      have HXs := Lib.hid hxs
      have hv3a : Below v3.heap.size v3 (v3.alloc (.cells #[.int .i64 s.id, .int .i64 s.parent, .int .i64 s.seq, .int .i64 s.day, .int .i64 s.index, S s.op, .slice sa s.files.length cs] 24)) := (Below.refl _ _).alloc (Nat.le_refl _) _
      have hgs := heap_alloc_new v3 (.cells #[.int .i64 s.id, .int .i64 s.parent, .int .i64 s.seq, .int .i64 s.day, .int .i64 s.index, S s.op, .slice sa s.files.length cs] 24)
      have hbv4 := hbv3.trans (hv3a.mono hbv3.size)
      have hb04 := hb03.trans (hv3a.mono hb03.size)
      have hw14 := hw13.trans (hv3a.mono hw13.size)
      have HU4 := Lib.hid (HU3.out.below hv3a)
      clear hxs hw12 hb02 hbv2
      go_upto_region 28 with fail
      generalize v3.alloc (.cells #[.int .i64 s.id, .int .i64 s.parent, .int .i64 s.seq, .int .i64 s.day, .int .i64 s.index, S s.op, .slice sa s.files.length cs] 24) = v4 at *
      have HB34 := Lib.hid hv3a
      clear hv3a
      obtain ⟨X2, hX2⟩ : ∃ X2, v3.heap.size = X2 := ⟨_, rfl⟩
      rw [hX2] at hgs ⊢
      have HGs := Lib.hid hgs
      have hsq := HRb.out.nums.2.2.1
      obtain ⟨s0, s1, s2, s3, s4, s5, s6⟩ := rowS7 hgs
      have g1 : (s.parent != id) = false := by rw [HTd.out.parent]; simp
      have g2 : (s.seq != base.seq + 2) = false := by rw [HTd.out.seq]; simp
      obtain ⟨b0, b1, b2, b3, b4, b5, b6⟩ := rowS7 (HGb.out _ hb04)
      have HMs : Hid (∀ f ∈ s.files, midF f) := Lib.hid (right_mid ((snap_iff _).1 HTd.out.check).lst)
      have HCk := Lib.hid (snapCheck_any E B s (.slice sa s.files.length cs) v4 ((X.out _ hbv4).1.sub (by decide)) (X.out _ hbv4).2.1 (X.out _ hbv4).2.2 HU4.out HMs.out)
      go_wp2_with fail
      refine HCk.out.mono ?_
      rintro e v5 ⟨ev, rfl, hev, hv5⟩
      rw [HTd.out.check] at hev
      obtain rfl : ev = .nilIface := hev
      have hbv5 := hbv4.trans (hv5.mono hbv4.size)
      have hb05 := hb04.trans (hv5.mono hb04.size)
      have HS5 := Lib.hid (fun W (h : Below v5.heap.size v5 W) => rowKept HGs.out (hv5.trans (h.mono hv5.size)))
      have HB5 := Lib.hid (fun W (h : Below v5.heap.size v5 W) => rowKept (HGb.out _ hb05) h)
      have hw15 := hw14.trans (hv5.mono hw14.size)
      have HF5 := Lib.hid (fun W (h : Below v5.heap.size v5 W) => (⟨HU4.out.below (hv5.trans (h.mono hv5.size)), HVa.out.below (hw15.trans (h.mono hw15.size)), HVr.out.below (hw15.trans (h.mono hw15.size))⟩ : FilesAt W (.slice sa s.files.length cs) s.files ∧ StrsAt W (.slice av la.length cv) la ∧ StrsAt W (.slice ar lr.length cr) lr))
      have HXs5 := Lib.hid (fun W (h : Below v5.heap.size v5 W) (k : Nat) (x : Fl) (hk : s.files[k]? = some x) => flCells HXs.out (HB34.out.trans ((hv5.trans (h.mono hv5.size)).mono HB34.out.size)) hk)
      have HXb5 := Lib.hid (fun W (h : Below v5.heap.size v5 W) (k : Nat) (x : Fl) (hk : base.files[k]? = some x) => flCells HXb.out (hbv5.trans (h.mono hbv5.size)) hk)
      clear s0 s1 s2 s3 s4 s5 s6 b0 b1 b2 b3 b4 b5 b6 hgs hsq HCk hw13 hb03 hbv3 hv3 hv5 hw14 hb04 hbv4
      go_wp2_with fail
      go_loopw [26] (fun i wr => ∃ k : Nat, k ≤ base.files.length ∧ i = .int .i64 k ∧ Below v5.heap.size v5 wr) (fun i _ => base.files.length - (intOf i).toNat)
      case atStart => exact ⟨0, by omega, rfl, Below.refl _ _⟩
      case round =>
        obtain ⟨k, hk, rfl, hb⟩ := hrel
        obtain ⟨wq, rfl⟩ : ∃ wq, wq = wr := ⟨wr, rfl⟩
        obtain ⟨-, -, -, -, -, -, b6⟩ := rowS7 (HB5.out _ hb)
        by_cases hlt : k < base.files.length
        case neg =>
          obtain rfl : k = base.files.length := by omega
          have f1 : decide ((base.files.length : Int) < (base.files.length : Int)) = false := by simp
          go_wp2_with fail
          clear f1 b6
          go_loopw [30] (fun i wr => ∃ j : Nat, j ≤ la.length ∧ i = .int .i64 j ∧ Below v5.heap.size v5 wr) (fun i _ => la.length - (intOf i).toNat)
          case atStart => exact ⟨0, by omega, rfl, hb⟩
          case round =>
            obtain ⟨j, hj, rfl, hb2⟩ := hrel
            obtain ⟨wp, rfl⟩ : ∃ wp, wp = wr := ⟨wr, rfl⟩
            have hq1 := HLa.out.1
            by_cases hlj : j < la.length
            case neg =>
              obtain rfl : j = la.length := by omega
              have f2 : decide ((la.length : Int) < (la.length : Int)) = false := by simp
              obtain ⟨-, -, -, -, -, -, b6⟩ := rowS7 (HB5.out _ hb2)
              obtain ⟨-, -, -, -, -, -, s6⟩ := rowS7 (HS5.out _ hb2)
              have hlen := HTd.out.len
              rw [HLe.out, HLe2.out] at hlen
              have hq : ((s.files.length : Int) == (base.files.length : Int) - (lr.length : Int) + (la.length : Int)) = true := by simp; omega
              have hq2 := HLa.out.2
              have hq3 := HNb.out
              clear hlen hlj hj
              go_wp2_with fail
              go_ret
              exact ⟨rfl, hbv5.trans (hb2.mono hbv5.size)⟩
            have f2 : (j : Int) < (la.length : Int) := by omega
            obtain ⟨p, hpj⟩ := get_ex hlj
            have i3 := idx_at (c := cv) 1 Tryz.underlying35 szStr hav j hlj
            have hd2 : Below v5.heap.size v5 wp.drew := hb2.drew
            obtain ⟨-, -, -, -, -, -, s6⟩ := rowS7 (HS5.out _ hd2)
            have y0 := ((hw15.trans (hd2.mono hw15.size)).cell (World.block_lt_of_cell? _ _ (HXv.out j p hpj 0 _ rfl))).trans (HXv.out j p hpj 0 _ rfl)
            simp only [Nat.mul_one, Nat.add_zero] at y0 i3
            have hps := HTd.out.added p (by rw [HLe.out]; exact List.mem_of_getElem? hpj)
            have HFp := Lib.hid (findOf_any (.slice sa s.files.length cs) s.files p wp.drew (HF5.out _ hd2).1)
            generalize findV s.files p = fp at *
            have gfp : decide (fp < 0) = false := by simp; omega
            clear hpj hps
            go_wp2_with fail
            go_region_held3 (fun w' => w'.cell? ⟨X2, 6, none⟩ = some (.slice sa s.files.length cs) ∧ w'.cell? ⟨bv, ov + j, none⟩ = some (S p)) (exact ⟨s6, y0⟩) ((go_at_call 20; (with_reducible refine HFp.out.mono ?_); rintro e w' ⟨rfl, rfl⟩))
            all_goals
              go_wp2_with fail
              go_roundw
              case rel => exact ⟨j + 1, by omega, by go_num, hd2⟩
              case measure => simp [intOf]; omega
        have f1 : (k : Int) < (base.files.length : Int) := by omega
        obtain ⟨x, hxk⟩ := get_ex hlt
        have i1 := idx_at (c := cb) 6 Tryz.underlying22 szFl hab k hlt
        have hd : Below v5.heap.size v5 wq.drew := hb.drew
        obtain ⟨-, -, -, -, -, -, b6d⟩ := rowS7 (HB5.out _ hd)
        obtain ⟨-, -, -, -, -, -, s6d⟩ := rowS7 (HS5.out _ hd)
        obtain ⟨y0, y1, y2, y3, y4, y5⟩ := HXb5.out _ hd k x hxk
        have HFi := Lib.hid (findOf_any (.slice sa s.files.length cs) s.files x.path wq.drew (HF5.out _ hd).1)
        have HIn := Lib.hid (fun W (h : Below v5.heap.size v5 W) => inTexts_any x.path (.slice ar lr.length cr) lr W (HF5.out _ h).2.2)
        have HIa := Lib.hid (fun W (h : Below v5.heap.size v5 W) => inTexts_any x.path (.slice av la.length cv) la W (HF5.out _ h).2.1)
        have hkp := HTd.out.kept x (List.mem_of_getElem? hxk)
        rw [HLe.out, HLe2.out] at hkp
        obtain ⟨fv, hfv⟩ : ∃ fv, findV s.files x.path = fv := ⟨_, rfl⟩
        rw [hfv] at HFi hkp
        have HKp := Lib.hid hkp
        have HXk := Lib.hid hxk
        clear hkp hxk hfv
        go_wp2_with fail
        go_region_held3 (fun w' => w'.cell? ⟨w.heap.size, 6, none⟩ = some (.slice ab base.files.length cb) ∧ w'.cell? ⟨X2, 6, none⟩ = some (.slice sa s.files.length cs) ∧ w'.cell? ⟨bb, ob + k * 6, none⟩ = some (S x.path)) (exact ⟨b6d, s6d, y0⟩) ((go_at_call 20; (with_reducible refine HFi.out.mono ?_); rintro e w' ⟨rfl, rfl⟩))
        all_goals
          go_wp2_with fail
          refine (HIn.out _ hd).mono ?_
          rintro e w7 ⟨rfl, hw7⟩
          have hb7 := hd.trans (hw7.mono hd.size)
          clear b6 b6d s6d y0 y1 y2 y3 y4 y5 hw7
          obtain ⟨-, -, -, -, -, -, b6⟩ := rowS7 (HB5.out _ hb7)
          obtain ⟨y0, -, -, -, -, -⟩ := HXb5.out _ hb7 k x HXk.out
          go_wp2_with fail
          refine (HIa.out _ hb7).mono ?_
          rintro e w8 ⟨rfl, hw8⟩
          have hb8 := hb7.trans (hw8.mono hb7.size)
          clear b6 y0 hw8 HFi HIn HIa
          by_cases hg : x.path ∈ lr
          case pos =>
            by_cases hn : x.path ∈ la
            case pos =>
              rw [decide_eq_true hg, decide_eq_true hn]
              clear hg hn
              go_wp2_with fail
              go_roundw
              case rel => exact ⟨k + 1, by omega, by go_num, hb8⟩
              case measure => simp [intOf]; omega
            have hfn : fv < 0 := ((HKp.out (fun h => hn h.2)).1).1 hg
            rw [decide_eq_true hg, decide_eq_false hn]
            clear hg hn
            go_wp2_with fail
            go_roundw
            case rel => exact ⟨k + 1, by omega, by go_num, hb8⟩
            case measure => simp [intOf]; omega
          have hk2 := HKp.out (fun h => hg h.1)
          obtain ⟨m, rfl⟩ : ∃ m : Nat, fv = m := ⟨fv.toNat, by
            have : ¬ fv < 0 := fun h => hg (hk2.1.2 h)
            omega⟩
          have hget := hk2.2 m rfl
          have hm1 : m < s.files.length := (List.getElem?_eq_some_iff.1 hget).1
          have hm2 : (m : Int) < (s.files.length : Int) := by omega
          have i2 := idx_at (c := cs) 6 Tryz.underlying22 szFl hsa m hm1
          obtain ⟨-, -, -, -, -, -, b6⟩ := rowS7 (HB5.out _ hb8)
          obtain ⟨-, -, -, -, -, -, s6⟩ := rowS7 (HS5.out _ hb8)
          obtain ⟨y0, y1, y2, y3, y4, y5⟩ := HXb5.out _ hb8 k x HXk.out
          obtain ⟨z0, z1, z2, z3, z4, z5⟩ := HXs5.out _ hb8 m x hget
          rw [decide_eq_false hg]
          clear hg hk2 hget
          go_wp2_with fail
          go_quiet (fail)
          go_wp2_with fail
          go_roundw
          case rel => exact ⟨k + 1, by omega, by go_num, (Bdn hb8 _)⟩
          case measure => simp [intOf]; omega
    have hl1 := HSa.out.1
    have hl2 := HSc.out.1
    have f : (k : Int) < (a.length : Int) + (b.length : Int) := by omega
    have HFa := Lib.hid (Fit.upto HRb.out HSa.out.2 k)
    have HFc := Lib.hid (Fit.upto HRb.out HSc.out.2 (k - a.length))
    have HK : Hid (k ≤ 60) := Lib.hid (by have := HSa.out.1; have := HSc.out.1; omega)
    obtain ⟨t, ht⟩ : ∃ t, appCh (beginT base) (a.take k) = t := ⟨_, rfl⟩
    obtain ⟨u, hu⟩ : ∃ u, appCh (beginT base) (b.take (k - a.length)) = u := ⟨_, rfl⟩
    rw [ht, hu] at hf
    rw [ht] at HFa
    rw [hu] at HFc
    by_cases hka : k < a.length
    case pos =>
      have HUz : Hid (addedT u = [] ∧ u.removes = []) := Lib.hid (by rw [← hu, show k - a.length = 0 by omega, List.take_zero]; exact ⟨rfl, rfl⟩)
      have ga : (k : Int) < (a.length : Int) := by omega
      obtain ⟨x, hxk⟩ := get_ex hka
      have i1 := idx_at (c := ca) 8 Tryz.underlying25 szCh haa k hka
      obtain ⟨c0, c1, c2, c3, c4, c5, c6, c7⟩ := chCells HXa.out hbwo hxk
      have HSx := Lib.hid (HSa.out.2 x (List.mem_of_getElem? hxk))
      cases hxa : x.add with
      | true =>
        rw [hxa] at c0
        have hwC : Below wo.heap.size wo (wo.alloc (.cells #[.bool true, S x.file.path, S x.file.part, .int .i64 x.file.n, .int .i64 x.file.lo, .int .i64 x.file.hi, .int .i64 x.file.seq, S x.path] 39)) := (Below.refl _ _).alloc (Nat.le_refl _) _
        have hgC := heap_alloc_new wo (.cells #[.bool true, S x.file.path, S x.file.part, .int .i64 x.file.n, .int .i64 x.file.lo, .int .i64 x.file.hi, .int .i64 x.file.seq, S x.path] 39)
        have hbC := hb.alloc hb.size (.cells #[.bool true, S x.file.path, S x.file.part, .int .i64 x.file.n, .int .i64 x.file.lo, .int .i64 x.file.hi, .int .i64 x.file.seq, S x.path] 39)
        have hbwC := hbwo.alloc hbwo.size (.cells #[.bool true, S x.file.path, S x.file.part, .int .i64 x.file.n, .int .i64 x.file.lo, .int .i64 x.file.hi, .int .i64 x.file.seq, S x.path] 39)
        obtain ⟨D1, D2', p1, p2, q1, q2, P1', P2', P3', P4', P5', P6', P7', P8', P9'⟩ := hf.out.more
        have HnD : Hid (¬ D1 wo.heap.size ∧ ¬ D2' wo.heap.size) := Lib.hid ⟨fun h => by have := (P1'.low _ h).2; omega, fun h => by have := (P2'.low _ h).2; omega⟩
        have P1 := Lib.hid (P1'.below hwC)
        have P2 := Lib.hid (P2'.below hwC)
        have P6 := Lib.hid (P6'.below hwC)
        have P7 := Lib.hid (P7'.below hwC)
        have P3 := Lib.hid P3'
        have P4 := Lib.hid P4'
        have P5 := Lib.hid P5'
        have P8 := Lib.hid P8'
        have P9 := Lib.hid P9'
        have Hkl := Lib.hid hf.out.kl; have Hhh := Lib.hid hf.out.hh
        clear P1' P2' P3' P4' P5' P6' P7' P8' P9' hf
        have HSk : Hid (appCh (beginT base) (a.take (k + 1)) = addT t x.file ∧ appCh (beginT base) (b.take (k + 1 - a.length)) = u) := Lib.hid ⟨by rw [appCh_snoc hxk, ht]; unfold applyCh; rw [if_pos hxa], by rw [show k + 1 - a.length = k - a.length by omega]; exact hu⟩
        have HT := Lib.hid ht; have HU := Lib.hid hu; have HGC := Lib.hid hgC
        have HXk := Lib.hid hxk; have HXa' := Lib.hid hxa
        clear ht hu hgC hxk hxa
        go_upto_region 16 with fail
        clear c0 c1 c2 c3 c4 c5 c6 c7
        obtain ⟨c0, c1, c2, c3, c4, c5, c6, c7⟩ := chCells HXa.out (hbwo.alloc hbwo.size (.cells #[.bool false, .string ⟨#[]⟩, .string ⟨#[]⟩, .int .i64 0, .int .i64 0, .int .i64 0, .int .i64 0, .string ⟨#[]⟩] 39)) HXk.out
        rw [HXa'.out] at c0
        go_upto_region 19 with fail
        clear c0 c1 c2 c3 c4 c5 c6 c7 i1
        generalize wo.alloc (.cells #[.bool true, S x.file.path, S x.file.part, .int .i64 x.file.n, .int .i64 x.file.lo, .int .i64 x.file.hi, .int .i64 x.file.seq, S x.path] 39) = wC at *
        obtain ⟨n, hn⟩ : ∃ n, wo.heap.size = n := ⟨_, rfl⟩
        rw [hn] at HGC HnD ⊢
        obtain ⟨d0, d1, d2, d3, d4, d5, d6, d7⟩ := row8 HGC.out
        have HAd := Lib.hid (txAdd_any E B w3.heap.size D1 K tb t vf p1 p2 x.file wC ((X.out _ hbwC).1.sub (by decide)) (X.out _ hbwC).2.1 (X.out _ hbwC).2.2 P1.out HSx.out.2.mid (by have := HFa.out.na; have := HK.out; omega))
        have HSt := Lib.hid (fun W1 D' y1 y2 h1' hs hbd => four_fst (B1 := w3.heap.size) (tb := tb) (vf := vf) (W' := W1) (D' := D') (t' := addT t x.file) (x1' := y1) (x2' := y2) P2.out P3.out P4.out P5.out P6.out P7.out P8.out P9.out Hkl.out Hhh.out hbC.size h1' hs hbd)
        clear P1 P2 P3 P4 P5 P6 P7 P8 P9
        go_wp2_with fail
        refine HAd.out.mono ?_
        rintro e v2 ⟨ev, va', D', rfl, hev, hat, hs, hbd⟩
        obtain ⟨hF2, hbv⟩ := HSt.out _ _ _ _ hat hs hbd
        have hb02 := hbC.trans hbv
        have HG2 := Lib.hid ((hbd.block n (Array.getElem?_eq_some_iff.1 HGC.out).1 HnD.out.1).trans HGC.out)
        by_cases hte : addTE t x.file = 0
        case neg =>
          obtain ⟨t1, x1, rfl⟩ := hev.iface (by rw [erOf_pos hte]; simp)
          have HEq : Hid (addT t x.file = t) := Lib.hid (addT_none hte)
          have HF2 := Lib.hid hF2
          clear hev hat hs hbd hF2 hte HAd HSt d0 d1 d2 d3 d4 d5 d6 d7
          go_wp2_with fail
          go_roundw
          case rel => exact ⟨k + 1, va, vr, by omega, by go_num, rfl, rfl, Lib.hid (by rw [HSk.out.1, HSk.out.2, HEq.out]; have h := HF2.out; rw [HEq.out] at h; exact h), Lib.hid (by have := hz.out; have := hbv.size; have := hwC.size; omega), hb02⟩
          case measure => simp [intOf]; omega
        rw [hte] at hev
        obtain rfl : ev = .nilIface := hev
        have HTe := Lib.hid hte
        have HF2 := Lib.hid hF2
        have hv2 := Lib.hid hb02.size
        clear hat hs hbd hF2 hte HAd HSt d0 d1 d2 d3 d4 d5 d6 d7
        obtain ⟨d0, d1, d2, d3, d4, d5, d6, d7⟩ := row8 HG2.out
        have hbS : Below v2.heap.size v2 (v2.alloc (.cells #[S x.file.path] 9)) := (Below.refl _ _).alloc (Nat.le_refl _) _
        obtain ⟨-, -, -, -, -, -, -, -, -, -, -, R6, R7, -, -⟩ := HF2.out.more
        have HL : Hid (addedT (addT t x.file) ++ addedT u = addedT t ++ addedT u ++ [x.file.path] ∧ (addT t x.file).removes ++ u.removes = t.removes ++ u.removes) := Lib.hid ⟨by rw [addedT_addT HTe.out, HUz.out.1]; simp, by rw [removes_addT]⟩
        have hln : (addedT t ++ addedT u).length ≤ 120 := by have := HFa.out.na; have := HFc.out.na; have := HK.out; simp only [addedT, List.length_append, List.length_map]; omega
        obtain ⟨L, hLe⟩ : ∃ L, (addedT t ++ addedT u) = L := ⟨_, rfl⟩
        have hbz : w6.heap.size ≤ v2.heap.size := by have := hz.out; have := hbv.size; have := hwC.size; omega
        have HLe := Lib.hid hLe; have HLn := Lib.hid hln; have HbS := Lib.hid hbS; have HV2 := Lib.hid hbz; have HR := Lib.hid R6
        clear hln hbS hbz R6 R7 hLe
        go_wp2_with (at_builtin; refine wpList_app rfl _ _ _ rfl w6.heap.size elStr va (addedT t ++ addedT u).length _ rfl (HR.out.alloc _) (.slice (some ⟨v2.heap.size, 0, none⟩) 1 1) 1 (encS x.file.path) rfl (src_one rfl rfl (by simp [Value.oneCell'])) (by have := HLn.out; unfold maxLen; omega) (by have := HLn.out; omega) (by have := HV2.out; simp; omega) ?_; intro v' w7 hown hg hn)
        obtain ⟨hF7, hb27⟩ := HF2.out.added HbS.out hg hn (Own.snoc hown) hv2.out
        have HF7 := Lib.hid hF7
        have hb07 := hb02.trans hb27
        have HV7 : Hid (w6.heap.size ≤ w7.heap.size) := Lib.hid (Nat.le_trans HV2.out hb27.size)
        clear hown hg hn hF7 d0 d1 d2 d3 d4 d5 d6 d7
        go_wp2_with fail
        go_roundw
        case rel => exact ⟨k + 1, v', vr, by omega, by go_num, rfl, rfl, Lib.hid (by rw [HSk.out.1, HSk.out.2, HL.out.1, HL.out.2]; exact HF7.out), HV7, hb07⟩
        case measure => simp [intOf]; omega
      | false =>
        rw [hxa] at c0
        have hwC : Below wo.heap.size wo (wo.alloc (.cells #[.bool false, S x.file.path, S x.file.part, .int .i64 x.file.n, .int .i64 x.file.lo, .int .i64 x.file.hi, .int .i64 x.file.seq, S x.path] 39)) := (Below.refl _ _).alloc (Nat.le_refl _) _
        have hgC := heap_alloc_new wo (.cells #[.bool false, S x.file.path, S x.file.part, .int .i64 x.file.n, .int .i64 x.file.lo, .int .i64 x.file.hi, .int .i64 x.file.seq, S x.path] 39)
        have hbC := hb.alloc hb.size (.cells #[.bool false, S x.file.path, S x.file.part, .int .i64 x.file.n, .int .i64 x.file.lo, .int .i64 x.file.hi, .int .i64 x.file.seq, S x.path] 39)
        have hbwC := hbwo.alloc hbwo.size (.cells #[.bool false, S x.file.path, S x.file.part, .int .i64 x.file.n, .int .i64 x.file.lo, .int .i64 x.file.hi, .int .i64 x.file.seq, S x.path] 39)
        obtain ⟨D1, D2', p1, p2, q1, q2, P1', P2', P3', P4', P5', P6', P7', P8', P9'⟩ := hf.out.more
        have HnD : Hid (¬ D1 wo.heap.size ∧ ¬ D2' wo.heap.size) := Lib.hid ⟨fun h => by have := (P1'.low _ h).2; omega, fun h => by have := (P2'.low _ h).2; omega⟩
        have P1 := Lib.hid (P1'.below hwC)
        have P2 := Lib.hid (P2'.below hwC)
        have P6 := Lib.hid (P6'.below hwC)
        have P7 := Lib.hid (P7'.below hwC)
        have P3 := Lib.hid P3'
        have P4 := Lib.hid P4'
        have P5 := Lib.hid P5'
        have P8 := Lib.hid P8'
        have P9 := Lib.hid P9'
        have Hkl := Lib.hid hf.out.kl; have Hhh := Lib.hid hf.out.hh
        clear P1' P2' P3' P4' P5' P6' P7' P8' P9' hf
        have HSk : Hid (appCh (beginT base) (a.take (k + 1)) = remT t x.path ∧ appCh (beginT base) (b.take (k + 1 - a.length)) = u) := Lib.hid ⟨by rw [appCh_snoc hxk, ht]; unfold applyCh; rw [if_neg (by rw [hxa]; decide)], by rw [show k + 1 - a.length = k - a.length by omega]; exact hu⟩
        have HT := Lib.hid ht; have HU := Lib.hid hu; have HGC := Lib.hid hgC
        have HXk := Lib.hid hxk; have HXa' := Lib.hid hxa
        clear ht hu hgC hxk hxa
        go_upto_region 16 with fail
        clear c0 c1 c2 c3 c4 c5 c6 c7
        obtain ⟨c0, c1, c2, c3, c4, c5, c6, c7⟩ := chCells HXa.out (hbwo.alloc hbwo.size (.cells #[.bool false, .string ⟨#[]⟩, .string ⟨#[]⟩, .int .i64 0, .int .i64 0, .int .i64 0, .int .i64 0, .string ⟨#[]⟩] 39)) HXk.out
        rw [HXa'.out] at c0
        go_upto_region 19 with fail
        clear c0 c1 c2 c3 c4 c5 c6 c7 i1
        generalize wo.alloc (.cells #[.bool false, S x.file.path, S x.file.part, .int .i64 x.file.n, .int .i64 x.file.lo, .int .i64 x.file.hi, .int .i64 x.file.seq, S x.path] 39) = wC at *
        obtain ⟨n, hn⟩ : ∃ n, wo.heap.size = n := ⟨_, rfl⟩
        rw [hn] at HGC HnD ⊢
        obtain ⟨d0, d1, d2, d3, d4, d5, d6, d7⟩ := row8 HGC.out
        have HAd := Lib.hid (txRemove_any E B w3.heap.size D1 K tb t vf p1 p2 x.path wC ((X.out _ hbwC).1.sub (by decide)) P1.out (by have := HFa.out.nr; have := HK.out; omega))
        have HSt := Lib.hid (fun W1 D' y1 y2 h1' hs hbd => four_fst (B1 := w3.heap.size) (tb := tb) (vf := vf) (W' := W1) (D' := D') (t' := remT t x.path) (x1' := y1) (x2' := y2) P2.out P3.out P4.out P5.out P6.out P7.out P8.out P9.out Hkl.out Hhh.out hbC.size h1' hs hbd)
        clear P1 P2 P3 P4 P5 P6 P7 P8 P9
        go_wp2_with fail
        refine HAd.out.mono ?_
        rintro e v2 ⟨ev, va', D', rfl, hev, hat, hs, hbd⟩
        obtain ⟨hF2, hbv⟩ := HSt.out _ _ _ _ hat hs hbd
        have hb02 := hbC.trans hbv
        have HG2 := Lib.hid ((hbd.block n (Array.getElem?_eq_some_iff.1 HGC.out).1 HnD.out.1).trans HGC.out)
        by_cases hte : remTE t x.path = 0
        case neg =>
          obtain ⟨t1, x1, rfl⟩ := hev.iface (by rw [erOf_pos hte]; simp)
          have HEq : Hid (remT t x.path = t) := Lib.hid (remT_none hte)
          have HF2 := Lib.hid hF2
          clear hev hat hs hbd hF2 hte HAd HSt d0 d1 d2 d3 d4 d5 d6 d7
          go_wp2_with fail
          go_roundw
          case rel => exact ⟨k + 1, va, vr, by omega, by go_num, rfl, rfl, Lib.hid (by rw [HSk.out.1, HSk.out.2, HEq.out]; have h := HF2.out; rw [HEq.out] at h; exact h), Lib.hid (by have := hz.out; have := hbv.size; have := hwC.size; omega), hb02⟩
          case measure => simp [intOf]; omega
        rw [hte] at hev
        obtain rfl : ev = .nilIface := hev
        have HTe := Lib.hid hte
        have HF2 := Lib.hid hF2
        have hv2 := Lib.hid hb02.size
        clear hat hs hbd hF2 hte HAd HSt d0 d1 d2 d3 d4 d5 d6 d7
        obtain ⟨d0, d1, d2, d3, d4, d5, d6, d7⟩ := row8 HG2.out
        have hbS : Below v2.heap.size v2 (v2.alloc (.cells #[S x.path] 9)) := (Below.refl _ _).alloc (Nat.le_refl _) _
        obtain ⟨-, -, -, -, -, -, -, -, -, -, -, R6, R7, -, -⟩ := HF2.out.more
        have HL : Hid (addedT (remT t x.path) ++ addedT u = addedT t ++ addedT u ∧ (remT t x.path).removes ++ u.removes = t.removes ++ u.removes ++ [x.path]) := Lib.hid ⟨by rw [addedT_remT], by rw [removes_remT HTe.out, HUz.out.2]; simp⟩
        have hln : (t.removes ++ u.removes).length ≤ 120 := by have := HFa.out.nr; have := HFc.out.nr; have := HK.out; simp only [List.length_append]; omega
        obtain ⟨L, hLe⟩ : ∃ L, (t.removes ++ u.removes) = L := ⟨_, rfl⟩
        have hbz : w6.heap.size ≤ v2.heap.size := by have := hz.out; have := hbv.size; have := hwC.size; omega
        have HLe := Lib.hid hLe; have HLn := Lib.hid hln; have HbS := Lib.hid hbS; have HV2 := Lib.hid hbz; have HR := Lib.hid R7
        clear hln hbS hbz R6 R7 hLe
        go_wp2_with (at_builtin; refine wpList_app rfl _ _ _ rfl w6.heap.size elStr vr (t.removes ++ u.removes).length _ rfl (HR.out.alloc _) (.slice (some ⟨v2.heap.size, 0, none⟩) 1 1) 1 (encS x.path) rfl (src_one rfl rfl (by simp [Value.oneCell'])) (by have := HLn.out; unfold maxLen; omega) (by have := HLn.out; omega) (by have := HV2.out; simp; omega) ?_; intro v' w7 hown hg hn)
        obtain ⟨hF7, hb27⟩ := HF2.out.removed HbS.out hg hn (Own.snoc hown) hv2.out
        have HF7 := Lib.hid hF7
        have hb07 := hb02.trans hb27
        have HV7 : Hid (w6.heap.size ≤ w7.heap.size) := Lib.hid (Nat.le_trans HV2.out hb27.size)
        clear hown hg hn hF7 d0 d1 d2 d3 d4 d5 d6 d7
        go_wp2_with fail
        go_roundw
        case rel => exact ⟨k + 1, va, v', by omega, by go_num, rfl, rfl, Lib.hid (by rw [HSk.out.1, HSk.out.2, HL.out.1, HL.out.2]; exact HF7.out), HV7, hb07⟩
        case measure => simp [intOf]; omega
    have gb : decide ((k : Int) < (a.length : Int)) = false := by simp; omega
    obtain ⟨j, hjk⟩ : ∃ j : Nat, k - a.length = j := ⟨_, rfl⟩
    have hkj : (k : Int) - (a.length : Int) = (j : Int) := by omega
    have hjl : j < b.length := by omega
    rw [hjk] at hu
    obtain ⟨x, hxk⟩ := get_ex hjl
    have i1 := idx_at (c := cc) 8 Tryz.underlying25 szCh hac j hjl
    obtain ⟨c0, c1, c2, c3, c4, c5, c6, c7⟩ := chCells HXc.out hbwo hxk
    have HSx := Lib.hid (HSc.out.2 x (List.mem_of_getElem? hxk))
    have HJk := Lib.hid hjk
    clear hjk
    cases hxa : x.add with
    | true =>
      rw [hxa] at c0
      have hwC : Below wo.heap.size wo (wo.alloc (.cells #[.bool true, S x.file.path, S x.file.part, .int .i64 x.file.n, .int .i64 x.file.lo, .int .i64 x.file.hi, .int .i64 x.file.seq, S x.path] 39)) := (Below.refl _ _).alloc (Nat.le_refl _) _
      have hgC := heap_alloc_new wo (.cells #[.bool true, S x.file.path, S x.file.part, .int .i64 x.file.n, .int .i64 x.file.lo, .int .i64 x.file.hi, .int .i64 x.file.seq, S x.path] 39)
      have hbC := hb.alloc hb.size (.cells #[.bool true, S x.file.path, S x.file.part, .int .i64 x.file.n, .int .i64 x.file.lo, .int .i64 x.file.hi, .int .i64 x.file.seq, S x.path] 39)
      have hbwC := hbwo.alloc hbwo.size (.cells #[.bool true, S x.file.path, S x.file.part, .int .i64 x.file.n, .int .i64 x.file.lo, .int .i64 x.file.hi, .int .i64 x.file.seq, S x.path] 39)
      obtain ⟨D1, D2', p1, p2, q1, q2, P1', P2', P3', P4', P5', P6', P7', P8', P9'⟩ := hf.out.more
      have HnD : Hid (¬ D1 wo.heap.size ∧ ¬ D2' wo.heap.size) := Lib.hid ⟨fun h => by have := (P1'.low _ h).2; omega, fun h => by have := (P2'.low _ h).2; omega⟩
      have P1 := Lib.hid (P1'.below hwC)
      have P2 := Lib.hid (P2'.below hwC)
      have P6 := Lib.hid (P6'.below hwC)
      have P7 := Lib.hid (P7'.below hwC)
      have P3 := Lib.hid P3'
      have P4 := Lib.hid P4'
      have P5 := Lib.hid P5'
      have P8 := Lib.hid P8'
      have P9 := Lib.hid P9'
      have Hkl := Lib.hid hf.out.kl; have Hhh := Lib.hid hf.out.hh
      clear P1' P2' P3' P4' P5' P6' P7' P8' P9' hf
      have HSk : Hid (appCh (beginT base) (a.take (k + 1)) = t ∧ appCh (beginT base) (b.take (k + 1 - a.length)) = addT u x.file) := Lib.hid ⟨by rw [List.take_of_length_le (by omega), ← ht, List.take_of_length_le (by omega)], by rw [show k + 1 - a.length = j + 1 by have := HJk.out; omega, appCh_snoc hxk, hu]; unfold applyCh; rw [if_pos hxa]⟩
      have HT := Lib.hid ht; have HU := Lib.hid hu; have HGC := Lib.hid hgC
      have HXk := Lib.hid hxk; have HXa' := Lib.hid hxa
      clear ht hu hgC hxk hxa
      go_upto_region 18 with fail
      clear c0 c1 c2 c3 c4 c5 c6 c7
      obtain ⟨c0, c1, c2, c3, c4, c5, c6, c7⟩ := chCells HXc.out (hbwo.alloc hbwo.size (.cells #[.bool false, .string ⟨#[]⟩, .string ⟨#[]⟩, .int .i64 0, .int .i64 0, .int .i64 0, .int .i64 0, .string ⟨#[]⟩] 39)) HXk.out
      rw [HXa'.out] at c0
      go_upto_region 19 with fail
      clear c0 c1 c2 c3 c4 c5 c6 c7 i1
      generalize wo.alloc (.cells #[.bool true, S x.file.path, S x.file.part, .int .i64 x.file.n, .int .i64 x.file.lo, .int .i64 x.file.hi, .int .i64 x.file.seq, S x.path] 39) = wC at *
      obtain ⟨n, hn⟩ : ∃ n, wo.heap.size = n := ⟨_, rfl⟩
      rw [hn] at HGC HnD ⊢
      obtain ⟨d0, d1, d2, d3, d4, d5, d6, d7⟩ := row8 HGC.out
      have HAd := Lib.hid (txAdd_any E B w4.heap.size D2' K2 ub u vf2 q1 q2 x.file wC ((X.out _ hbwC).1.sub (by decide)) (X.out _ hbwC).2.1 (X.out _ hbwC).2.2 P2.out HSx.out.2.mid (by have := HFc.out.na; have := HK.out; omega))
      have HSt := Lib.hid (fun W1 D' y1 y2 h1' hs hbd => four_snd (B2 := w4.heap.size) (ub := ub) (vf2 := vf2) (W' := W1) (D' := D') (u' := addT u x.file) (y1' := y1) (y2' := y2) P1.out P3.out P4.out P5.out P6.out P7.out P8.out P9.out Hkl.out Hhh.out hbC.size h1' hs hbd)
      clear P1 P2 P3 P4 P5 P6 P7 P8 P9
      go_wp2_with fail
      refine HAd.out.mono ?_
      rintro e v2 ⟨ev, va', D', rfl, hev, hat, hs, hbd⟩
      obtain ⟨hF2, hbv⟩ := HSt.out _ _ _ _ hat hs hbd
      have hb02 := hbC.trans hbv
      have HG2 := Lib.hid ((hbd.block n (Array.getElem?_eq_some_iff.1 HGC.out).1 HnD.out.2).trans HGC.out)
      by_cases hte : addTE u x.file = 0
      case neg =>
        obtain ⟨t1, x1, rfl⟩ := hev.iface (by rw [erOf_pos hte]; simp)
        have HEq : Hid (addT u x.file = u) := Lib.hid (addT_none hte)
        have HF2 := Lib.hid hF2
        clear hev hat hs hbd hF2 hte HAd HSt d0 d1 d2 d3 d4 d5 d6 d7
        go_wp2_with fail
        go_roundw
        case rel => exact ⟨k + 1, va, vr, by omega, by go_num, rfl, rfl, Lib.hid (by rw [HSk.out.1, HSk.out.2, HEq.out]; have h := HF2.out; rw [HEq.out] at h; exact h), Lib.hid (by have := hz.out; have := hbv.size; have := hwC.size; omega), hb02⟩
        case measure => simp [intOf]; omega
      rw [hte] at hev
      obtain rfl : ev = .nilIface := hev
      have HTe := Lib.hid hte
      have HF2 := Lib.hid hF2
      have hv2 := Lib.hid hb02.size
      clear hat hs hbd hF2 hte HAd HSt d0 d1 d2 d3 d4 d5 d6 d7
      obtain ⟨d0, d1, d2, d3, d4, d5, d6, d7⟩ := row8 HG2.out
      have hbS : Below v2.heap.size v2 (v2.alloc (.cells #[S x.file.path] 9)) := (Below.refl _ _).alloc (Nat.le_refl _) _
      obtain ⟨-, -, -, -, -, -, -, -, -, -, -, R6, R7, -, -⟩ := HF2.out.more
      have HL : Hid (addedT t ++ addedT (addT u x.file) = addedT t ++ addedT u ++ [x.file.path] ∧ t.removes ++ (addT u x.file).removes = t.removes ++ u.removes) := Lib.hid ⟨by rw [addedT_addT HTe.out, List.append_assoc], by rw [removes_addT]⟩
      have hln : (addedT t ++ addedT u).length ≤ 120 := by have := HFa.out.na; have := HFc.out.na; have := HK.out; simp only [addedT, List.length_append, List.length_map]; omega
      obtain ⟨L, hLe⟩ : ∃ L, (addedT t ++ addedT u) = L := ⟨_, rfl⟩
      have hbz : w6.heap.size ≤ v2.heap.size := by have := hz.out; have := hbv.size; have := hwC.size; omega
      have HLe := Lib.hid hLe; have HLn := Lib.hid hln; have HbS := Lib.hid hbS; have HV2 := Lib.hid hbz; have HR := Lib.hid R6
      clear hln hbS hbz R6 R7 hLe
      go_wp2_with (at_builtin; refine wpList_app rfl _ _ _ rfl w6.heap.size elStr va (addedT t ++ addedT u).length _ rfl (HR.out.alloc _) (.slice (some ⟨v2.heap.size, 0, none⟩) 1 1) 1 (encS x.file.path) rfl (src_one rfl rfl (by simp [Value.oneCell'])) (by have := HLn.out; unfold maxLen; omega) (by have := HLn.out; omega) (by have := HV2.out; simp; omega) ?_; intro v' w7 hown hg hn)
      obtain ⟨hF7, hb27⟩ := HF2.out.added HbS.out hg hn (Own.snoc hown) hv2.out
      have HF7 := Lib.hid hF7
      have hb07 := hb02.trans hb27
      have HV7 : Hid (w6.heap.size ≤ w7.heap.size) := Lib.hid (Nat.le_trans HV2.out hb27.size)
      clear hown hg hn hF7 d0 d1 d2 d3 d4 d5 d6 d7
      go_wp2_with fail
      go_roundw
      case rel => exact ⟨k + 1, v', vr, by omega, by go_num, rfl, rfl, Lib.hid (by rw [HSk.out.1, HSk.out.2, HL.out.1, HL.out.2]; exact HF7.out), HV7, hb07⟩
      case measure => simp [intOf]; omega
    | false =>
      rw [hxa] at c0
      have hwC : Below wo.heap.size wo (wo.alloc (.cells #[.bool false, S x.file.path, S x.file.part, .int .i64 x.file.n, .int .i64 x.file.lo, .int .i64 x.file.hi, .int .i64 x.file.seq, S x.path] 39)) := (Below.refl _ _).alloc (Nat.le_refl _) _
      have hgC := heap_alloc_new wo (.cells #[.bool false, S x.file.path, S x.file.part, .int .i64 x.file.n, .int .i64 x.file.lo, .int .i64 x.file.hi, .int .i64 x.file.seq, S x.path] 39)
      have hbC := hb.alloc hb.size (.cells #[.bool false, S x.file.path, S x.file.part, .int .i64 x.file.n, .int .i64 x.file.lo, .int .i64 x.file.hi, .int .i64 x.file.seq, S x.path] 39)
      have hbwC := hbwo.alloc hbwo.size (.cells #[.bool false, S x.file.path, S x.file.part, .int .i64 x.file.n, .int .i64 x.file.lo, .int .i64 x.file.hi, .int .i64 x.file.seq, S x.path] 39)
      obtain ⟨D1, D2', p1, p2, q1, q2, P1', P2', P3', P4', P5', P6', P7', P8', P9'⟩ := hf.out.more
      have HnD : Hid (¬ D1 wo.heap.size ∧ ¬ D2' wo.heap.size) := Lib.hid ⟨fun h => by have := (P1'.low _ h).2; omega, fun h => by have := (P2'.low _ h).2; omega⟩
      have P1 := Lib.hid (P1'.below hwC)
      have P2 := Lib.hid (P2'.below hwC)
      have P6 := Lib.hid (P6'.below hwC)
      have P7 := Lib.hid (P7'.below hwC)
      have P3 := Lib.hid P3'
      have P4 := Lib.hid P4'
      have P5 := Lib.hid P5'
      have P8 := Lib.hid P8'
      have P9 := Lib.hid P9'
      have Hkl := Lib.hid hf.out.kl; have Hhh := Lib.hid hf.out.hh
      clear P1' P2' P3' P4' P5' P6' P7' P8' P9' hf
      have HSk : Hid (appCh (beginT base) (a.take (k + 1)) = t ∧ appCh (beginT base) (b.take (k + 1 - a.length)) = remT u x.path) := Lib.hid ⟨by rw [List.take_of_length_le (by omega), ← ht, List.take_of_length_le (by omega)], by rw [show k + 1 - a.length = j + 1 by have := HJk.out; omega, appCh_snoc hxk, hu]; unfold applyCh; rw [if_neg (by rw [hxa]; decide)]⟩
      have HT := Lib.hid ht; have HU := Lib.hid hu; have HGC := Lib.hid hgC
      have HXk := Lib.hid hxk; have HXa' := Lib.hid hxa
      clear ht hu hgC hxk hxa
      go_upto_region 18 with fail
      clear c0 c1 c2 c3 c4 c5 c6 c7
      obtain ⟨c0, c1, c2, c3, c4, c5, c6, c7⟩ := chCells HXc.out (hbwo.alloc hbwo.size (.cells #[.bool false, .string ⟨#[]⟩, .string ⟨#[]⟩, .int .i64 0, .int .i64 0, .int .i64 0, .int .i64 0, .string ⟨#[]⟩] 39)) HXk.out
      rw [HXa'.out] at c0
      go_upto_region 19 with fail
      clear c0 c1 c2 c3 c4 c5 c6 c7 i1
      generalize wo.alloc (.cells #[.bool false, S x.file.path, S x.file.part, .int .i64 x.file.n, .int .i64 x.file.lo, .int .i64 x.file.hi, .int .i64 x.file.seq, S x.path] 39) = wC at *
      obtain ⟨n, hn⟩ : ∃ n, wo.heap.size = n := ⟨_, rfl⟩
      rw [hn] at HGC HnD ⊢
      obtain ⟨d0, d1, d2, d3, d4, d5, d6, d7⟩ := row8 HGC.out
      have HAd := Lib.hid (txRemove_any E B w4.heap.size D2' K2 ub u vf2 q1 q2 x.path wC ((X.out _ hbwC).1.sub (by decide)) P2.out (by have := HFc.out.nr; have := HK.out; omega))
      have HSt := Lib.hid (fun W1 D' y1 y2 h1' hs hbd => four_snd (B2 := w4.heap.size) (ub := ub) (vf2 := vf2) (W' := W1) (D' := D') (u' := remT u x.path) (y1' := y1) (y2' := y2) P1.out P3.out P4.out P5.out P6.out P7.out P8.out P9.out Hkl.out Hhh.out hbC.size h1' hs hbd)
      clear P1 P2 P3 P4 P5 P6 P7 P8 P9
      go_wp2_with fail
      refine HAd.out.mono ?_
      rintro e v2 ⟨ev, va', D', rfl, hev, hat, hs, hbd⟩
      obtain ⟨hF2, hbv⟩ := HSt.out _ _ _ _ hat hs hbd
      have hb02 := hbC.trans hbv
      have HG2 := Lib.hid ((hbd.block n (Array.getElem?_eq_some_iff.1 HGC.out).1 HnD.out.2).trans HGC.out)
      by_cases hte : remTE u x.path = 0
      case neg =>
        obtain ⟨t1, x1, rfl⟩ := hev.iface (by rw [erOf_pos hte]; simp)
        have HEq : Hid (remT u x.path = u) := Lib.hid (remT_none hte)
        have HF2 := Lib.hid hF2
        clear hev hat hs hbd hF2 hte HAd HSt d0 d1 d2 d3 d4 d5 d6 d7
        go_wp2_with fail
        go_roundw
        case rel => exact ⟨k + 1, va, vr, by omega, by go_num, rfl, rfl, Lib.hid (by rw [HSk.out.1, HSk.out.2, HEq.out]; have h := HF2.out; rw [HEq.out] at h; exact h), Lib.hid (by have := hz.out; have := hbv.size; have := hwC.size; omega), hb02⟩
        case measure => simp [intOf]; omega
      rw [hte] at hev
      obtain rfl : ev = .nilIface := hev
      have HTe := Lib.hid hte
      have HF2 := Lib.hid hF2
      have hv2 := Lib.hid hb02.size
      clear hat hs hbd hF2 hte HAd HSt d0 d1 d2 d3 d4 d5 d6 d7
      obtain ⟨d0, d1, d2, d3, d4, d5, d6, d7⟩ := row8 HG2.out
      have hbS : Below v2.heap.size v2 (v2.alloc (.cells #[S x.path] 9)) := (Below.refl _ _).alloc (Nat.le_refl _) _
      obtain ⟨-, -, -, -, -, -, -, -, -, -, -, R6, R7, -, -⟩ := HF2.out.more
      have HL : Hid (addedT t ++ addedT (remT u x.path) = addedT t ++ addedT u ∧ t.removes ++ (remT u x.path).removes = t.removes ++ u.removes ++ [x.path]) := Lib.hid ⟨by rw [addedT_remT], by rw [removes_remT HTe.out, List.append_assoc]⟩
      have hln : (t.removes ++ u.removes).length ≤ 120 := by have := HFa.out.nr; have := HFc.out.nr; have := HK.out; simp only [List.length_append]; omega
      obtain ⟨L, hLe⟩ : ∃ L, (t.removes ++ u.removes) = L := ⟨_, rfl⟩
      have hbz : w6.heap.size ≤ v2.heap.size := by have := hz.out; have := hbv.size; have := hwC.size; omega
      have HLe := Lib.hid hLe; have HLn := Lib.hid hln; have HbS := Lib.hid hbS; have HV2 := Lib.hid hbz; have HR := Lib.hid R7
      clear hln hbS hbz R6 R7 hLe
      go_wp2_with (at_builtin; refine wpList_app rfl _ _ _ rfl w6.heap.size elStr vr (t.removes ++ u.removes).length _ rfl (HR.out.alloc _) (.slice (some ⟨v2.heap.size, 0, none⟩) 1 1) 1 (encS x.path) rfl (src_one rfl rfl (by simp [Value.oneCell'])) (by have := HLn.out; unfold maxLen; omega) (by have := HLn.out; omega) (by have := HV2.out; simp; omega) ?_; intro v' w7 hown hg hn)
      obtain ⟨hF7, hb27⟩ := HF2.out.removed HbS.out hg hn (Own.snoc hown) hv2.out
      have HF7 := Lib.hid hF7
      have hb07 := hb02.trans hb27
      have HV7 : Hid (w6.heap.size ≤ w7.heap.size) := Lib.hid (Nat.le_trans HV2.out hb27.size)
      clear hown hg hn hF7 d0 d1 d2 d3 d4 d5 d6 d7
      go_wp2_with fail
      go_roundw
      case rel => exact ⟨k + 1, va, v', by omega, by go_num, rfl, rfl, Lib.hid (by rw [HSk.out.1, HSk.out.2, HL.out.1, HL.out.2]; exact HF7.out), HV7, hb07⟩
      case measure => simp [intOf]; omega
end Go.Proofs.YtmhchakjkgdpmaaGreatDoor
