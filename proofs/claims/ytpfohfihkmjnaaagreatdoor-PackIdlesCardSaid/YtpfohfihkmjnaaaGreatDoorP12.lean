/- slices.SortFunc at rows; row.Sort, row.Same. row.Read: the walk. slices.IndexFunc and DeleteFunc at []int, at whatever function value that answers by a plain predicate. slices.DeleteFunc at []int. slices.Clone and slices.Contains at []int, as the walks use them. slices.IndexFunc, Clone, DeleteFunc at []api.Row; row.Drop, row.Within. deedboxlaw1's helpers on rows: rowed, LongRows, OwnRows. data.keys, data.Make: the walks. slices.Values, AppendSeq, Collect, Sorted, Sort, Compact at []int; gone.Keys. -/
import Derived.Test.YtpfohfihkmjnaaaGreatDoorP9
import Derived.Test.YtpfohfihkmjnaaaGreatDoorP10
import Derived.Test.YtpfohfihkmjnaaaGreatDoorP11
import Derived.Shelf.SlSortCmp.NoneTotal
import Derived.Test.YtpfohfihkmjnaaaGreatDoorP2
import Derived.Test.YtpfohfihkmjnaaaGreatDoorP8
import Derived.Outline
import Derived.Test.YtpfohfihkmjnaaaGreatDoorP3
import Derived.Test.YtpfohfihkmjnaaaGreatDoorP6
import Derived.Lib.OwnBridge
namespace Go.Proofs.YtpfohfihkmjnaaaGreatDoor
open Go.RowKit Go.Sort Go.Lib Go.Shelf

theorem flatK_list {α : Type} [Inhabited α] {enc : α → List Value} {k : Nat} (hen : Enc enc k) (hk : 0 < k) (l : List α) : (flatK enc k l.toArray).toList = l.flatMap enc := by
  apply List.ext_getElem?
  intro i
  by_cases hi : i < l.length * k
  · have hd : i / k < l.length := Nat.div_lt_of_lt_mul (by rw [Nat.mul_comm]; exact hi)
    have hm : i % k < (enc l[i / k]).length := by rw [(hen _).1]; exact Nat.mod_lt _ hk
    have h1 := flat_get hen l (i / k) l[i / k] (by simp [hd]) (i % k) _ (List.getElem?_eq_getElem hm)
    rw [show i / k * k + i % k = i by have := Nat.div_add_mod i k; rw [Nat.mul_comm] at this; omega] at h1
    rw [h1]
    simp [flatK, hi, hd, hm]
  · rw [List.getElem?_eq_none (by simp; omega), List.getElem?_eq_none (by rw [flat_length hen]; omega)]
theorem heap_sortedK {w : World} {g n : Nat} {os : Array Obj} {cur : Array Value} {e : TypeId} {fr : Nat × Nat} (F : Array Value) (hb : w.heap[g]? = some (.cells cur e fr)) :
    (grow (putRow id (Sort.ahead w n) g 0 F) os).heap[g]? = some (.cells (putCells id 0 F cur) e fr) := by
  have hg : g < w.heap.size := (Array.getElem?_eq_some_iff.1 hb).1
  rw [heap_grow_old _ _ (by simpa using hg)]
  simp [putRow, mapBlock, Sort.ahead, Array.getElem?_modify, hb, onCells]
theorem grownBy_sortedK {w : World} {g n : Nat} {os : Array Obj} (F : Array Value) : w.grownBy (grow (putRow id (Sort.ahead w n) g 0 F) os) (some g) := by
  refine ⟨rfl, rfl, rfl, by simp, fun k hk hne => ?_⟩
  rw [heap_grow_old _ _ (by simpa using hk)]
  have : g ≠ k := fun e => hne (by rw [e])
  simp [putRow, mapBlock, Sort.ahead, Array.getElem?_modify, this]
theorem take_putK (cur : Array Value) (ts : List Value) (h : ts.length ≤ cur.size) : (putCells id 0 ts.toArray cur).toList.take ts.length = ts := by
  apply List.ext_getElem?
  intro j
  by_cases hj : j < ts.length
  · rw [List.getElem?_take_of_lt hj, Array.getElem?_toList]
    simp [putCells, hj, show j < cur.size by omega]
  · rw [List.getElem?_take_eq_none (by omega), List.getElem?_eq_none (by omega)]
/-- What the call owns, held as the sort wants it. -/
theorem Own.holdsK {α : Type} [Inhabited α] {enc : α → List Value} {e : TypeId} {k B : Nat} {w : World} {g n cap : Nat} {l : List α} (hen : Enc enc k) (hk : 0 < k) (h : Own enc e k B w (.slice (some ⟨g, 0, none⟩) n cap) l) : HoldsK enc k w g 0 l.toArray := by
  obtain ⟨cur, hB, hg, hl, hc, hm, hs, ht⟩ := h.row
  intro j hj
  have hj' : j < l.length * k := by simpa using hj
  refine ⟨?_, by simp [World.frozen?, hg]⟩
  have hf := flatK_list hen hk l
  rw [cell_of_row w g _ cur e (0, 0) hg, Nat.zero_add]
  have h1 : (cur.toList.take (n * k))[j]? = (flatK enc k l.toArray).toList[j]? := by rw [ht, hf]
  rw [List.getElem?_take_of_lt (by rw [← hl]; exact hj')] at h1
  have h2 : (flatK enc k l.toArray).toList[j]? = some (flatK enc k l.toArray)[j]! := by
    rw [Array.getElem?_toList, getElem!_pos _ j hj]; simp
  rw [← Array.getElem?_toList, h1, h2]; rfl
/-- Behind the sort the same slice owns what was sorted. -/
theorem Own.sorted {α : Type} [Inhabited α] {enc : α → List Value} {e : TypeId} {k B n' : Nat} {os : Array Obj} {w : World} {g n cap : Nat} {l m : List α} (hen : Enc enc k) (hk : 0 < k) (h : Own enc e k B w (.slice (some ⟨g, 0, none⟩) n cap) l) (hml : m.length = l.length) :
    Own enc e k B (sortWorldK enc k w g 0 n' m.toArray os) (.slice (some ⟨g, 0, none⟩) n cap) m := by
  obtain ⟨cur, hB, hg, hl, hc, hm, hs, ht⟩ := h.row
  have hf := flatK_list hen hk m
  have hF : flatK enc k m.toArray = (m.flatMap enc).toArray := by rw [← hf]
  unfold sortWorldK putRowK
  rw [hF]
  refine Own.put hen (by omega) hB (heap_sortedK _ hg) hc hm (by simp [putCells, hs]) ?_
  have hlen : (m.flatMap enc).length = n * k := by rw [flat_length hen, hml, hl]
  have := take_putK cur (m.flatMap enc) (by rw [hlen, hs]; exact Nat.mul_le_mul_right _ hc)
  rwa [hlen] at this
theorem swo_less : SWO (ltOf cmpR) where
  irrefl x := by unfold ltOf; rw [cmpR_less]; exact less_irrefl x
  trans x y z h1 h2 := by unfold ltOf at *; rw [cmpR_less] at *; exact less_trans h1 h2
  ntrans x y z h1 h2 := by unfold ltOf at *; rw [cmpR_less] at *; exact le_trans' h2 h1
theorem clo_compare : ∀ args w, (callFunc 107 args).run Tryz.prog w = .ok (.enter 107 args) w := enters_of Tryz.func107 (by kernel_rfl) rfl
theorem sortFuncR_any (B : Nat) (v : Value) (l : List Rw) (w : World) (ho : Own encR 106 3 B w v l) (hB : B ≤ w.heap.size) (hn : l.length ≤ 100000) :
    Calls Tryz.prog 147 #[v, .func (.func 107) #[] #[]] w fun e w' => e = .returned (.tuple #[]) ∧ Own encR 106 3 B w' v (sortR l) ∧ Below B w w' := by
  have hol := ho
  rcases ho.2 with ⟨rfl, h0⟩ | ⟨g, cap, cur, rfl, hbase, hb, h1, h2, h3, h4⟩
  · obtain rfl := List.eq_nil_of_length_eq_zero h0
    have h := AnyF.slices_SortFunc_none Tryz.sortR none 0 (.func (.func 107) #[] #[]) w
    refine (show Calls Tryz.prog 147 _ w _ from h).mono ?_
    rintro e w' ⟨rfl, rfl⟩
    exact ⟨rfl, ho, Below.refl _ _⟩
  · have h := AnyQ.slices_SortFunc Tryz.sortR 3 Tryz.isAgg106 Tryz.sizeOf106 encR (fun x => (encR_enc x).1) (fun x => (encR_enc x).2) cmpR swo_less 107 #[] g 0 cap l.toArray w clo_compare (fun _ _ _ _ x y => rowCompareG_any x y _) (hol.holdsK encR_enc (by decide)) (Array.getElem?_eq_some_iff.1 hb).1 (by simp; omega)
    refine (show Calls Tryz.prog 147 #[.slice (some ⟨g, 0, none⟩) l.toArray.size cap, .func (.func 107) #[] #[]] w _ from h).mono ?_
    rintro e w' ⟨rfl, d', n, os, hp, hs, rfl⟩
    have hsz : d'.size = l.length := by simpa using hp.1
    have hd : d'.toList = sortR l := by
      refine sort_of ?_ ?_
      · refine List.pairwise_iff_getElem.2 fun i j hi hj hij => ?_
        have := hs i j (Nat.zero_le _) hij (by simpa [hsz] using hj)
        unfold ltOf at this
        rw [cmpR_less] at this
        simpa [getElem!_pos, show i < d'.size by simpa using hi, show j < d'.size by simpa using hj] using this
      · have := hp.2.2
        simpa [hsz, Array.extract_eq_self_of_le] using this
    refine ⟨rfl, ?_, (Below.refl B w).grown (grownBy_sortedK _) hB (fun k hk => by cases hk; exact hbase)⟩
    have h5 := hol.sorted (n' := n) (os := os) encR_enc (by decide) (m := d'.toList) (by simpa using hsz)
    rw [hd] at h5
    rw [show d' = (sortR l).toArray by rw [← hd]]
    exact h5
theorem valuesR_any (a : Option Addr) (len cap : Nat) (w : World) :
    Calls Tryz.prog 106 #[.slice a len cap] w fun e w' => e = .returned (.func (.func 148) #[] #[.pointer (some ⟨w.heap.size, 0, none⟩)]) ∧ w' = w.alloc (.cells #[.slice a len cap] 44) :=
  callsIn_wide.1 (valuesR_in Fence.wide 6 trivial rfl a len cap w)
theorem collectR_any (Bs : Nat) (v : Value) (l : List Rw) (w0 w : World) (hBs : Bs < w.heap.size) (hc : w.cell? ⟨Bs, 0, none⟩ = some v) (hl : RowsAt w0 v l) (hb0 : Below w0.heap.size w0 w) (hn : l.length ≤ 100000) :
    Calls Tryz.prog 146 #[.func (.func 148) #[] #[.pointer (some ⟨Bs, 0, none⟩)]] w fun e w' => ∃ u, e = .returned u ∧ Own encR 106 3 w.heap.size w' u l ∧ Below w.heap.size w w' :=
  callsIn_wide.1 (collectR_in Fence.wide 6 trivial trivial rfl (by omega) 148 #[.pointer (some ⟨Bs, 0, none⟩)] trivial (enters_of Tryz.func148 (by kernel_rfl) rfl) l hn w.heap.size w (Nat.le_refl _)
    (valuesR_stops Fence.wide 4 trivial rfl (by omega) Bs w.heap.size v l w0 w hBs (Nat.le_refl _) hc hl hb0.size hb0))
theorem sortedFuncR_any (Bs : Nat) (v : Value) (l : List Rw) (w0 w : World) (hBs : Bs < w.heap.size) (hc : w.cell? ⟨Bs, 0, none⟩ = some v) (hl : RowsAt w0 v l) (hb0 : Below w0.heap.size w0 w) (hn : l.length ≤ 100000) :
    Calls Tryz.prog 105 #[.func (.func 148) #[] #[.pointer (some ⟨Bs, 0, none⟩)], .func (.func 107) #[] #[]] w fun e w' => ∃ u, e = .returned u ∧ Own encR 106 3 w.heap.size w' u (sortR l) ∧ Below w.heap.size w w' := by
  have HC := Lib.hid (collectR_any Bs v l w0 w hBs hc hl hb0 hn)
  clear hc
  go_enter Tryz.func105, Tryz.ntmps105
  go_wp2_with fail
  refine HC.out.mono ?_
  rintro e w1 ⟨u, rfl, hown, hb1⟩
  have HS := Lib.hid (sortFuncR_any w.heap.size u l w1 hown hb1.size hn)
  go_wp2_with fail
  refine HS.out.mono ?_
  rintro e w2 ⟨rfl, hown2, hb2⟩
  go_wp2_with fail
  go_ret
  exact ⟨_, rfl, hown2, hb1.trans hb2⟩
theorem rowSort_any (v : Value) (l : List Rw) (w : World) (hl : RowsAt w v l) (hn : l.length ≤ 100000) :
    Calls Tryz.prog 55 #[v] w fun e w' => ∃ u, e = .returned u ∧ Own encR 106 3 w.heap.size w' u (sortR l) ∧ Below w.heap.size w w' := by
  obtain ⟨a, c, rfl, -, -⟩ := hl.form'
  have hba : Below w.heap.size w (w.alloc (.cells #[.slice a l.length c] 44)) := (Below.refl _ _).alloc (Nat.le_refl _) _
  have c0 : (w.alloc (.cells #[.slice a l.length c] 44)).cell? ⟨w.heap.size, 0, none⟩ = some (.slice a l.length c) := by simp
  have HS := Lib.hid (sortedFuncR_any w.heap.size _ l w _ (by simp) c0 hl hba hn)
  clear c0
  go_enter Tryz.func55, Tryz.ntmps55
  go_wp2_with fail
  refine (valuesR_any a l.length c w).mono ?_
  rintro e w1 ⟨rfl, rfl⟩
  go_wp2_with fail
  refine HS.out.mono ?_
  rintro e w2 ⟨u, rfl, hown, hb2⟩
  go_wp2_with fail
  go_ret
  exact ⟨_, rfl, hown.base (by simp), hba.trans (hb2.mono hba.size)⟩
set_option maxRecDepth 20000 in
theorem equalR_any (v u : Value) (l m : List Rw) (w : World) (hl : RowsAt w v l) (hm : RowsAt w u m) :
    Calls Tryz.prog 60 #[v, u] w fun e w' => e = .returned (.bool (decide (l = m))) ∧ Below w.heap.size w w' := by
  obtain ⟨a, c, b, o, rfl, ha, hc, hcm, hx⟩ := hl
  obtain ⟨a', c', b', o', rfl, ha', hc', hcm', hx'⟩ := hm
  unfold maxLen at hcm hcm'
  by_cases hlen : l.length = m.length
  case neg =>
    have hne : ((l.length : Int) != (m.length : Int)) = true := by simp; omega
    go_enter Tryz.func60, Tryz.ntmps60
    go_wp2_with fail
    go_ret
    exact ⟨ret_bool (decide_eq_false fun e => hlen (by rw [e])).symm, Below.refl _ _⟩
  have hne : ((l.length : Int) != (m.length : Int)) = false := by simp [hlen]
  have Hl := Lib.hid hlen; clear hlen
  go_enter Tryz.func60, Tryz.ntmps60
  go_wp2_with fail
  go_loopw [13] (fun i wr => ∃ k : Nat, k ≤ l.length ∧ i = .int .i64 k ∧ Hid (∀ j < k, l[j]? = m[j]?) ∧ Below w.heap.size w wr) (fun i _ => l.length - (intOf i).toNat)
  case atStart => exact ⟨0, by omega, rfl, Lib.hid fun j hj => absurd hj (by omega), Below.refl _ _⟩
  case round =>
    obtain ⟨k, hk, rfl, hj, hb⟩ := hrel
    by_cases hlt : k < l.length
    case neg =>
      obtain rfl : k = l.length := by omega
      go_wp2_with fail
      go_ret
      exact ⟨ret_bool (decide_eq_true (list_ext_upto Hl.out hj.out)).symm, hb⟩
    obtain ⟨x, hxk⟩ := get_ex hlt
    obtain ⟨y, hyk⟩ := get_ex (l := m) (k := k) (by rw [← Hl.out]; exact hlt)
    obtain ⟨c0, c1, c2⟩ := rwCells hx hb hxk
    obtain ⟨d0, d1, d2⟩ := rwCells hx' hb hyk
    have i1 := idx_at (c := c) 3 Tryz.underlying44 szRw ha k hlt
    have i2 := idx_at (c := c') 3 Tryz.underlying44 szRw ha' k (by rw [← Hl.out]; exact hlt)
    have hk1 : (k : Int) < (l.length : Int) := by omega
    have hn := rw_neq x y
    have hgd := rw_guard
    have Hx := Lib.hid hxk; clear hxk
    have Hy := Lib.hid hyk; clear hyk
    go_wp2_with fail
    go_quiet (fail)
    by_cases he : x = y
    · rw [decide_eq_true he]
      have He := Lib.hid he; clear he
      go_wp2_with fail
      go_roundw
      case rel => exact ⟨k + 1, by omega, by go_num, (Lib.hid fun j hj' => by
        rcases Nat.lt_or_ge j k with h | h
        · exact hj.out j h
        · obtain rfl : j = k := by omega
          rw [Hx.out, Hy.out, He.out]), Bdn hb _⟩
      case measure => simp [intOf]; omega
    · rw [decide_eq_false he]
      have He := Lib.hid he; clear he
      go_wp2_with fail
      go_ret
      refine ⟨ret_bool (decide_eq_false fun e => He.out ?_).symm, Bdn hb _⟩
      have := Hx.out; rw [e, Hy.out] at this; exact (Option.some.inj this).symm
theorem rowSame_any (v u : Value) (l m : List Rw) (w : World) (hl : RowsAt w v l) (hm : RowsAt w u m) (hn : l.length ≤ 100000) (hn2 : m.length ≤ 100000) :
    Calls Tryz.prog 17 #[v, u] w fun e w' => e = .returned (.bool (decide (sortR l = sortR m))) ∧ Below w.heap.size w w' := by
  obtain ⟨a, c, rfl, -, -⟩ := hl.form'
  obtain ⟨a', c', rfl, -, -⟩ := hm.form'
  have H1 := Lib.hid (rowSort_any _ l w hl hn)
  have HM := Lib.hid hm
  clear hm hl
  go_enter Tryz.func17, Tryz.ntmps17
  go_wp2_with fail
  refine H1.out.mono ?_
  rintro e w1 ⟨v1, rfl, hown1, hb1⟩
  have H2 := Lib.hid (rowSort_any _ m w1 (HM.out.below hb1) hn2)
  go_wp2_with fail
  refine H2.out.mono ?_
  rintro e w2 ⟨v2, rfl, hown2, hb2⟩
  have H3 := Lib.hid (equalR_any v1 v2 (sortR l) (sortR m) w2 ((hown1.below hb2).at encR_enc) (hown2.at encR_enc))
  go_wp2_with fail
  refine H3.out.mono ?_
  rintro e w3 ⟨rfl, hb3⟩
  have hb12 := hb1.trans (hb2.mono hb1.size)
  go_wp2_with fail
  go_ret
  exact ⟨rfl, hb12.trans (hb3.mono hb12.size)⟩
end Go.Proofs.YtpfohfihkmjnaaaGreatDoor
namespace Go.Proofs.YtpfohfihkmjnaaaGreatDoor
open Go.RowKit

set_option maxHeartbeats 1000000 in
set_option maxRecDepth 20000 in
theorem rowRead_any (E : Nat → Addr) (B : Nat) (s : Str) (w : World) (hE : Errs [1, 2, 5] E B w) (hT : LNum B w) (hM : LMax B w) (hs : s.length ≤ 10000) :
    Calls Tryz.prog 141 #[S s] w fun e w' => ∃ ev, e = .returned (.tuple #[rowV (rowRead s).1, ev]) ∧ ErV E w' ev (erOf (rowRead s).2) ∧ Below w.heap.size w w' := by
  have hBw := hE.le
  have hif := isIfaceE
  have hwl : (cutAt 32 s).length ≤ 10001 := by
    have := cutAt_length 32 s
    have h2 : s.count 32 ≤ s.length := List.count_le_length
    omega
  have hws : ∀ p ∈ cutAt 32 s, p.length ≤ 10000 := fun p hp => by
    have := cutAt_mem_len (c := 32) hp; omega
  have V0 := fun w6 (h : Below w.heap.size w w6) => (hE.below' h hBw).var 1 (by decide)
  simp only [errG] at V0
  have V := Lib.hid V0
  clear V0
  have hba : Below w.heap.size w (w.alloc (.cells #[S [], .int .i64 0, .int .i64 0] 106)) := (Below.refl _ _).alloc (Nat.le_refl _) _
  have hsp := split1_any B s 32 (w.alloc (.cells #[S [], .int .i64 0, .int .i64 0] 106)) (hM.below' hba hBw) (by omega)
  have hcs := fun w6 (h : Below (w.alloc (.cells #[S [], .int .i64 0, .int .i64 0] 106)).heap.size (w.alloc (.cells #[S [], .int .i64 0, .int .i64 0] 106)) w6) => rowCells (r := zeroR) rfl h
  have CZ := Lib.hid hcs; clear hcs
  have hhg := fun w6 (h : Below (w.alloc (.cells #[S [], .int .i64 0, .int .i64 0] 106)).heap.size (w.alloc (.cells #[S [], .int .i64 0, .int .i64 0] 106)) w6) => (h.block w.heap.size (by simp)).trans (heap_alloc_new w (.cells #[S [], .int .i64 0, .int .i64 0] 106))
  have HG := Lib.hid hhg; clear hhg
  have hgE : (¬ (9 = w.heap.size)) ∧ ¬ (w.heap.size = 9) := by
    have h := (hE.lt 1 (by decide)).2
    have h1 : errG 1 = 9 := rfl
    rw [h1] at h
    omega
  by_cases h6 : (cutAt 32 s).length = 3
  case neg =>
    have HF := Lib.hid (rowRead_none (rowOf_len h6))
    have g6 : (((cutAt 32 s).length : Int) != 3) = true := by simp; omega
    clear hws
    go_enter Tryz.func141, Tryz.ntmps141
    go_wp2_with fail
    generalize w.alloc (.cells #[S [], .int .i64 0, .int .i64 0] 106) = w1 at *
    refine hsp.mono ?_
    rintro e w2 ⟨rfl, hown, hb2⟩
    have hb2' := hba.trans (hb2.mono hba.size)
    have v1 := V.out _ hb2'
    obtain ⟨c0, c1, c2⟩ := CZ.out _ hb2
    generalize cutAt 32 s = W at *
    go_wp2_with fail
    have hg2 := HG.out _ hb2
    have fz : ∀ j, w2.frozen? ⟨w.heap.size, j, none⟩ = false := fun j => frozen_row hg2
    have f0 := fz 0; have f1 := fz 1; have f2 := fz 2
    have hn1 : ¬ (9 = w.heap.size) := hgE.1
    have hn2 : ¬ (w.heap.size = 9) := hgE.2
    go_region_law (fail)
    all_goals
      go_wp2_with fail
      refine bodyPost_ret (ret_row rfl _ _ w.heap.size 106 #[.string ⟨#[]⟩, .int .i64 0, .int .i64 0] (0, 0) _ rfl ?_ Tryz.underlying106 rfl (by kernel_rfl)) rfl ⟨.iface 320 (.pointer (some (E 1))), ?_, ?_, ?_⟩
      · rw [World.heap_drew]; exact thr_new hg2 _ _ _
      · rw [HF.out]; rfl
      · rw [HF.out]; exact ⟨by decide, rfl⟩
      · exact Below.drew (thr_below hb2' (Nat.le_refl _) _ _ _)
  obtain ⟨p, n1, n2, hW⟩ := three_strs h6
  rw [hW] at hsp hws
  have hfo : rowOf (cutAt 32 s) = match numsOf [n1, n2] with | some [n, lo] => some ⟨p, n, lo⟩ | _ => none := by rw [hW]; rfl
  have HFO := Lib.hid hfo; have HWS := Lib.hid hws
  clear hfo hws hW h6 hwl
  go_enter Tryz.func141, Tryz.ntmps141
  go_wp2_with fail
  generalize w.alloc (.cells #[S [], .int .i64 0, .int .i64 0] 106) = w1 at *
  refine hsp.mono ?_
  rintro e w2 ⟨rfl, hown, hb2⟩
  have hb2' := hba.trans (hb2.mono hba.size)
  have v1 := V.out _ hb2'
  obtain ⟨a', c', b', o', hv', ha', hc', hcm', hx'⟩ := hown.at encS_enc
  obtain ⟨rfl, rfl⟩ : a' = some ⟨w1.heap.size, 0, none⟩ ∧ c' = 3 := by cases hv'; exact ⟨rfl, rfl⟩
  obtain ⟨rfl, rfl⟩ : b' = w1.heap.size ∧ o' = 0 := by have := ha' (by simp); cases this; exact ⟨rfl, rfl⟩
  obtain ⟨b3, o3, c3, hrun, hat3⟩ := slice_from (enc := encS) (sz := 1) Tryz.underlying39 szStr ha' hc' hcm' hx' 1 (by simp) (by simp)
  have x0 := hx' 0 _ rfl 0 _ rfl
  simp only [List.length_cons, List.length_nil, Nat.zero_add, Nat.reduceAdd, Nat.reduceSub, Nat.mul_one, Nat.add_zero, List.drop_succ_cons, List.drop_zero] at hrun hat3 x0
  have e2 : ((1 : Nat) : Int) = 1 := rfl
  rw [e2] at hrun
  clear hv' ha' hx' hown hcm' hc' e2 hsp
  have hl6 : [p, n1, n2].length = 3 := rfl
  rw [hl6]
  go_wp2_with fail
  refine (numbers_any B _ [n1, n2] _ (hT.below' hb2' hBw) hat3 (by simp) (fun x hx => by have := HWS.out x (by simp at hx ⊢; rcases hx with h | h <;> simp [h]); omega)).mono ?_
  rintro e w3 ⟨v', rfl, hv1, hv2, hb3⟩
  have hb31 := hb2.trans (hb3.mono hb2.size)
  have hb3' := hb2'.trans (hb3.mono hb2'.size)
  have v1' := V.out _ hb3'
  have y0 := (hb3.cell (World.block_lt_of_cell? w2 _ x0)).trans x0
  clear v1 hrun hat3 x0
  cases hn : numsOf [n1, n2] with
  | none =>
    rw [hn] at hv2
    obtain rfl := hv2 rfl
    have HF := Lib.hid (rowRead_none (s := s) (by rw [HFO.out, hn]))
    clear hn hv1
    simp only [Option.isSome_none]
    obtain ⟨c0, c1, c2⟩ := CZ.out _ hb31
    have hg2 := HG.out _ hb31
    have fz : ∀ j, w3.frozen? ⟨w.heap.size, j, none⟩ = false := fun j => frozen_row hg2
    have f0 := fz 0; have f1 := fz 1; have f2 := fz 2
    have hn1 : ¬ (9 = w.heap.size) := hgE.1
    have hn2 : ¬ (w.heap.size = 9) := hgE.2
    go_wp2_with fail
    go_region_law (fail)
    all_goals
      go_wp2_with fail
      refine bodyPost_ret (ret_row rfl _ _ w.heap.size 106 #[.string ⟨#[]⟩, .int .i64 0, .int .i64 0] (0, 0) _ rfl ?_ Tryz.underlying106 rfl (by kernel_rfl)) rfl ⟨.iface 320 (.pointer (some (E 1))), ?_, ?_, ?_⟩
      · rw [World.heap_drew]; exact thr_new hg2 _ _ _
      · rw [HF.out]; rfl
      · rw [HF.out]; exact ⟨by decide, rfl⟩
      · exact Below.drew (thr_below hb3' (Nat.le_refl _) _ _ _)
  | some ns =>
    have hown := hv1 ns hn
    have hnl := mapM_len _ hn
    obtain ⟨m1, m2, rfl⟩ := two_ints (l := ns) (by simpa using hnl)
    have HF := Lib.hid (rowRead_some (s := s) (r := ⟨p, m1, m2⟩) (by rw [HFO.out, hn]))
    clear hn hv1 hv2 hnl
    simp only [Option.isSome_some]
    obtain ⟨a4, c4, b4, o4, hv4, ha4, hc4, hcm4, hx4⟩ := hown.at encI_enc
    subst hv4
    obtain rfl := ha4 (by simp)
    have z0 := hx4 0 _ rfl 0 _ rfl
    have z1 := hx4 1 _ rfl 0 _ rfl
    simp only [Nat.mul_one, Nat.add_zero] at z0 z1
    have hl4 : [m1, m2].length = 2 := rfl
    rw [hl4]
    clear hx4 hown ha4 hc4 hcm4 hl4
    have hks := fun w6 (h : Below w3.heap.size w3 w6) => (⟨(h.cell (World.block_lt_of_cell? w3 _ y0)).trans y0, (h.cell (World.block_lt_of_cell? w3 _ z0)).trans z0, (h.cell (World.block_lt_of_cell? w3 _ z1)).trans z1⟩ : _ ∧ _ ∧ _)
    have KS := Lib.hid hks; clear hks
    go_wp2_with fail
    go_region_held3 (fun w' => w'.cell? ⟨w1.heap.size, 0, none⟩ = some (S p) ∧ w'.cell? ⟨b4, o4, none⟩ = some (.int .i64 m1) ∧ w'.cell? ⟨b4, o4 + 1, none⟩ = some (.int .i64 m2)) (first | exact ⟨y0, z0, z1⟩ | exact KS.out _ (((Below.refl _ _).alloc (Nat.le_refl _) _).drew) | exact KS.out _ ((Below.refl _ _).drew.alloc (Nat.le_refl _) _)) (fail)
    have hb4 : Below w3.heap.size w3 (w3.alloc (.cells #[S p, .int .i64 m1, .int .i64 m2] 106)).drew := ((Below.refl _ _).alloc (Nat.le_refl _) _).drew
    have CF := Lib.hid (fun w6 (h : Below (w3.alloc (.cells #[S p, .int .i64 m1, .int .i64 m2] 106)).heap.size (w3.alloc (.cells #[S p, .int .i64 m1, .int .i64 m2] 106)).drew w6) => rowCells (r := ⟨p, m1, m2⟩) rfl (((Below.refl _ _).drew).trans h))
    have hsz : (w3.alloc (.cells #[S p, .int .i64 m1, .int .i64 m2] 106)).heap.size = (w3.alloc (.cells #[S p, .int .i64 m1, .int .i64 m2] 106)).drew.heap.size := rfl
    rw [hsz] at CF
    generalize (w3.alloc (.cells #[S p, .int .i64 m1, .int .i64 m2] 106)).drew = w4 at *
    have hb4' := hb3'.trans (hb4.mono hb3'.size)
    have hb41 := hb31.trans (hb4.mono hb31.size)
    obtain ⟨c0, c1, c2⟩ := CF.out w4 (Below.refl _ _)
    clear y0 z0 z1 v1' hsz
    go_wp2_with fail
    refine (rowCheck_any E B ⟨p, m1, m2⟩ _ ((hE.sub (by decide)).below' hb4' hBw) (by have := HWS.out p (by simp); show p.length ≤ _; omega)).mono ?_
    rintro e w5 ⟨ev, rfl, hev, hb5⟩
    have hb5' := hb4'.trans (hb5.mono hb4'.size)
    have hb51 := hb41.trans (hb5.mono hb41.size)
    have hg2 := HG.out _ hb51
    have fz : ∀ j, w5.frozen? ⟨w.heap.size, j, none⟩ = false := fun j => frozen_row hg2
    have f0 := fz 0; have f1 := fz 1; have f2 := fz 2
    obtain ⟨d0, d1, d2⟩ := CZ.out _ hb51
    clear c0 c1 c2
    obtain ⟨c0, c1, c2⟩ := CF.out w5 hb5
    by_cases hck : rowCheck ⟨p, m1, m2⟩ = 0
    case neg =>
      rw [rowEr_bad hck] at hev
      obtain ⟨hcr, rfl⟩ := hev
      have HR : Hid (rowRead s = (zeroR, rowCheck ⟨p, m1, m2⟩)) := Lib.hid (by rw [HF.out, if_neg hck])
      have HER : Hid (erOf (rowCheck ⟨p, m1, m2⟩) = .bare (rowCheck ⟨p, m1, m2⟩)) := Lib.hid (if_neg hck)
      clear hck
      generalize rowCheck ⟨p, m1, m2⟩ = ce at *
      go_wp2_with fail
      refine bodyPost_ret (ret_row rfl _ _ w.heap.size 106 #[.string ⟨#[]⟩, .int .i64 0, .int .i64 0] (0, 0) _ rfl (thr_new hg2 _ _ _) Tryz.underlying106 rfl (by kernel_rfl)) rfl ⟨.iface 320 (.pointer (some (E ce))), ?_, ?_, ?_⟩
      · rw [HR.out]; rfl
      · rw [HR.out]; show ErV E _ _ (erOf ce); rw [HER.out]; exact ⟨hcr, rfl⟩
      · exact thr_below hb5' (Nat.le_refl _) _ _ _
    rw [rowEr_nil hck] at hev
    obtain rfl : ev = .nilIface := hev
    have HR : Hid (rowRead s = (⟨p, m1, m2⟩, 0)) := Lib.hid (by rw [HF.out, if_pos hck])
    clear hck
    go_wp2_with fail
    refine bodyPost_ret (ret_row rfl _ _ w.heap.size 106 #[S p, .int .i64 m1, .int .i64 m2] (0, 0) _ rfl (thr_new hg2 _ _ _) Tryz.underlying106 rfl (by kernel_rfl)) rfl ⟨.nilIface, ?_, ?_, ?_⟩
    · rw [HR.out]; rfl
    · rw [HR.out]; rfl
    · exact thr_below hb5' (Nat.le_refl _) _ _ _
end Go.Proofs.YtpfohfihkmjnaaaGreatDoor
namespace Go.Proofs.YtpfohfihkmjnaaaGreatDoor
open Go.RowKit

end Go.Proofs.YtpfohfihkmjnaaaGreatDoor
namespace Go.Proofs.YtpfohfihkmjnaaaGreatDoor
open Go.RowKit

theorem own_cell1 {α : Type} {val : α → Value} {e : TypeId} {B : Nat} {w : World} {g n cap : Nat} {l : List α} (hen : Enc (fun x => [val x]) 1) (h : Own (fun x => [val x]) e 1 B w (.slice (some ⟨g, 0, none⟩) n cap) l) {k : Nat} {x : α} (hk : l[k]? = some x) :
    w.cell? ⟨g, k, none⟩ = some (val x) ∧ w.frozen? ⟨g, k, none⟩ = false ∧ B ≤ g := by
  have hlt : k < l.length := by
    rcases Nat.lt_or_ge k l.length with h' | h'
    · exact h'
    · rw [List.getElem?_eq_none h'] at hk; cases hk
  obtain ⟨g', cap', cur, hv, hB, hg, hc, hm, hs, ht⟩ := h.open (by omega)
  cases hv
  refine ⟨?_, frozen_row hg, hB⟩
  have := flat_get hen l k x hk 0 (val x) rfl
  rw [← ht] at this
  rw [cell_of_row w g k cur e (0, 0) hg]
  simp only [Nat.mul_one, Nat.add_zero] at this
  rw [List.getElem?_take, if_pos hlt] at this
  simpa using this

end Go.Proofs.YtpfohfihkmjnaaaGreatDoor
namespace Go.Proofs.YtpfohfihkmjnaaaGreatDoor
open Go.RowKit


end Go.Proofs.YtpfohfihkmjnaaaGreatDoor
namespace Go.Proofs.YtpfohfihkmjnaaaGreatDoor
open Go.RowKit

theorem indexFuncR_any (f : FuncId) (caps : Array Value) (p : Rw → Bool) (base : Nat) (w0 : World) (v : Value) (l : List Rw) (w : World) (hf : Clo Tryz.prog f) (hp : PredOn Tryz.prog f caps rowV l p base w0)
    (hl : RowsAt w v l) (hw : Below base w0 w) (hB : base ≤ w.heap.size) :
    Calls Tryz.prog 101 #[v, .func (.func f) #[] caps] w fun e w' => e = .returned (.int .i64 (idxVal p l)) ∧ Below w.heap.size w w' := by
  obtain ⟨a, c, b, o, rfl, ha, hc, hcm, hx⟩ := hl
  unfold maxLen at hcm
  have hf' := hf
  unfold Clo at hf'
  go_enter Tryz.func101, Tryz.ntmps101
  go_wp2_with fail
  go_loopw [8] (fun i wr => ∃ k : Nat, k ≤ l.length ∧ i = .int .i64 k ∧ Hid (∀ j y, j < k → l[j]? = some y → p y = false) ∧ Below w.heap.size w wr) (fun i _ => l.length - (intOf i).toNat)
  case atStart => exact ⟨0, by omega, rfl, Lib.hid fun j y hj => absurd hj (by omega), Below.refl _ _⟩
  case round =>
    obtain ⟨k, hk, rfl, hj, hb⟩ := hrel
    by_cases hlt : k < l.length
    · obtain ⟨x, hxk⟩ := get_ex hlt
      obtain ⟨c0, c1, c2⟩ := rwCells hx hb hxk
      have i1 := idx_at (c := c) 3 Tryz.underlying44 szRw ha k hlt
      have hk1 : (k : Int) < (l.length : Int) := by omega
      have hpx := hp wr x (List.mem_of_getElem? hxk) (hw.trans (hb.mono hB)) (Nat.le_trans hB hb.size)
      have Hp := Lib.hid hpx; clear hpx
      have Hx := Lib.hid hxk; clear hxk
      go_wp2_with fail
      refine Hp.out.mono ?_
      rintro e w1 ⟨rfl, hb1⟩
      have hb2 := hb.trans (hb1.mono hb.size)
      cases hpv : p x with
      | true =>
        have Hpv := Lib.hid hpv; clear hpv
        go_wp2_with fail
        go_ret
        refine ⟨?_, hb2⟩
        rw [idxVal_some Hx.out Hpv.out hj.out]; rfl
      | false =>
        have Hpv := Lib.hid hpv; clear hpv
        go_wp2_with fail
        go_roundw
        case rel => exact ⟨k + 1, by omega, by go_num, (Lib.hid fun j y hj' hy => by
          rcases Nat.lt_or_ge j k with h | h
          · exact hj.out j y h hy
          · obtain rfl : j = k := by omega
            rw [Hx.out] at hy
            obtain rfl := Option.some.inj hy
            exact Hpv.out), hb2⟩
        case measure => simp [intOf]; omega
    · obtain rfl : k = l.length := by omega
      go_wp2_with fail
      go_ret
      refine ⟨?_, hb⟩
      rw [idxVal_none fun j x hj' => hj.out j x (by
        rcases Nat.lt_or_ge j l.length with h | h
        · exact h
        · rw [List.getElem?_eq_none h] at hj'; cases hj') hj']
      rfl
set_option maxRecDepth 20000 in
theorem cloneR_any (v : Value) (l : List Rw) (w : World) (hl : RowsAt w v l) (hn : l.length ≤ 100000) :
    Calls Tryz.prog 102 #[v] w fun e w' => ∃ v', e = .returned v' ∧ Own encR 106 3 w.heap.size w' v' l ∧ Below w.heap.size w w' := by
  obtain ⟨a, c, rfl, hnil, hcm⟩ := hl.form'
  have hq := fun w' => Lib.run_eql_slice_nil (P := Tryz.prog) w' 44 106 a l.length c 0 0 Tryz.underlying44
  cases a with
  | none =>
    obtain rfl := hnil rfl
    simp only [Option.isNone_none, List.length_nil] at hq
    go_enter Tryz.func102, Tryz.ntmps102
    go_wp2_with fail
    go_ret
    exact ⟨_, rfl, Own.nil _ _ _ _ _, Below.refl _ _⟩
  | some ad =>
    simp only [Option.isNone_some] at hq
    have hba : Below w.heap.size w (w.alloc (.cells #[] 106)) := (Below.refl _ _).alloc (Nat.le_refl _) _
    have hs := (hl.below hba).src encR_enc (by decide)
    have ho : Own encR 106 3 w.heap.size (w.alloc (.cells #[] 106)) (.slice (some ⟨w.heap.size, 0, none⟩) 0 0) [] := own_empty encR _ 3 _ _ _ (Nat.le_refl _) (heap_alloc_new w _)
    go_enter Tryz.func102, Tryz.ntmps102
    go_wp2_with (at_builtin; refine wpList_app rfl _ _ _ rfl w.heap.size elRw (.slice (some ⟨w.heap.size, 0, none⟩) 0 0) 0 [] rfl ho _ _ _ rfl hs (by unfold maxLen; omega) (by omega) (by simp) ?_; intro v' w1 hown hg _)
    go_ret
    exact ⟨_, rfl, by simpa [Own] using hown, hba.grown hg (by simp) (fun k hk => by cases hk; exact Nat.le_refl _)⟩
theorem rwZero : (Tryz.prog.info? 106).bind (·.zero) = some (.agg #[.string ByteArray.empty, .int .i64 0, .int .i64 0]) := by kernel_rfl
theorem rwZero1 : ∀ z, (Tryz.prog.info? 106).bind (·.zero) = some z → ∀ u ∈ z.cells.toList, u.oneCell' = true := by
  intro z hz u hu
  rw [rwZero] at hz
  cases hz
  simp [Value.cells] at hu
  rcases hu with rfl | rfl <;> rfl
/-- An element of three cells written anew, cell by cell. -/
theorem Own.set3 {e : TypeId} {B : Nat} {w : World} {g n cap i : Nat} {l : List Rw} (h : Own encR e 3 B w (.slice (some ⟨g, 0, none⟩) n cap) l) (hi : i < l.length) (x : Rw) :
    Own encR e 3 B (thr w g (i * 3) (S x.part) (.int .i64 x.key) (.int .i64 x.val)) (.slice (some ⟨g, 0, none⟩) n cap) (l.set i x) := by
  obtain ⟨cur, hB, hg, hl, hc, hm, hs, ht⟩ := h.row
  have hsplit : l = l.take i ++ l[i] :: l.drop (i + 1) := by rw [← List.drop_eq_getElem_cons hi, List.take_append_drop]
  have hset : l.set i x = l.take i ++ x :: l.drop (i + 1) := List.set_eq_take_append_cons_drop.trans (if_pos hi)
  have hA : ((l.take i).flatMap encR).length = i * 3 := by rw [flat_length encR_enc, List.length_take, Nat.min_eq_left (by omega)]
  have hC : ((l.drop (i + 1)).flatMap encR).length = (n - (i + 1)) * 3 := by rw [flat_length encR_enc, List.length_drop, hl]
  have hle : n * 3 ≤ cap * 3 := Nat.mul_le_mul_right _ hc
  have hf : l.flatMap encR = (l.take i).flatMap encR ++ (encR l[i] ++ (l.drop (i + 1)).flatMap encR) := by
    have : l.flatMap encR = (l.take i ++ l[i] :: l.drop (i + 1)).flatMap encR := by rw [← hsplit]
    rw [this]; simp only [List.flatMap_append, List.flatMap_cons]
  have hcur : cur.toList = (l.take i).flatMap encR ++ (encR l[i] ++ ((l.drop (i + 1)).flatMap encR ++ cur.toList.drop (n * 3))) := by
    have h1 : cur.toList = cur.toList.take (n * 3) ++ cur.toList.drop (n * 3) := (List.take_append_drop _ _).symm
    rw [ht, hf] at h1
    simpa using h1
  generalize cur.toList.drop (n * 3) = R at hcur
  refine Own.put encR_enc (by rw [List.length_set]; exact hl) hB (thr_row hg (S x.part) (.int .i64 x.key) (.int .i64 x.val)) hc hm (by simpa using hs) ?_
  simp only [Array.toList_setIfInBounds]
  rw [hcur, hset]
  have s0 : ((l.take i).flatMap encR ++ (encR l[i] ++ ((l.drop (i + 1)).flatMap encR ++ R))).set (i * 3) (S x.part) = (l.take i).flatMap encR ++ (encR l[i] ++ ((l.drop (i + 1)).flatMap encR ++ R)).set 0 (S x.part) := set_app hA 0 (S x.part)
  rw [s0, set_app hA, set_app hA]
  simp only [List.cons_append, List.nil_append, List.set_cons_zero, List.set_cons_succ, List.flatMap_append, List.flatMap_cons]
  have e : ∀ (A C R : List Value) (a b c : Value), A ++ a :: b :: c :: (C ++ R) = (A ++ [a, b, c] ++ C) ++ R := fun A C R a b c => by simp
  rw [e, List.take_left' (by rw [List.length_append, List.length_append, hA, hC]; simp; omega)]
  simp
theorem sizeRw : (Tryz.prog.info? 106).map (·.size) = some 3 := by kernel_rfl
set_option maxHeartbeats 1000000 in
set_option maxRecDepth 20000 in
theorem deleteFuncR_any (f : FuncId) (caps : Array Value) (p : Rw → Bool) (base : Nat) (w0 : World) (v : Value) (l : List Rw) (w : World) (hf : Clo Tryz.prog f) (hp : PredOn Tryz.prog f caps rowV l p base w0)
    (hl : Own encR 106 3 base w v l) (hw : Below base w0 w) (hB : base ≤ w.heap.size) :
    Calls Tryz.prog 49 #[v, .func (.func f) #[] caps] w fun e w' => ∃ v', e = .returned v' ∧ Own encR 106 3 base w' v' (l.filter fun x => !p x) ∧ Below base w w' := by
  have hif := indexFuncR_any f caps p base w0 v l w hf hp (hl.at encR_enc) hw hB
  have Hif := Lib.hid hif; clear hif
  have Hf := Lib.hid hf; clear hf
  have Hp := Lib.hid hp; clear hp
  by_cases hall : ∀ (j : Nat) (x : Rw), l[j]? = some x → p x = false
  · have e1 : idxVal p l = -1 := idxVal_none hall
    have e2 : l.filter (fun x => !p x) = l := List.filter_eq_self.2 fun x hx => by
      obtain ⟨j, hj, he⟩ := List.getElem_of_mem hx
      simp [hall j x (by simp [hj, he])]
    have H1 := Lib.hid e1; have H2 := Lib.hid e2; clear e1 e2 hall
    go_enter Tryz.func49, Tryz.ntmps49
    go_wp2_with fail
    refine Hif.out.mono ?_
    rintro e w1 ⟨rfl, hb⟩
    rw [H1.out]
    go_wp2_with fail
    go_ret
    exact ⟨v, rfl, by rw [H2.out]; exact hl.below hb, hb.mono hB⟩
  · obtain ⟨k, x, hk, hpx, hlow⟩ : ∃ (k : Nat) (x : Rw), l[k]? = some x ∧ p x = true ∧ ∀ (j : Nat) (y : Rw), j < k → l[j]? = some y → p y = false := by
      cases hfi : l.findIdx? p with
      | none =>
        exfalso; refine hall fun j x hj => ?_
        exact List.findIdx?_eq_none_iff.1 hfi x (List.mem_of_getElem? hj)
      | some k =>
        obtain ⟨h1, h2, h3⟩ := List.findIdx?_eq_some_iff_getElem.1 hfi
        refine ⟨k, l[k], by simp, h2, fun j y hj hy => ?_⟩
        have h4 : j < l.length := by omega
        have := h3 j hj
        have hy' : l[j] = y := by rw [List.getElem?_eq_getElem h4] at hy; exact Option.some.inj hy
        rw [hy'] at this; simpa using this
    have hlt : k < l.length := by
      rcases Nat.lt_or_ge k l.length with h' | h'
      · exact h'
      · rw [List.getElem?_eq_none h'] at hk; cases hk
    have e1 : idxVal p l = k := idxVal_some hk hpx hlow
    have hst := DelRel.start hk hpx hlow
    obtain ⟨g, cap, cur, rfl, hBg, _, hcap, hm, _, _⟩ := hl.open (by omega)
    unfold maxLen at hm
    have hne : ((k : Int) == -1) = false := beq_eq_false_iff_ne.2 (by omega)
    have H1 := Lib.hid e1; have Hst := Lib.hid hst; clear e1 hst hall hlow hk
    go_enter Tryz.func49, Tryz.ntmps49
    go_wp2_with fail
    refine Hif.out.mono ?_
    rintro e w1 ⟨rfl, hb⟩
    rw [H1.out]
    have ho1 := hl.below hb
    have hb1 : Below base w w1 := hb.mono hB
    clear hl hb
    go_wp2_with fail
    go_loopw [5, 6] (fun s5 s6 wr => ∃ (i j : Nat) (ys : List Rw), s5 = .int .i64 i ∧ s6 = .int .i64 j ∧ Hid (DelRel p l i j ys) ∧ Own encR 106 3 base wr (.slice (some ⟨g, 0, none⟩) l.length cap) ys ∧ Below base w wr) (fun _ s6 _ => l.length - (intOf s6).toNat)
    case atStart => exact ⟨k, k + 1, l, rfl, by go_num, Hst.out, ho1, hb1⟩
    case round =>
      obtain ⟨i, j, ys, rfl, rfl, hd, ho, hbr⟩ := hrel
      have hij := hd.out.1
      have hjn := hd.out.2.1
      have hysl := hd.out.2.2.1
      have Hysl := Lib.hid hysl; clear hysl
      by_cases hlt' : j < l.length
      · obtain ⟨x', hxj⟩ := get_ex hlt'
        have hyj := hd.out.next hxj
        obtain ⟨_, _, b', o', hv', hga, _, _, hx'⟩ := ho.at encR_enc
        simp only [Value.slice.injEq] at hv'
        have hga' := hv'.1.trans (hga (by rw [Hysl.out]; omega))
        simp only [Option.some.injEq, Addr.mk.injEq, and_true] at hga'
        obtain ⟨rfl, rfl⟩ := hga'
        clear hv' hga
        obtain ⟨c0, c1, c2⟩ := rwCells hx' (Below.refl _ _) hyj
        have hk1 : (j : Int) < (l.length : Int) := by omega
        have hba : Below base w (wr.alloc (.cells #[S x'.part, .int .i64 x'.key, .int .i64 x'.val] 106)) := hbr.alloc (Nat.le_trans hB hbr.size) _
        have hoa := ho.alloc (.cells #[S x'.part, .int .i64 x'.key, .int .i64 x'.val] 106)
        have CB := Lib.hid (fun w6 (h : Below (wr.alloc (.cells #[S x'.part, .int .i64 x'.key, .int .i64 x'.val] 106)).heap.size (wr.alloc (.cells #[S x'.part, .int .i64 x'.key, .int .i64 x'.val] 106)) w6) => rowCells (r := x') rfl h)
        have hpc := Hp.out (wr.alloc (.cells #[S x'.part, .int .i64 x'.key, .int .i64 x'.val] 106)) x' (List.mem_of_getElem? hxj) (hw.trans hba) (Nat.le_trans hB hba.size)
        have Hpc := Lib.hid hpc; clear hpc hyj
        have Hxj := Lib.hid hxj; clear hxj
        have hf' := Hf.out
        unfold Clo at hf'
        simp only [Nat.zero_add] at c0 c1 c2
        go_wp2_with fail
        generalize wr.alloc (.cells #[S x'.part, .int .i64 x'.key, .int .i64 x'.val] 106) = wb at *
        refine Hpc.out.mono ?_
        rintro e w2 ⟨rfl, hb2⟩
        have ho2 := hoa.below hb2
        have hbr2 : Below base w w2 := hba.trans (hb2.mono (Nat.le_trans hB hba.size))
        clear c0 c1 c2
        obtain ⟨c0, c1, c2⟩ := CB.out w2 hb2
        cases hpv : p x' with
        | true =>
          have hd2 := hd.out.skip Hxj.out hpv
          have Hd2 := Lib.hid hd2; clear hd2 hpv
          go_wp2_with fail
          go_roundw
          case rel => exact ⟨i, j + 1, ys, rfl, by go_num, Hd2.out, ho2, hbr2⟩
          case measure => simp [intOf]; omega
        | false =>
          have hd2 := hd.out.keep Hxj.out hpv
          have Hd2 := Lib.hid hd2; clear hd2 hpv
          obtain ⟨y', hyi⟩ := get_ex (l := ys) (k := i) (by rw [Hysl.out]; omega)
          obtain ⟨cur2, _, hg2, _, _, _, _, _⟩ := ho2.row
          have fz : ∀ j, w2.frozen? ⟨g, j, none⟩ = false := fun j => frozen_row hg2
          obtain ⟨a', c', b', o', hv', hga, _, _, hx'⟩ := ho2.at encR_enc
          simp only [Value.slice.injEq] at hv'
          have hga' := hv'.1.trans (hga (by rw [Hysl.out]; omega))
          simp only [Option.some.injEq, Addr.mk.injEq, and_true] at hga'
          obtain ⟨rfl, rfl⟩ := hga'
          clear hv' hga
          obtain ⟨d0, d1, d2⟩ := rwCells hx' (Below.refl _ _) hyi
          simp only [Nat.zero_add] at d0 d1 d2
          have f0 := fz (i * 3); have f1 := fz (i * 3 + 1); have f2 := fz (i * 3 + 2)
          have ho3 := Own.set3 ho2 (i := i) (by rw [Hysl.out]; omega) x'
          have hk2 : (i : Int) < (l.length : Int) := by omega
          have Ho3 := Lib.hid ho3; clear ho3 hx' hyi hg2 fz
          go_wp2_with fail
          go_roundw
          case rel => exact ⟨i + 1, j + 1, ys.set i x', by go_num, by go_num, Hd2.out, Ho3.out, thr_below hbr2 hBg _ _ _⟩
          case measure => simp [intOf]; omega
      · obtain rfl : j = l.length := by omega
        have hfin := hd.out.done
        have Hfin := Lib.hid hfin; clear hfin
        obtain ⟨cs, hrun, ho2⟩ := run_clear_own (c := cap - i) elRw encR_enc rwZero1 ho (k := i) (by rw [Hysl.out]; omega)
        have hci : ¬ cap = i := by omega
        have hcap2 : (i : Int) ≤ (cap : Int) := by omega
        have hil : (i : Int) ≤ (l.length : Int) := by omega
        have Ho2 := Lib.hid ho2; clear ho2
        go_wp2_with fail
        go_ret
        refine ⟨.slice (some ⟨g, 0, none⟩) i cap, rfl, ?_, Bset hbr hBg _⟩
        have := Ho2.out
        rwa [Hfin.out] at this
theorem within1_any (x : Rw) (a1 a2 : Addr) (lo hi : Int) (w : World) (h1 : w.cell? a1 = some (.int .i64 lo)) (h2 : w.cell? a2 = some (.int .i64 hi)) :
    Calls Tryz.prog 103 #[rowV x, .pointer (some a1), .pointer (some a2)] w fun e w' => e = .returned (.bool (withinP lo hi x)) ∧ Below w.heap.size w w' := by
  have hb : Below w.heap.size w (w.alloc (rowO x)) := (Below.refl _ _).alloc (Nat.le_refl _) _
  have h1' : (w.alloc (rowO x)).cell? a1 = some (.int .i64 lo) := (hb.cell (World.block_lt_of_cell? w _ h1)).trans h1
  have h2' : (w.alloc (rowO x)).cell? a2 = some (.int .i64 hi) := (hb.cell (World.block_lt_of_cell? w _ h2)).trans h2
  unfold withinP
  by_cases g1 : x.key < lo
  · rw [decide_eq_true g1, Bool.true_or]
    go_enter Tryz.func103, Tryz.ntmps103
    go_wp2_with fail
    go_ret
    exact ⟨rfl, hb⟩
  · have g2 : decide (x.key < lo) = false := by simpa using g1
    rw [g2, Bool.false_or]
    clear g1
    go_enter Tryz.func103, Tryz.ntmps103
    go_wp2_with fail
    go_ret
    exact ⟨rfl, hb⟩
theorem clo_within1 : Clo Tryz.prog 103 := fun _ _ => by kernel_rfl
theorem rowWithin_any (v : Value) (l : List Rw) (lo hi : Int) (w : World) (hl : RowsAt w v l) (hn : l.length ≤ 100000) :
    Calls Tryz.prog 50 #[v, .int .i64 lo, .int .i64 hi] w fun e w' => ∃ v', e = .returned v' ∧ Own encR 106 3 w.heap.size w' v' (withinR l lo hi) ∧ Below w.heap.size w w' := by
  obtain ⟨a, c, rfl, -, -⟩ := hl.form'
  have hba : Below w.heap.size w ((w.alloc (.cells #[.int .i64 lo] 3)).alloc (.cells #[.int .i64 hi] 3)) := ((Below.refl _ _).alloc (Nat.le_refl _) _).alloc (by simp) _
  have c0 : ((w.alloc (.cells #[.int .i64 lo] 3)).alloc (.cells #[.int .i64 hi] 3)).cell? ⟨w.heap.size, 0, none⟩ = some (.int .i64 lo) := by simp
  have c1 : ((w.alloc (.cells #[.int .i64 lo] 3)).alloc (.cells #[.int .i64 hi] 3)).cell? ⟨w.heap.size + 1, 0, none⟩ = some (.int .i64 hi) := by
    rw [World.cell?_alloc_at _ _ _ _ (by simp)]; rfl
  have Hl := Lib.hid (hl.below hba)
  go_enter Tryz.func50, Tryz.ntmps50
  go_wp2_with fail
  refine (cloneR_any _ l _ Hl.out hn).mono ?_
  rintro e w2 ⟨v2, rfl, hown, hb2⟩
  have hb2' := hba.trans (hb2.mono hba.size)
  have d0 := (hb2.cell (World.block_lt_of_cell? _ _ c0)).trans c0
  have d1 := (hb2.cell (World.block_lt_of_cell? _ _ c1)).trans c1
  go_wp2_with fail
  refine (deleteFuncR_any _ _ (withinP lo hi) _ w2 v2 l _ clo_within1 ?_ hown (Below.refl _ _) hb2.size).mono ?_
  · intro W x hx hbW hle
    exact within1_any x _ _ lo hi W ((hbW.cell (Nat.lt_of_lt_of_le (World.block_lt_of_cell? _ _ c0) (by simp))).trans d0) ((hbW.cell (World.block_lt_of_cell? _ _ c1)).trans d1)
  · rintro e w3 ⟨v3, rfl, hown3, hb3⟩
    go_wp2_with fail
    go_ret
    exact ⟨_, rfl, hown3.base (by simp; omega), hb2'.trans (hb3.mono hba.size)⟩
end Go.Proofs.YtpfohfihkmjnaaaGreatDoor
namespace Go.Proofs.YtpfohfihkmjnaaaGreatDoor
open Go.RowKit

abbrev euR : Rw := ⟨[101, 117], -5, 7⟩
theorem itoaM5 : Lib.itoa (-5) = [45, 53] := by
  have : Lib.itoa (-5) = 45 :: Lib.decDigits 5 := rfl
  rw [this, Lib.decDigits_one (by decide)]
  rfl
theorem itoa7 : Lib.itoa 7 = [55] := (Lib.itoa_nonneg 7).trans (Lib.decDigits_one (by decide))
theorem eu_check : rowCheck euR = 0 := by
  refine rowCheck_right (by decide) ?_ ?_ <;> (unfold farN; decide)
theorem eu_line : rowLine euR = [101, 117, 32, 45, 53, 32, 55] := by
  unfold rowLine numsTail
  simp only [List.flatMap_cons, List.flatMap_nil, itoaM5, itoa7]
  rfl
theorem eu_read : rowRead [101, 117, 32, 45, 53, 32, 55] = (euR, 0) := by rw [← eu_line]; exact rowRead_line eu_check
theorem eu_text : rowText euR = [101, 117, 32, 45, 53, 32, 55] := by unfold rowText; rw [if_pos eu_check, eu_line]
theorem longRows_any (v : Value) (l : List Rw) (n : Int) (w : World) (hl : RowsAt w v l) :
    Calls Tryz.prog 29 #[v, .int .i64 n] w fun e w' => (e = .returned (.int .i64 1) ∨ (e = .returned (.int .i64 0) ∧ (l.length : Int) ≤ n ∧ ∀ r ∈ l, r.part.length ≤ 30)) ∧ w = w' := by
  obtain ⟨a, c, b, o, rfl, ha, hc, hcm, hx⟩ := hl
  unfold maxLen at hcm
  by_cases h0 : n < (l.length : Int)
  · go_enter Tryz.func29, Tryz.ntmps29
    go_wp2_with fail
    go_ret
    exact ⟨.inl rfl, rfl⟩
  have g0 : decide (n < (l.length : Int)) = false := by simpa using h0
  have H0 := Lib.hid (show (l.length : Int) ≤ n by omega)
  clear h0
  go_enter Tryz.func29, Tryz.ntmps29
  go_wp2_with fail
  go_loop [5] (fun i => ∃ k : Nat, k ≤ l.length ∧ i = .int .i64 k ∧ Hid (∀ r ∈ l.take k, r.part.length ≤ 30)) (fun i => l.length - (intOf i).toNat)
  case atStart => exact ⟨0, by omega, rfl, Lib.hid (by simp)⟩
  case round =>
    obtain ⟨k, hk, rfl, hj⟩ := hrel
    by_cases hlt : k < l.length
    case neg =>
      obtain rfl : k = l.length := by omega
      have f : decide ((l.length : Int) < (l.length : Int)) = false := by simp
      have HJ := Lib.hid (show ∀ r ∈ l, r.part.length ≤ 30 by have := hj.out; rwa [List.take_length] at this)
      go_wp2_with fail
      go_ret
      exact ⟨.inr ⟨rfl, H0.out, HJ.out⟩, rfl⟩
    obtain ⟨x, hxk⟩ := get_ex hlt
    have c0 := hx k x hxk 0 _ rfl
    have i1 := idx_at (c := c) 3 Tryz.underlying44 szRw ha k hlt
    have hk1 : (k : Int) < (l.length : Int) := by omega
    simp only [Nat.add_zero] at c0
    have hsn := take_snoc' hxk
    by_cases hp : x.part.length ≤ 30
    · have g : decide ((30 : Int) < (x.part.length : Int)) = false := by simp; omega
      have HJ := Lib.hid (show ∀ r ∈ l.take (k + 1), r.part.length ≤ 30 by
        rw [hsn]
        intro r hr
        rcases List.mem_append.1 hr with h | h
        · exact hj.out r h
        · obtain rfl := List.mem_singleton.1 h
          exact hp)
      clear hsn hxk hp hj
      go_wp2_with fail
      go_round
      case rel => exact ⟨k + 1, by omega, by go_num, HJ⟩
      case measure => simp [intOf]; omega
    · have g : (30 : Int) < (x.part.length : Int) := by omega
      clear hsn hxk hp hj
      go_wp2_with fail
      go_ret
      exact ⟨.inl rfl, rfl⟩
end Go.Proofs.YtpfohfihkmjnaaaGreatDoor
namespace Go.Proofs.YtpfohfihkmjnaaaGreatDoor
open Go.RowKit

set_option maxHeartbeats 2000000 in
set_option maxRecDepth 20000 in
theorem dataKeys_any (v : Value) (l : List Rw) (w : World) (hl : RowsAt w v l) (hn : l.length ≤ 100000) :
    Calls Tryz.prog 143 #[v] w fun e w' => ∃ u, e = .returned u ∧ Own encI 3 1 w.heap.size w' u (keysR l) ∧ Below w.heap.size w w' := by
  obtain ⟨a, c, b, o, rfl, ha, hc, hcm, hx⟩ := hl
  unfold maxLen at hcm
  have HX := Lib.hid hx
  clear hx
  go_enter Tryz.func143, Tryz.ntmps143
  go_wp2_with fail
  go_loopw [3, 8] (fun u i wr => ∃ (k : Nat) (va : Value), k ≤ l.length ∧ i = .int .i64 k ∧ va = u ∧ Own encI 3 1 w.heap.size wr va (keysR (l.take k)) ∧ Below w.heap.size w wr) (fun _ i _ => l.length - (intOf i).toNat)
  case atStart => exact ⟨0, _, by omega, rfl, rfl, Own.nil _ _ _ _ _, Below.refl _ _⟩
  case round =>
    obtain ⟨k, va, hk, rfl, rfl, hown, hb⟩ := hrel
    obtain ⟨wo, rfl⟩ : ∃ wo, wo = wr := ⟨wr, rfl⟩
    by_cases hlt : k < l.length
    case neg =>
      obtain rfl : k = l.length := by omega
      rw [List.take_length] at hown
      have f : decide ((l.length : Int) < (l.length : Int)) = false := by simp
      have HO := Lib.hid hown
      clear hown
      go_wp2_with fail
      go_ret
      exact ⟨_, rfl, HO.out, hb⟩
    have hk1 : (k : Int) < (l.length : Int) := by omega
    obtain ⟨x, hxk⟩ := get_ex hlt
    obtain ⟨c0, c1, c2⟩ := rwCells HX.out hb hxk
    have i1 := idx_at (c := c) 3 Tryz.underlying44 szRw ha k hlt
    have HSn : Hid (keysR (l.take (k + 1)) = keysR (l.take k) ++ [x.key]) := Lib.hid (by rw [take_snoc' hxk]; simp [keysR])
    have hql : (keysR (l.take k)).length = k := by simp [keysR]; omega
    generalize keysR (l.take k) = q at *
    have HQl := Lib.hid hql
    have hba : Below wo.heap.size wo (wo.alloc (.cells #[S x.part, .int .i64 x.key, .int .i64 x.val] 106)) := (Below.refl _ _).alloc (Nat.le_refl _) _
    have CR := Lib.hid (fun W (h : Below (wo.alloc (.cells #[S x.part, .int .i64 x.key, .int .i64 x.val] 106)).heap.size (wo.alloc (.cells #[S x.part, .int .i64 x.key, .int .i64 x.val] 106)) W) => rowCells (r := x) (w := wo) rfl h)
    have HO3 := Lib.hid (hown.below hba)
    have hb3 := hb.trans (hba.mono hb.size)
    clear hql hown hxk
    go_upto_region 5 with fail
    generalize wo.alloc (.cells #[S x.part, .int .i64 x.key, .int .i64 x.val] 106) = w3 at *
    obtain ⟨d0, d1, d2⟩ := CR.out _ (Below.refl _ _)
    go_wp2_with (at_builtin; refine wpList_app rfl _ _ _ rfl w.heap.size elInt va q.length _ rfl (HO3.out.alloc _) (.slice (some ⟨w3.heap.size, 0, none⟩) 1 1) 1 (encI x.key) rfl (src_one rfl rfl (by simp [Value.oneCell'])) (by rw [HQl.out]; unfold maxLen; omega) (by rw [HQl.out]; omega) (by have := hb3.size; simp; omega) ?_; intro v5 w5 hown5 hg5 _)
    go_roundw
    case rel => exact ⟨k + 1, _, by omega, by go_num, rfl, by rw [HSn.out]; exact Own.snoc hown5, Bapp (hb3.alloc hb3.size _) (HO3.out.alloc _) hg5 (Nat.le_refl _) (by have := hb3.size; simp; omega)⟩
    case measure => simp [intOf]; omega
theorem makeE_full {l : List Rw} (h : 40 < l.length) : makeE l = .bare 8 := if_pos h
theorem makeE_bad {l : List Rw} {k : Nat} {x : Rw} (h : ¬ 40 < l.length) (hk : l[k]? = some x) (hj : ∀ j < k, rowF l j = 0) (hx : rowCheck x ≠ 0) : makeE l = .loc (rowCheck x) k := by
  have e : rowF l k = rowCheck x := by unfold rowF; rw [hk]
  unfold makeE
  rw [if_neg h, firstErr_hit (List.getElem?_eq_some_iff.1 hk).1 hj (by rw [e]; exact hx), e]
theorem makeE_fine {l : List Rw} (h : ¬ 40 < l.length) (hj : ∀ j < l.length, rowF l j = 0) : makeE l = .nil := by
  unfold makeE
  rw [if_neg h, firstErr_all hj]
theorem makeT_bad {l : List Rw} (h : makeE l ≠ .nil) : makeT l = [] := if_neg h
theorem makeT_fine {l : List Rw} (h : makeE l = .nil) : makeT l = wholeT kData (keysR l) (bodyT ((sortR l).map rowLine)) := if_pos h
theorem rowLine_part {r : Rw} (h : rowCheck r = 0) : r.part.length ≤ 60 := by
  have h1 := rowLine_len' h
  unfold rowLine at h1
  rw [List.length_append] at h1
  omega
theorem rowText_fine {r : Rw} (h : rowCheck r = 0) : rowText r = rowLine r := if_pos h
end Go.Proofs.YtpfohfihkmjnaaaGreatDoor
namespace Go.Proofs.YtpfohfihkmjnaaaGreatDoor
open Go.RowKit Go.Shelf Go.Sort

end Go.Proofs.YtpfohfihkmjnaaaGreatDoor
