/- store: bytes of all objects: a range over maps.Values. -/
import Derived.Test.YtepdedfmdafnkaaGreatDoorStoreGet
import Derived.Test.YtepdedfmdafnkaaGreatDoorRange
import Derived.Sort.MapsRangeIn
import Derived.RangeFuncNested
import Derived.RangeFuncMany
import Derived.RangeFuncLeaves
import Derived.Shelf.Abstract
import Derived.WalkKit
import Derived.OwnWalkIn
import Derived.TacticsInMore
import Derived.RegionIn
import Derived.LoopNIn
import Derived.LoopIn
namespace Go.Proofs.YtepdedfmdafnkaaGreatDoor
open Go.RowKit Go.Maps Go.Sort Go.Shelf
attribute [local go_sem] Oper.semAt_some

abbrev obVal (o : Ob) : Value := .agg #[S o.text, .int .i64 o.day]

theorem perm_of_names {l ps : List Ob} (hl : Rising l) (hp : (ps.map (·.name)).Perm (l.map (·.name))) (hv : ∀ p ∈ ps, getO l p.name = some p) : ps.Perm l := by
  have h1 : ∀ q : List Ob, (∀ p ∈ q, getO l p.name = some p) → (q.map (·.name)).filterMap (getO l) = q := by
    intro q
    induction q with
    | nil => intro _; rfl
    | cons a r ih => intro h; simp [h a (by simp), ih fun p hp => h p (by simp [hp])]
  have h2 := hp.filterMap (getO l)
  rwa [h1 ps hv, h1 l fun p hp => getO_of_mem hl hp] at h2

theorem values_in (F : Fence) (n : Nat) (hf : F.fn 75) (hro : F.round = none) (m : Option Nat) (w : World) :
    CallsIn F n Tryz.prog 75 #[.map m] w fun e w' => e = .returned (.func (.func 98) #[] #[.pointer (some ⟨w.heap.size, 0, none⟩)]) ∧ w' = w.alloc (.cells #[.map m] 76) := by
  refine callsIn_of_wp Tryz.func75 rfl hf ?_ hro
  simp only [Tryz.ntmps75, List.size_toArray, List.length_cons, List.length_nil, Nat.reduceAdd, Nat.reduceSub, Array.replicate_succ, Array.replicate_zero, List.push_toArray, List.append_toArray, List.nil_append, List.cons_append]
  gi_wp2
  go_ret
  exact ⟨rfl, rfl⟩

theorem objElem_inv2 {v : Value} {y : DataW Unit × List MemPlace} (h : objElem v = some y) : ∃ c : Str × Int, v = .agg #[S c.1, .int .i64 c.2] ∧ y = (obT c.1 c.2, []) := by
  unfold objElem at h
  split at h
  · rename_i cs
    split at h
    · rename_i s d' hcs
      split at h
      · refine ⟨(s.data.toList, d'), ?_, (Option.some.inj h).symm⟩
        have : cs = #[.string s, .int .i64 d'] := by rw [← hcs]
        rw [this]
      · cases h
    · cases h
  · cases h
theorem got_of_at {os : List Ob} {x t : Str} {d : Int} (h : ∀ zd, (mapD os).atKey (.string x) zd = obT t d) : getO os x = some ⟨x, t, d⟩ := by
  cases hg : getO os x with
  | none =>
    have h1 := h (.lit (.bool true))
    rw [at_mapD, hg] at h1
    cases h1
  | some o =>
    have h1 := h (.lit (.bool true))
    rw [at_mapD, hg] at h1
    obtain ⟨_, hn⟩ := getO_mem hg
    obtain ⟨n, t', d'⟩ := o
    simp only [Option.map_some, Option.getD_some, obT, DataW.agg.injEq, List.cons.injEq, DataW.lit.injEq, Lit.string.injEq, Lit.int.injEq, and_true, true_and] at h1
    obtain ⟨rfl, rfl⟩ := h1
    cases hn
    rfl

set_option maxRecDepth 100000 in
set_option maxHeartbeats 1000000 in
theorem values1_in (F : Fence) (n : Nat) (hf : F.fn 98) (hro : F.round = none) (hn : 1 ≤ n) (l Bm b nn : Nat) (os : List Ob) (hos : Rising os) (J Jx : List {o : Ob // o ∈ os} → World → Prop)
    (hY : ∀ pre x W, J pre W → pre.length < os.length → YieldAt F (n - 1) Tryz.prog l #[obVal x.1] W fun e W' =>
      (e = .returned (.bool true) ∧ J (pre ++ [x]) W' ∧ KeepsWalks W W') ∨ (e = .returned (.bool false) ∧ Jx (pre ++ [x]) W'))
    (W : World) (hJ : AbidesFrom W.heap.size J) (hm : W.cell? ⟨Bm, 0, none⟩ = some (.map (some b))) (hown : W.ownsMap Tryz.prog 9 objElem b nn (mapD os)) (h0 : J [] W) :
    CallsIn F n Tryz.prog 98 #[.func (.yield l) #[] #[], .pointer (some ⟨Bm, 0, none⟩)] W fun e W' => (∃ v, e = .returned v) ∧
      ((∃ xs : List {o : Ob // o ∈ os}, (xs.map (·.1)).Perm os ∧ J xs W') ∨ (∃ pre, Jx pre W')) := by
  refine callsIn_of_wp Tryz.func98 rfl hf ?_ hro
  simp only [Tryz.ntmps98, List.size_toArray, List.length_cons, List.length_nil, Nat.reduceAdd, Nat.reduceSub, Array.replicate_succ, Array.replicate_zero, List.push_toArray, List.append_toArray, List.nil_append, List.cons_append]
  gi_wp2_with (first
    | (gi_at_range; refine wpListIn_range_own _ rfl _ 76 rfl 9 81 (string_keyed Tryz.underlying9) Tryz.underlying76 _ b nn _ rfl hown ?_; intro w0 hrg0 hg0 hs0)
    | gi_in)
  go_frame
  gi_loopw [4] (fun _ wr => ∃ (left : Lit → Bool) (cnt : Nat) (ps : List {o : Ob // o ∈ os}), wr.ranges Tryz.prog 9 objElem b W.heap.size nn (mapD os) left cnt ∧ ps.length + cnt ≤ os.length ∧ Collected (mapD os) left (ps.map (·.1.name)) ∧ J ps wr)
    (fun _ wr => wr.rangeLeft b W.heap.size)
  case atStart =>
    exact ⟨_, _, [], hrg0, by simp [size_mapD], Collected.start _, hJ [] W w0 none h0 hg0 (fun r e => by cases e)⟩
  case round =>
    obtain ⟨left, cnt, ps, hrg, hcs, hC, hJs⟩ := hrel
    gi_wp2_with (first
      | (gi_at_next; refine wpListIn_next_ranges _ rfl _ rfl 9 (string_keyed Tryz.underlying9) objElem encStr (fun c : Str × Int => .agg #[S c.1, .int .i64 c.2]) (fun key kl hk => by obtain ⟨x, hx, _⟩ := Maps.keyOf_str Tryz.underlying9 hk; exact ⟨x, hx⟩) (fun v y hv => by obtain ⟨c, rfl, _⟩ := objElem_inv2 hv; exact ⟨c, rfl⟩) b W.heap.size nn _ _ _ rfl hrg ?_ ?_)
      | gi_in)
    · -- nothing is left
      intro hc0 hl0
      gi_wp2
      go_end0
      have hp := hC.perm hown (string_keyed Tryz.underlying9) Tryz.underlying9 hl0
      rw [keys_mapD] at hp
      exact ⟨⟨_, rfl⟩, .inl ⟨ps, perm_of_names hos (by simpa [Function.comp_def] using hp) (fun p hp => by obtain ⟨q, _, rfl⟩ := List.mem_map.1 hp; exact getO_of_mem hos q.2), hJs⟩⟩
    · -- an entry has come
      intro x ct cd kl yd yp w2 cnt2 hkey hlk hv hat hrg2 hlt hg2 hs2 hen
      obtain ⟨x', ex, rfl, _⟩ := Maps.keyOf_str Tryz.underlying9 hkey
      obtain rfl : x = x' := encStr_inj ex
      obtain ⟨⟨ct', cd'⟩, ec, ez⟩ := objElem_inv2 hv
      have h1 : S ct = S ct' ∧ Value.int .i64 cd = Value.int .i64 cd' := by simpa using ec
      obtain rfl : ct = ct' := encStr_inj h1.1
      obtain rfl : cd = cd' := by simpa using h1.2
      clear h1 ec
      obtain rfl : yd = obT ct cd := (Prod.mk.inj ez).1
      have hgo := got_of_at hat
      have hJ2 : J ps w2 := hJ _ wr w2 (some W.heap.size) hJs hg2 (fun r e => by cases e; exact ⟨Nat.le_refl _, hrg.iter_walk⟩)
      have hJ3 := hJ ps w2 (w2.alloc (.cells #[S ct, .int .i64 cd] 81)) none hJ2 (World.grownBy_alloc _ _ none) (fun r e => by cases e)
      have hrg2 := hrg2.of_walks (KeepsWalks.alloc w2 (.cells #[S ct, .int .i64 cd] 81))
      obtain ⟨fn, tmps, assign, body, hy, hR⟩ := hY ps ⟨⟨x, ct, cd⟩, (getO_mem hgo).1⟩ _ hJ3 (by omega)
      clear hs2
      gi_wp2
      refine hR.mono ?_
      have hC2 : Collected (mapD os) (fun z => left z && !z.sameKey (.string x)) ((ps ++ [(⟨⟨x, ct, cd⟩, (getO_mem hgo).1⟩ : {o : Ob // o ∈ os})]).map (·.1.name)) := by simpa using hC.step hlk hat
      rintro e W3 (⟨rfl, hJ3, hk3⟩ | ⟨rfl, hJx3⟩)
      · gi_wp2
        have hrg3 := hrg2.of_walks hk3
        go_roundw
        case rel => exact ⟨_, cnt2, _, hrg3, by simp; omega, hC2, hJ3⟩
        case measure => rw [hrg3.left_eq, hrg.left_eq]; exact hlt
      · gi_wp2
        refine bodyPost_ret (results_none rfl _ _ _) rfl ?_
        exact ⟨⟨_, rfl⟩, .inr ⟨_, hJx3⟩⟩

theorem values_stops (F : Fence) (n : Nat) (hf : F.fn 98) (hro : F.round = none) (hn : 1 ≤ n) (Bm b nn : Nat) (os : List Ob) (hos : Rising os) (w : World) (hBm : Bm < w.heap.size)
    (hm : w.cell? ⟨Bm, 0, none⟩ = some (.map (some b))) (hown : w.ownsMap Tryz.prog 9 objElem b nn (mapD os)) :
    SeqStops F n Tryz.prog 98 #[.pointer (some ⟨Bm, 0, none⟩)] (fun x : {o : Ob // o ∈ os} => obVal x.1) (fun xs => (xs.map (·.1)).Perm os) (fun _ => True) os.length w := fun l J Jx W hW hJ _ hY h0 => by
  have hown' : W.ownsMap Tryz.prog 9 objElem b nn (mapD os) := by
    have hbl := hown.lt
    obtain ⟨es, clock, hb, Ft, hs, hD⟩ := hown
    exact ⟨es, clock, (hW.block b hbl).trans hb, Ft, hs, hD⟩
  refine (values1_in F n hf hro hn l Bm b nn os hos J Jx hY W hJ ((hW.cell (p := ⟨Bm, 0, none⟩) hBm).trans hm) hown' h0).mono ?_
  rintro e W' ⟨h1, h2 | ⟨pre, h2⟩⟩
  · exact ⟨h1, .inl h2⟩
  · exact ⟨h1, .inr ⟨pre, trivial, h2⟩⟩

theorem total_len : ∀ {l : List Ob}, (∀ o ∈ l, o.text.length ≤ 20000) → total l ≤ l.length * 20000
  | [], _ => by simp [total]
  | a :: r, h => by
    have h2 := total_len fun o ho => h o (List.mem_cons_of_mem a ho)
    have h3 := h a (List.mem_cons_self ..)
    unfold total at h2 ⊢
    rw [List.map_cons, List.sum_cons, List.length_cons, Nat.add_mul]; omega
theorem total_le {s : St} (h : s.Ok) : total s.objs ≤ 4000000 := by
  have := total_len h.txt
  have hn := h.num
  have : s.objs.length * 20000 ≤ 200 * 20000 := Nat.mul_le_mul_right _ hn
  omega
theorem box_cell {W : World} {B : Nat} {v : Value} {t : TypeId} (h : W.heap[B]? = some (.cells #[v] t (0, 0))) : W.cell? ⟨B, 0, none⟩ = some v ∧ W.frozen? ⟨B, 0, none⟩ = false := by
  constructor <;> simp [World.cell?, World.frozen?, h]
theorem total_perm {a b : List Ob} (h : a.Perm b) : total a = total b := (h.map _).sum_nat

set_option maxRecDepth 100000 in
set_option maxHeartbeats 2000000 in
theorem bytes_any (sb mb : Nat) (s : St) (w : World) (h : StoreAt w sb mb s) :
    Calls Tryz.prog 45 #[stP sb] w fun e w' => e = .returned (.int .i64 (total s.objs : Int)) ∧ Below w.heap.size w w' := by
  have c0 := (h.below ((Below.refl _ w).alloc (Nat.le_refl _) (.cells #[.int .i64 0] 3))).c0
  refine (callsIn_wide (n := 6)).1 ?_
  have h7 : Fence.wide.fn 98 := trivial
  have h5 : Fence.wide.fn 75 := trivial
  refine callsIn_of_wp_marks Tryz.func45 rfl trivial ?_ rfl
  simp only [Tryz.ntmps45, List.size_toArray, List.length_cons, List.length_nil, Nat.reduceAdd, Nat.reduceSub, Array.replicate_succ, Array.replicate_zero, List.push_toArray, List.append_toArray, List.nil_append, List.cons_append]
  gi_wp2_with (gi_at_call 75; refine (values_in Fence.wide 5 trivial rfl _ _).mono ?_; rintro e w' ⟨rfl, rfl⟩)
  obtain ⟨W0, hW0⟩ : ∃ W0, (w.alloc (.cells #[.int .i64 0] 3)).alloc (.cells #[.map (some mb)] 76) = W0 := ⟨_, rfl⟩
  have hs0 : W0.heap.size = w.heap.size + 2 := by rw [← hW0]; simp
  have hb0 : Below w.heap.size w W0 := by rw [← hW0]; exact ((Below.refl _ w).alloc (Nat.le_refl _) _).alloc (by simp) _
  have hn0 : W0.heap[w.heap.size]? = some (.cells #[.int .i64 0] 3 (0, 0)) := by
    rw [← hW0]; exact (Below.heap_alloc _ _ _ (by simp)).trans (World.alloc_heap_new w _)
  have hm0 : W0.heap[w.heap.size + 1]? = some (.cells #[.map (some mb)] 76 (0, 0)) := by
    rw [← hW0]
    have := World.alloc_heap_new (w.alloc (.cells #[.int .i64 0] 3)) (.cells #[.map (some mb)] 76)
    rwa [World.size_alloc] at this
  rw [hW0]
  clear hW0
  refine rangeAll rfl (by omega) (gf := 98) (lb := #[.pointer (some ⟨w.heap.size + 1, 0, none⟩)]) rfl h7 (enters_of Tryz.func98 (by kernel_rfl) rfl)
    (values_stops Fence.wide 5 h7 rfl (by omega) (w.heap.size + 1) mb s.objs.length s.objs h.ok.ris W0 (by omega) (box_cell hm0).1 (h.below hb0).own).gives (Below.refl _ _) rfl
    (fun pre W => W.heap[w.heap.size]? = some (.cells #[.int .i64 (total (pre.map (·.1)))] 3 (0, 0)) ∧ Below w.heap.size w W) ?_ ⟨hn0, hb0⟩
    (fun p W => (W.heap[w.heap.size]? = some (.cells #[.int .i64 (total (p.1.map (·.1)))] 3 (0, 0)) ∧ Below w.heap.size w W) ∧ p.1.length < s.objs.length ∧ ∃ B, w.heap.size < B ∧ p.2.2 = ⟨#[stP sb, undef, .int .i64 0, .pointer (some ⟨w.heap.size, 0, none⟩), .pointer (some ⟨B, 0, none⟩), stP sb, .pointer (some ⟨sb, 0, none⟩), .pointer (some ⟨sb, 0, none⟩), .map (some mb), .func (.func 98) #[] #[.pointer (some ⟨w.heap.size + 1, 0, none⟩)], obVal p.2.1.1, undef, undef, undef, undef, undef, undef], []⟩ ∧ W.heap[B]? = some (.cells #[S p.2.1.1.text, .int .i64 p.2.1.1.day] 81 (0, 0))) ?_ ?_ ?_ ?_
  · rintro pre A Z row ⟨h1, h2⟩ hg hr
    exact ⟨(hg.block _ (Array.getElem?_eq_some_iff.1 h1).1 (fun e => by have := (hr _ e.symm).1; omega)).trans h1, h2.grown hg h2.size (fun k e => by have := (hr _ e).1; omega)⟩
  · rintro p A Z row ⟨⟨h1, h2⟩, h3, B, h4, h5, h6⟩ hg hr
    refine ⟨⟨(hg.block _ (Array.getElem?_eq_some_iff.1 h1).1 (fun e => by have := (hr _ e.symm).1; omega)).trans h1, h2.grown hg h2.size (fun k e => by have := (hr _ e).1; omega)⟩, h3, B, h4, h5, (hg.block _ (Array.getElem?_eq_some_iff.1 h6).1 (fun e => ?_)).trans h6⟩
    obtain ⟨_, o, ho, hc⟩ := hr _ e.symm
    rw [h6] at ho
    cases ho
    cases hc
  · rintro l pre x W ⟨h1, h2⟩ hlen
    have hlt := (Array.getElem?_eq_some_iff.1 h1).1
    gi_wp2
    refine ⟨KeepsOthers.alloc _ _, ⟨(Below.heap_alloc _ _ _ hlt).trans h1, h2.alloc h2.size _⟩, hlen, W.heap.size, hlt, rfl, World.alloc_heap_new W _⟩
  · rintro l pre x a1 W ⟨⟨h1, h2⟩, hlen, B, hB, ha1, h6⟩
    simp only at h1 hlen ha1 h6
    subst ha1
    obtain ⟨c1, f1⟩ := box_cell h1
    have hx := h.ok.txt x.1 x.2
    have htp : total (pre.map (·.1)) ≤ pre.length * 20000 := by
      clear h1 c1
      have hall : ∀ o ∈ pre.map (·.1), o.text.length ≤ 20000 := fun o ho => by obtain ⟨q, _, rfl⟩ := List.mem_map.1 ho; exact h.ok.txt q.1 q.2
      have := total_len hall
      rwa [List.length_map] at this
    have hn := h.ok.num
    have hc0 : W.cell? ⟨B, 0, none⟩ = some (S x.1.text) := by simp [World.cell?, h6]
    have ht : total ((pre ++ [x]).map (·.1)) = total (pre.map (·.1)) + x.1.text.length := by simp [total]
    rw [ht]
    generalize total (pre.map (·.1)) = tt at *
    have hbt : tt ≤ 4000000 := by omega
    clear htp ht hlen
    obtain ⟨⟨nm, tx, dy⟩, hxm⟩ := x
    simp only at hx hc0 h6 ⊢
    gi_wp2
    exact ⟨KeepsOthers.setCell _ _ _, heap_setCell_same W _ 0 _ _ _ h1, h2.grown (grown_set W w.heap.size 0 _) h2.size (fun k e => by cases e; exact Nat.le_refl _)⟩
  · rintro D xs W hG ⟨h1, h2⟩ hD hK
    obtain ⟨c1, f1⟩ := box_cell h1
    rw [total_perm hG] at c1
    gi_wp2
    refine ⟨by simp, .inl ⟨_, _, rfl, run_takeDeferred hK, ?_⟩⟩
    exact ⟨_, results_tmp rfl _ _ _, rfl, h2.grown (grownBy_putObj' W D _) h2.size (fun k e => by cases e; omega)⟩
end Go.Proofs.YtepdedfmdafnkaaGreatDoor
