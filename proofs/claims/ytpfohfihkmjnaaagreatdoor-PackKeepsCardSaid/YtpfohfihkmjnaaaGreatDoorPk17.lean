/- The library's insertion sort of a stretch is stable; merges of stretches, one behind the other. Plain, of no program. slices.symMerge at groups: the walk. slices.symMerge at groups: two longer stretches. slices.SortStableFunc at groups, at most sixty. Slices of slices of texts in memory. A snap without its idle files, file by file: plain. Groups of files, file by file; their rows: plain. Of no program. -/
import Derived.Sort.WalkA
import Derived.Test.YtpfohfihkmjnaaaGreatDoorPk16
import Derived.Test.YtpfohfihkmjnaaaGreatDoorPk5
import Derived.Test.YtpfohfihkmjnaaaGreatDoorPk10
namespace Go.Proofs.YtpfohfihkmjnaaaGreatDoor
namespace Stb
variable {α : Type} {lt : α → α → Bool} {ix : α → Nat}
section
variable [Inhabited α]
theorem insInner_seg (p : List α) : ∀ (j : Nat) (d : Array α) (q r : List α) (x : α), d.toList = p ++ (q ++ x :: r) → q.length = j → (Sort.insInner lt p.length (p.length + j) d).toList = p ++ ((insRev lt x q.reverse).reverse ++ r)
  | 0, d, q, r, x, h, hq => by
    obtain rfl := List.eq_nil_of_length_eq_zero hq
    rw [Go.Proofs.insInner_stop _ _ _ _ (.inl (by omega)), h]
    rfl
  | j + 1, d, q, r, x, h, hq => by
    obtain ⟨q', y, rfl⟩ : ∃ q' y, q = q' ++ [y] := by
      rcases List.eq_nil_or_concat q with rfl | ⟨q', y, e⟩
      · simp at hq
      · exact ⟨q', y, by simpa using e⟩
    have hq' : q'.length = j := by simpa using hq
    have h1 : d.toList = (p ++ (q' ++ [y])) ++ x :: r := by rw [h]; simp
    have h2 : d.toList = (p ++ q') ++ y :: x :: r := by rw [h]; simp
    have hx : d[p.length + (j + 1)]! = x := by have := bang h1; rwa [show (p ++ (q' ++ [y])).length = p.length + (j + 1) by simp [hq']] at this
    have hy : d[p.length + (j + 1) - 1]! = y := by have := bang h2; rwa [show (p ++ q').length = p.length + (j + 1) - 1 by simp [hq']] at this
    rw [List.reverse_append]
    show (Sort.insInner lt p.length (p.length + (j + 1)) d).toList = p ++ ((insRev lt x (y :: q'.reverse)).reverse ++ r)
    unfold insRev
    split
    · rename_i hl
      rw [Go.Proofs.insInner_go _ _ _ _ (by omega) (by rw [hx, hy]; exact hl)]
      have hs := swp_list h2
      rw [show (p ++ q').length = p.length + j by simp [hq'], show p.length + j + 1 = p.length + (j + 1) by omega] at hs
      rw [show p.length + (j + 1) - 1 = p.length + j by omega, insInner_seg p j _ q' (y :: r) x (by rw [hs]; simp) hq']
      simp
    · rename_i hl
      rw [Go.Proofs.insInner_stop _ _ _ _ (.inr (by rw [hx, hy]; simpa using hl)), h]
      simp
theorem insOuter_seg (p t : List α) : ∀ (l acc : List α) (d : Array α) (i b : Nat), d.toList = p ++ (acc.reverse ++ (l ++ t)) → p.length + acc.length = i → b = i + l.length → (Sort.insOuter lt p.length b i d).toList = p ++ ((l.foldl (fun q x => insRev lt x q) acc).reverse ++ t)
  | [], acc, d, i, b, h, hi, hb => by
    rw [Sort.insOuter, if_neg (by simp at hb; omega), h]
    rfl
  | x :: l, acc, d, i, b, h, hi, hb => by
    rw [List.length_cons] at hb
    rw [Sort.insOuter, if_pos (by omega)]
    have h1 := insInner_seg (lt := lt) p acc.length d acc.reverse (l ++ t) x h (by simp)
    rw [List.reverse_reverse, hi] at h1
    rw [insOuter_seg p t l (insRev lt x acc) _ (i + 1) b h1 (by rw [(insRev_perm x acc).length_eq]; simp; omega) (by omega)]
    rfl
/-- A stretch is sorted, stably. -/
theorem insertion_seg (hw : Way lt ix) (d : Array α) {a b : Nat} (hab : a ≤ b) (hb : b ≤ d.size) (hd : ∀ i j x y, a ≤ i → i < j → j < b → d.toList[i]? = some x → d.toList[j]? = some y → ix x < ix y) :
    Mrg lt ix d.toList (Sort.insertionSort lt d a b).toList a b := by
  obtain ⟨p, s, t, hds, hp, hs⟩ : ∃ p s t : List α, d.toList = p ++ (s ++ t) ∧ p.length = a ∧ s.length = b - a := by
    have hsz : d.toList.length = d.size := Array.length_toList
    refine ⟨d.toList.take a, (d.toList.drop a).take (b - a), (d.toList.drop a).drop (b - a), by rw [List.take_append_drop, List.take_append_drop], by simp; omega, by simp; omega⟩
  obtain ⟨r, hr, hperm, hord⟩ : ∃ r : List α, (Sort.insertionSort lt d a b).toList = p ++ (r ++ t) ∧ r.Perm s ∧ r.Pairwise (R lt ix) := by
    have hsi : s.Pairwise (fun x y => ix x < ix y) := by
      rw [List.pairwise_iff_getElem]
      intro i j h1 h2 h3
      refine hd (a + i) (a + j) _ _ (by omega) (by omega) (by omega) ?_ ?_
      · rw [hds, List.getElem?_append_right (by omega), List.getElem?_append_left (by omega), hp, Nat.add_sub_cancel_left, List.getElem?_eq_getElem]
      · rw [hds, List.getElem?_append_right (by omega), List.getElem?_append_left (by omega), hp, Nat.add_sub_cancel_left, List.getElem?_eq_getElem]
    cases s with
    | nil =>
      refine ⟨[], ?_, .refl _, .nil⟩
      unfold Sort.insertionSort
      rw [Sort.insOuter, if_neg (by simp at hs; omega), hds]
    | cons x s =>
      refine ⟨((x :: s).foldl (fun q x => insRev lt x q) []).reverse, ?_, (List.reverse_perm _).trans (by simpa using fold_perm (lt := lt) (x :: s) []), ?_⟩
      · unfold Sort.insertionSort
        rw [← hp]
        exact insOuter_seg p t s [x] d (p.length + 1) b (by rw [hds]; rfl) rfl (by simp at hs; omega)
      · rw [List.pairwise_reverse]
        exact fold_ord hw (x :: s) [] List.Pairwise.nil (fun _ h => (by cases h)) hsi
  rw [hr, hds]
  have hrl : r.length = b - a := by rw [hperm.length_eq, hs]
  refine ⟨⟨(List.Perm.refl p).append (hperm.append_right t), fun i hi => ?_, fun i x h1 h2 hx => ?_⟩, fun i j x y h1 h2 h3 hx hy => ?_⟩
  · rcases hi with hi | hi
    · rw [List.getElem?_append_left (by omega), List.getElem?_append_left (by omega)]
    · rw [List.getElem?_append_right (by omega), List.getElem?_append_right (by omega), List.getElem?_append_right (by omega), List.getElem?_append_right (by omega), hrl, hs]
  · rw [List.getElem?_append_right (by omega), List.getElem?_append_left (by omega)] at hx
    obtain ⟨k, hk, hkx⟩ := List.getElem_of_mem (hperm.mem_iff.1 (List.mem_of_getElem? hx))
    refine ⟨a + k, by omega, by omega, ?_⟩
    rw [List.getElem?_append_right (by omega), List.getElem?_append_left (by omega), hp, Nat.add_sub_cancel_left, List.getElem?_eq_getElem hk, hkx]
  · rw [List.getElem?_append_right (by omega), List.getElem?_append_left (by omega)] at hx hy
    obtain ⟨i1, i2⟩ := List.getElem?_eq_some_iff.1 hx
    obtain ⟨j1, j2⟩ := List.getElem?_eq_some_iff.1 hy
    have := List.pairwise_iff_getElem.1 hord _ _ i1 j1 (by omega)
    rwa [i2, j2] at this
end
theorem Low.sub {l : List α} {a m b a' b' : Nat} (h : Low ix l a m b) (h1 : a ≤ a') (h2 : b' ≤ b) : Low ix l a' m b' := fun i j x y k1 k2 k3 k4 hx hy => h i j x y (by omega) k2 k3 (by omega) hx hy
/-- How a list stands while stretches of s are sorted, as far as a. -/
structure Srt (lt : α → α → Bool) (ix : α → Nat) (l0 l : List α) (s a : Nat) : Prop where
  perm : l.Perm l0
  same : ∀ i, a ≤ i → l[i]? = l0[i]?
  ord : ∀ lo hi, s ∣ lo → hi ≤ lo + s → hi ≤ a → Ord lt ix l lo hi
  low : ∀ c, s ∣ c → Low ix l 0 c l0.length
theorem Srt.start {l : List α} (s : Nat) (h : l.Pairwise (fun x y => ix x < ix y)) : Srt lt ix l l s 0 := by
  refine ⟨.refl _, fun _ _ => rfl, fun lo hi _ _ h3 => Ord.one (by omega), fun c _ i j x y h1 h2 h3 h4 hx hy => ?_⟩
  obtain ⟨i1, i2⟩ := List.getElem?_eq_some_iff.1 hx
  obtain ⟨j1, j2⟩ := List.getElem?_eq_some_iff.1 hy
  have := List.pairwise_iff_getElem.1 h i j i1 j1 (by omega)
  rwa [i2, j2] at this
theorem Srt.step {l0 l l' : List α} {a b : Nat} (h : Srt lt ix l0 l 20 a) (ha : 20 ∣ a) (hab : a ≤ b) (hb : b = a + 20 ∨ b = l0.length ∧ b ≤ a + 20) (hbn : b ≤ l0.length) (hm : Mrg lt ix l l' a b) : Srt lt ix l0 l' 20 b :=
  ⟨hm.1.perm.trans h.perm, fun i hi => (hm.1.out i (.inr hi)).trans (h.same i (by omega)), fun lo hi h1 h2 h3 => by
    rcases Nat.lt_or_ge lo a with hl | hl
    · exact (h.ord lo hi h1 h2 (by omega)).seg hm.1 (by omega)
    · exact hm.2.sub (by omega) (by omega), fun c hc => by
    rcases Nat.lt_or_ge a c with hl | hl
    · by_cases hcb : b ≤ c
      · exact (h.low c hc).seg hm.1 (by omega)
      · obtain ⟨rfl, h4⟩ : b = l0.length ∧ b ≤ a + 20 := hb.resolve_left (by omega)
        exact absurd hc (by omega)
    · exact (h.low c hc).seg hm.1 (by omega)⟩
/-- How a list stands while stretches of s are merged, as far as a. -/
structure Mgd (lt : α → α → Bool) (ix : α → Nat) (l0 l : List α) (s a : Nat) : Prop where
  perm : l.Perm l0
  j1 : ∀ lo hi, 2 * s ∣ lo → hi ≤ lo + 2 * s → hi ≤ a → Ord lt ix l lo hi
  j2 : ∀ lo hi, s ∣ lo → a ≤ lo → hi ≤ lo + s → hi ≤ l0.length → Ord lt ix l lo hi
  j3 : ∀ c, s ∣ c → a ≤ c → Low ix l 0 c l0.length
  j4 : ∀ c, 2 * s ∣ c → Low ix l 0 c l0.length
/-- Stretches of s are in order. -/
structure Bys (lt : α → α → Bool) (ix : α → Nat) (l0 l : List α) (s : Nat) : Prop where
  perm : l.Perm l0
  ord : ∀ lo hi, s ∣ lo → hi ≤ lo + s → hi ≤ l0.length → Ord lt ix l lo hi
  low : ∀ c, s ∣ c → Low ix l 0 c l0.length
theorem Srt.bys {l0 l : List α} {s a : Nat} (h : Srt lt ix l0 l s a) (ha : l0.length ≤ a) : Bys lt ix l0 l s := ⟨h.perm, fun lo hi h1 h2 h3 => h.ord lo hi h1 h2 (by omega), h.low⟩
theorem Bys.start {l0 l : List α} {s : Nat} (h : Bys lt ix l0 l s) (hs : s = 20 ∨ s = 40) : Mgd lt ix l0 l s 0 :=
  ⟨h.perm, fun lo hi _ _ h3 => Ord.one (by omega), fun lo hi h1 _ h3 h4 => h.ord lo hi h1 h3 h4, fun c hc _ => h.low c hc, fun c hc => h.low c (by rcases hs with rfl | rfl <;> omega)⟩
theorem Mgd.pre {l0 l : List α} {s a b : Nat} (h : Mgd lt ix l0 l s a) (hs : s = 20 ∨ s = 40) (ha : 2 * s ∣ a) (h1 : a + s < b) (h2 : b ≤ a + 2 * s) (h3 : b ≤ l0.length) : Ord lt ix l a (a + s) ∧ Ord lt ix l (a + s) b ∧ Low ix l a (a + s) b :=
  ⟨h.j2 a (a + s) (by rcases hs with rfl | rfl <;> omega) (by omega) (by omega) (by omega), h.j2 (a + s) b (by rcases hs with rfl | rfl <;> omega) (by omega) (by omega) h3, (h.j3 (a + s) (by rcases hs with rfl | rfl <;> omega) (by omega)).sub (by omega) h3⟩
theorem Mgd.step {l0 l l' : List α} {s a : Nat} (h : Mgd lt ix l0 l s a) (hs : s = 20 ∨ s = 40) (ha : 2 * s ∣ a) (hn : a + 2 * s ≤ l0.length) (hm : Mrg lt ix l l' a (a + 2 * s)) : Mgd lt ix l0 l' s (a + 2 * s) :=
  ⟨hm.1.perm.trans h.perm, fun lo hi h1 h2 h3 => by
    rcases Nat.lt_or_ge lo a with hl | hl
    · exact (h.j1 lo hi h1 h2 (by rcases hs with rfl | rfl <;> omega)).seg hm.1 (by rcases hs with rfl | rfl <;> omega)
    · exact hm.2.sub (by omega) (by omega), fun lo hi h1 h2 h3 h4 => (h.j2 lo hi h1 (by omega) h3 h4).seg hm.1 (by omega), fun c h1 h2 => (h.j3 c h1 (by omega)).seg hm.1 (by omega),
    fun c h1 => (h.j4 c h1).seg hm.1 (by rcases hs with rfl | rfl <;> omega)⟩
theorem Mgd.last {l0 l l' : List α} {s a : Nat} (h : Mgd lt ix l0 l s a) (hs : s = 20 ∨ s = 40) (ha : 2 * s ∣ a) (h1 : l0.length < a + 2 * s) (h2 : a ≤ l0.length)
    (hm : a + s < l0.length ∧ Mrg lt ix l l' a l0.length ∨ ¬ a + s < l0.length ∧ l' = l) : Bys lt ix l0 l' (2 * s) := by
  rcases hm with ⟨-, hm⟩ | ⟨hn, rfl⟩
  · refine ⟨hm.1.perm.trans h.perm, fun lo hi h3 h4 h5 => ?_, fun c h3 => (h.j4 c h3).seg hm.1 (by rcases hs with rfl | rfl <;> omega)⟩
    rcases Nat.lt_or_ge lo a with hl | hl
    · exact (h.j1 lo hi h3 h4 (by rcases hs with rfl | rfl <;> omega)).seg hm.1 (by rcases hs with rfl | rfl <;> omega)
    · exact hm.2.sub (by omega) (by omega)
  · refine ⟨h.perm, fun lo hi h3 h4 h5 => ?_, fun c h3 => h.j4 c h3⟩
    rcases Nat.lt_or_ge lo a with hl | hl
    · exact h.j1 lo hi h3 h4 (by rcases hs with rfl | rfl <;> omega)
    · exact h.j2 lo hi (by rcases hs with rfl | rfl <;> omega) hl (by rcases hs with rfl | rfl <;> omega) h5
theorem Bys.whole {l0 l : List α} {s : Nat} (h : Bys lt ix l0 l s) (hs : l0.length ≤ s) : l.Perm l0 ∧ l.Pairwise (R lt ix) := by
  refine ⟨h.perm, ?_⟩
  rw [List.pairwise_iff_getElem]
  intro i j h1 h2 h3
  have hl := h.perm.length_eq
  exact h.ord 0 l0.length (Nat.dvd_zero _) (by omega) (Nat.le_refl _) i j _ _ (Nat.zero_le _) h3 (by omega) (List.getElem?_eq_getElem h1) (List.getElem?_eq_getElem h2)
end Stb
end Go.Proofs.YtpfohfihkmjnaaaGreatDoor
namespace Go.Proofs.YtpfohfihkmjnaaaGreatDoor
open Go.RowKit Go.Sort Go.Lib Go.Shelf
abbrev fnPlan2 : Value := .func (.func 42) #[] #[]
theorem befG_way (ix : Gp × Nat → Nat) : Stb.Way befG ix := way_part (part := fun x : Gp × Nat => x.1.part) (ix := ix)
/-- A world that has only been drawn from. -/
def Drew (w w' : World) : Prop := ∃ n, w' = w.drewN n
theorem Drew.more {w w' : World} (h : Drew w w') (q : Nat) : Drew w (w'.drewN q) := by
  obtain ⟨n, rfl⟩ := h
  exact ⟨n + q, by rw [World.drewN_drewN]⟩
theorem Drew.cell {w w' : World} (h : Drew w w') (p : Addr) : w'.cell? p = w.cell? p := by obtain ⟨n, rfl⟩ := h; rfl
theorem Drew.below {w w' : World} (h : Drew w w') : Below w.heap.size w w' := by obtain ⟨n, rfl⟩ := h; exact Bdn (Below.refl _ _) n
/-- What the library's comparison tells of two groups of a list that is told. -/
theorem cmp_groups {w w1 : World} {l : List (Gp × Nat)} (h : TellsG w l) (hd : Drew w w1) {x y : Gp × Nat} (hx : x ∈ l) (hy : y ∈ l) (q : Nat) :
    Calls Tryz.prog 42 #[ptG x, ptG y] (w1.drewN q) fun e w' => e = .returned (.int .i64 (Lib.compareBytes x.1.part y.1.part)) ∧ ∃ m, w' = (w1.drewN q).drewN m :=
  plan2_any x.2 y.2 x.1.part y.1.part (w1.drewN q) (((hd.more q).cell _).trans (h x hx).1) (((hd.more q).cell _).trans (h y hy).1)
theorem cmp_neg {x y : Gp × Nat} (h : befG x y = true) : decide (Lib.compareBytes x.1.part y.1.part < 0) = true := by rw [comp_bef]; exact h
theorem cmp_nneg {x y : Gp × Nat} (h : befG x y = false) : decide (Lib.compareBytes x.1.part y.1.part < 0) = false := by rw [comp_bef]; exact h
/-- What a merge of two stretches leaves. -/
def MergedG (B : Nat) (v : Value) (l : List (Gp × Nat)) (ix : Gp × Nat → Nat) (a b : Nat) (w : World) (e : Ending) (w' : World) : Prop :=
  e = .returned (.tuple #[]) ∧ ∃ m, Stb.Mrg befG ix l m a b ∧ Own encQ 86 1 B w' v m ∧ TurnG B w w'
structure MergeIn (B : Nat) (v : Value) (l : List (Gp × Nat)) (ix : Gp × Nat → Nat) (a m b : Nat) (w : World) : Prop where
  own : Own encQ 86 1 B w v l
  base : B ≤ w.heap.size
  len : l.length ≤ 100
  tell : TellsG w l
  am : a < m
  mb : m < b
  bl : b ≤ l.length
  o1 : Stb.Ord befG ix l a m
  o2 : Stb.Ord befG ix l m b
  low : Stb.Low ix l a m b
theorem row_here {B : Nat} {w : World} {g n cap i : Nat} {l : List (Gp × Nat)} {x : Gp × Nat} (ho : Own encQ 86 1 B w (.slice (some ⟨g, 0, none⟩) n cap) l) (hx : l[i]? = some x) {w1 : World} (hd : Drew w w1) : w1.cell? ⟨g, i, none⟩ = some (ptG x) := (hd.cell _).trans (row_cells ho hx hx).1
set_option maxHeartbeats 2000000 in
set_option maxRecDepth 20000 in
/-- One, ahead of a stretch: by a search and steps. -/
theorem symMerge_one (B : Nat) (v : Value) (l : List (Gp × Nat)) (ix : Gp × Nat → Nat) (a b : Nat) (w : World) (hi : MergeIn B v l ix a (a + 1) b w) :
    Calls Tryz.prog 130 #[v, .int .i64 a, .int .i64 ((a + 1 : Nat) : Int), .int .i64 b, fnPlan2] w (MergedG B v l ix a b w) := by
  obtain ⟨ho, hB, hl, ht, -, hmb, hbl, o1, o2, lo⟩ := hi
  obtain ⟨g, cap, cur, rfl, -, -, -, -, -, -⟩ := ho.open (by omega)
  have Ho := Lib.hid ho
  have Ht := Lib.hid ht
  have HO := Lib.hid o2
  have HL := Lib.hid lo
  obtain ⟨x, hx⟩ := get_ex (l := l) (k := a) (by omega)
  have HX := Lib.hid hx
  have Hxm := Lib.hid (List.mem_of_getElem? hx)
  clear ho ht o1 o2 lo hx
  have g1 : ((a : Int) + 1 - (a : Int) == 1) = true := by rw [show (a : Int) + 1 - (a : Int) = 1 by omega]; rfl
  have mixed : Tryz.prog.follows Departure.mixedOrders = true := by kernel_rfl
  have hf' := clo_plan2
  unfold Clo at hf'
  go_enter Tryz.func130, Tryz.ntmps130
  go_wp2_with fail
  go_loopg [10, 11] (b - a) (fun kx vi vj wr => ∃ i j : Nat, vi = .int .i64 i ∧ vj = .int .i64 j ∧ a + 1 ≤ i ∧ i ≤ j ∧ j ≤ b ∧ j - i ≤ kx ∧ Hid (Drew w wr) ∧ Hid (∀ k z, a + 1 ≤ k → k < i → l[k]? = some z → befG z x = true) ∧ Hid (∀ k z, j ≤ k → k < b → l[k]? = some z → befG z x = false))
  case atStart => exact ⟨a + 1, b, by go_num, rfl, Nat.le_refl _, by omega, Nat.le_refl _, by omega, Lib.hid ⟨0, rfl⟩, fun k z h1 h2 => absurd h1 (by omega), fun k z h1 h2 => absurd h1 (by omega)⟩
  case round =>
    obtain ⟨i, j, rfl, rfl, hi1, hij, hjb, hk, HD, H1, H2⟩ := hrel
    obtain ⟨w1, rfl⟩ : ∃ w1, w1 = wr := ⟨wr, rfl⟩
    by_cases hlt : i < j
    case neg =>
      obtain rfl : j = i := by omega
      have HP := Lib.hid (Stb.one_ahead (befG_way ix) hbl HX.out HO.out HL.out hi1 hjb H1.out H2.out)
      have HoN := Lib.hid (Ho.out.below HD.out.below)
      have HTu : Hid (TurnG B w w1) := Lib.hid (by obtain ⟨n, rfl⟩ := HD.out; exact (TurnG.refl B w).drewN n hB)
      clear H1 H2 HO HL
      go_wp2_with fail
      go_loopw [13] (fun vk wr => ∃ (k : Nat) (m : List (Gp × Nat)), vk = .int .i64 k ∧ a ≤ k ∧ k + 1 ≤ j ∧ m.length = l.length ∧ Hid (m = Stb.rot l a (a + 1) (k + 1)) ∧ Hid (Own encQ 86 1 B wr (.slice (some ⟨g, 0, none⟩) l.length cap) m) ∧ Hid (TurnG B w wr)) (fun vk _ => j - (intOf vk).toNat)
      case atStart => exact ⟨a, l, rfl, Nat.le_refl _, by omega, rfl, Lib.hid (Stb.rot_left l (by omega) (by omega)).symm, HoN, HTu⟩
      case round =>
        obtain ⟨k, m, rfl, hak, hkj, hml, hm, hom, htu⟩ := hrel
        obtain ⟨wo, rfl⟩ : ∃ wo, wo = wr := ⟨wr, rfl⟩
        by_cases hlt : k + 1 < j
        case neg =>
          have e1 : k + 1 = j := by omega
          have hm' := hm.out
          rw [e1] at hm'
          have g2 : decide ((k : Int) < (j : Int) - 1) = false := by simp; omega
          have HM := Lib.hid hm'
          clear hm hm'
          go_wp2_with fail
          go_end0
          exact ⟨rfl, m, by rw [HM.out]; exact HP.out, hom.out, htu.out⟩
        have g2 : decide ((k : Int) < (j : Int) - 1) = true := by simp; omega
        obtain ⟨y, hy⟩ := get_ex (l := m) (k := k) (by omega)
        obtain ⟨z, hz⟩ := get_ex (l := m) (k := k + 1) (by omega)
        obtain ⟨c1, c2, f1, f2, u, c3⟩ := row_cells hom.out hy hz
        have T2 := Lib.hid (turn_two hom.out (i := k) (j := k + 1) (by omega) (by omega) y z (Nat.le_trans hB htu.out.2.2))
        have HS : Hid ((m.set k z).set (k + 1) y = Stb.rot l a (a + 1) (k + 1 + 1)) := Lib.hid (by
          have hm' := hm.out
          subst hm'
          exact Stb.rot_up (by omega) hak hy hz)
        obtain ⟨iB, hiB⟩ : ∃ q, q = k + 1 := ⟨_, rfl⟩
        have eb : ((k : Int) + 1).toNat = iB := by omega
        have pb : (0 : Int) ≤ (k : Int) + 1 := by omega
        have bb : (k : Int) + 1 < (l.length : Int) := by omega
        have ba : (k : Int) < (l.length : Int) := by omega
        have rb : IntKind.i64.wrap ((k : Int) + 1) = (k : Int) + 1 := by rw [IntKind.wrap_i64]; omega
        have HiB := Lib.hid hiB
        rw [← hiB] at c2 f2 c3 T2
        clear hy hz hiB hm hom
        go_wp2_with fail
        go_big_region_o
        clear c1 c2 c3 f1 f2
        generalize ((wo.setCell ⟨g, k, none⟩ (ptG z)).setCell ⟨g, iB, none⟩ (ptG y)).drew = w3 at *
        go_wp2_with fail
        go_roundw
        case rel => exact ⟨k + 1, _, by go_num, by omega, by omega, by simp [hml], HS, Lib.hid (by rw [← HiB.out]; exact T2.out.1), Lib.hid (htu.out.trans T2.out.2)⟩
        case measure => simp [intOf]; omega
    obtain ⟨h, hh⟩ : ∃ h, (i + j) / 2 = h := ⟨_, rfl⟩
    obtain ⟨y, hy⟩ := get_ex (l := l) (k := h) (by omega)
    have hcast : ((i : Int) + (j : Int)) / 2 = (h : Int) := by omega
    have c1 := row_here Ho.out HX.out HD.out
    have c2 := row_here Ho.out hy HD.out
    have HC := Lib.hid (fun q => cmp_groups Ht.out HD.out (List.mem_of_getElem? hy) Hxm.out q)
    have b1 : (h : Int) < (l.length : Int) := by omega
    have b2 : (a : Int) < (l.length : Int) := by omega
    cases hbf : befG y x with
    | true =>
      have d1 := cmp_neg hbf
      have HN := Lib.hid (Stb.less_below (befG_way ix) HO.out (by omega) hy hbf)
      clear hy hbf
      go_wp2_with fail
      go_quiet ((go_at_fn 42; refine Calls.quiet_of (HC.out _)))
      go_wp2_with fail
      go_roundg (j - (h + 1))
      case measure => omega
      case rel => exact ⟨h + 1, j, by go_num, rfl, by omega, by omega, hjb, Nat.le_refl _, Lib.hid (HD.out.more _), HN, H2⟩
    | false =>
      have d1 := cmp_nneg hbf
      have HN := Lib.hid (Stb.not_above (befG_way ix) HO.out (by omega) hy hbf)
      clear hy hbf
      go_wp2_with fail
      go_quiet ((go_at_fn 42; refine Calls.quiet_of (HC.out _)))
      go_wp2_with fail
      go_roundg (h - i)
      case measure => omega
      case rel => exact ⟨i, h, rfl, by go_num, hi1, by omega, by omega, Nat.le_refl _, Lib.hid (HD.out.more _), H1, HN⟩
set_option maxHeartbeats 2000000 in
set_option maxRecDepth 20000 in
/-- One, behind a stretch. -/
theorem symMerge_last (B : Nat) (v : Value) (l : List (Gp × Nat)) (ix : Gp × Nat → Nat) (a m : Nat) (w : World) (hi : MergeIn B v l ix a m (m + 1) w) (ham : a + 1 < m) :
    Calls Tryz.prog 130 #[v, .int .i64 a, .int .i64 m, .int .i64 ((m + 1 : Nat) : Int), fnPlan2] w (MergedG B v l ix a (m + 1) w) := by
  obtain ⟨ho, hB, hl, ht, -, -, hbl, o1, o2, lo⟩ := hi
  obtain ⟨g, cap, cur, rfl, -, -, -, -, -, -⟩ := ho.open (by omega)
  have Ho := Lib.hid ho
  have Ht := Lib.hid ht
  have HO := Lib.hid o1
  have HL := Lib.hid lo
  obtain ⟨x, hx⟩ := get_ex (l := l) (k := m) (by omega)
  have HX := Lib.hid hx
  have Hxm := Lib.hid (List.mem_of_getElem? hx)
  clear ho ht o1 o2 lo hx
  have g0 : ((m : Int) - (a : Int) == 1) = false := by simp; omega
  have g1 : ((m : Int) + 1 - (m : Int) == 1) = true := by rw [show (m : Int) + 1 - (m : Int) = 1 by omega]; rfl
  have mixed : Tryz.prog.follows Departure.mixedOrders = true := by kernel_rfl
  have hf' := clo_plan2
  unfold Clo at hf'
  go_enter Tryz.func130, Tryz.ntmps130
  go_wp2_with fail
  go_loopg [14, 15] (m - a) (fun kx vi vj wr => ∃ i j : Nat, vi = .int .i64 i ∧ vj = .int .i64 j ∧ a ≤ i ∧ i ≤ j ∧ j ≤ m ∧ j - i ≤ kx ∧ Hid (Drew w wr) ∧ Hid (∀ k z, a ≤ k → k < i → l[k]? = some z → befG x z = false) ∧ Hid (∀ k z, j ≤ k → k < m → l[k]? = some z → befG x z = true))
  case atStart => exact ⟨a, m, rfl, rfl, Nat.le_refl _, by omega, Nat.le_refl _, by omega, Lib.hid ⟨0, rfl⟩, fun k z h1 h2 => absurd h1 (by omega), fun k z h1 h2 => absurd h1 (by omega)⟩
  case round =>
    obtain ⟨i, j, rfl, rfl, hi1, hij, hjb, hk, HD, H1, H2⟩ := hrel
    obtain ⟨w1, rfl⟩ : ∃ w1, w1 = wr := ⟨wr, rfl⟩
    by_cases hlt : i < j
    case neg =>
      obtain rfl : j = i := by omega
      have HP := Lib.hid (Stb.one_behind (befG_way ix) hbl HX.out HO.out HL.out hi1 hjb H1.out H2.out)
      have HoN := Lib.hid (Ho.out.below HD.out.below)
      have HTu : Hid (TurnG B w w1) := Lib.hid (by obtain ⟨n, rfl⟩ := HD.out; exact (TurnG.refl B w).drewN n hB)
      clear H1 H2 HO HL
      go_wp2_with fail
      go_loopw [17] (fun vk wr => ∃ (k : Nat) (n : List (Gp × Nat)), vk = .int .i64 k ∧ j ≤ k ∧ k ≤ m ∧ n.length = l.length ∧ Hid (n = Stb.rot l k m (m + 1)) ∧ Hid (Own encQ 86 1 B wr (.slice (some ⟨g, 0, none⟩) l.length cap) n) ∧ Hid (TurnG B w wr)) (fun vk _ => (intOf vk).toNat)
      case atStart => exact ⟨m, l, rfl, hjb, Nat.le_refl _, rfl, Lib.hid (Stb.rot_right l (by omega) (by omega)).symm, HoN, HTu⟩
      case round =>
        obtain ⟨k, n, rfl, hjk, hkm, hnl, hn, hom, htu⟩ := hrel
        obtain ⟨wo, rfl⟩ : ∃ wo, wo = wr := ⟨wr, rfl⟩
        by_cases hlt : j < k
        case neg =>
          obtain rfl : k = j := by omega
          go_wp2_with fail
          go_end0
          exact ⟨rfl, n, by rw [hn.out]; exact HP.out, hom.out, htu.out⟩
        obtain ⟨q, hq⟩ : ∃ q, q + 1 = k := ⟨k - 1, by omega⟩
        obtain ⟨y, hy⟩ := get_ex (l := n) (k := k) (by omega)
        obtain ⟨z, hz⟩ := get_ex (l := n) (k := q) (by omega)
        obtain ⟨c1, c2, f1, f2, u, c3⟩ := row_cells hom.out hy hz
        have T2 := Lib.hid (turn_two hom.out (i := k) (j := q) (by omega) (by omega) y z (Nat.le_trans hB htu.out.2.2))
        have HS : Hid ((n.set k z).set q y = Stb.rot l q m (m + 1)) := Lib.hid (by
          have hn' := hn.out
          subst hn'
          have hq1 : q = k - 1 := by omega
          subst hq1
          exact Stb.rot_down (by omega) (by omega) hkm hy hz)
        have hlt' : (j : Int) < (k : Int) := by omega
        have kq : (k : Int) - 1 = (q : Int) := by omega
        have bb : (q : Int) < (l.length : Int) := by omega
        have ba : (k : Int) < (l.length : Int) := by omega
        have rb : IntKind.i64.wrap ((k : Int) - 1) = (q : Int) := by rw [IntKind.wrap_i64]; omega
        have hqj : j ≤ q := by omega
        have hqk : q < k := by omega
        clear hy hz hn hom hq
        go_wp2_with fail
        go_big_region_o
        clear c1 c2 c3 f1 f2
        generalize ((wo.setCell ⟨g, k, none⟩ (ptG z)).setCell ⟨g, q, none⟩ (ptG y)).drew = w3 at *
        go_wp2_with fail
        go_roundw
        case rel => exact ⟨q, _, by go_num, by omega, by omega, by simp [hnl], HS, Lib.hid T2.out.1, Lib.hid (htu.out.trans T2.out.2)⟩
        case measure => simp [intOf]; omega
    obtain ⟨h, hh⟩ : ∃ h, (i + j) / 2 = h := ⟨_, rfl⟩
    obtain ⟨y, hy⟩ := get_ex (l := l) (k := h) (by omega)
    have hcast : ((i : Int) + (j : Int)) / 2 = (h : Int) := by omega
    have c1 := row_here Ho.out HX.out HD.out
    have c2 := row_here Ho.out hy HD.out
    have HC := Lib.hid (fun q => cmp_groups Ht.out HD.out Hxm.out (List.mem_of_getElem? hy) q)
    have b1 : (h : Int) < (l.length : Int) := by omega
    have b2 : (m : Int) < (l.length : Int) := by omega
    cases hbf : befG x y with
    | true =>
      have d1 := cmp_neg hbf
      have HN := Lib.hid (Stb.less_above (befG_way ix) HO.out (by omega) hy hbf)
      clear hy hbf
      go_wp2_with fail
      go_quiet ((go_at_fn 42; refine Calls.quiet_of (HC.out _)))
      go_wp2_with fail
      go_roundg (h - i)
      case measure => omega
      case rel => exact ⟨i, h, rfl, by go_num, hi1, by omega, by omega, Nat.le_refl _, Lib.hid (HD.out.more _), H1, HN⟩
    | false =>
      have d1 := cmp_nneg hbf
      have HN := Lib.hid (Stb.not_below (befG_way ix) HO.out (by omega) hy hbf)
      clear hy hbf
      go_wp2_with fail
      go_quiet ((go_at_fn 42; refine Calls.quiet_of (HC.out _)))
      go_wp2_with fail
      go_roundg (j - (h + 1))
      case measure => omega
      case rel => exact ⟨h + 1, j, by go_num, rfl, by omega, by omega, hjb, Nat.le_refl _, Lib.hid (HD.out.more _), HN, H2⟩
end Go.Proofs.YtpfohfihkmjnaaaGreatDoor
namespace Go.Proofs.YtpfohfihkmjnaaaGreatDoor
open Go.RowKit Go.Sort Go.Lib Go.Shelf
set_option maxHeartbeats 4000000 in
set_option maxRecDepth 20000 in
/-- Two longer stretches: by a cut, a rotation, and two merges. -/
theorem symMerge_far (B : Nat) (v : Value) (l : List (Gp × Nat)) (ix : Gp × Nat → Nat) (a m b : Nat) (w : World) (hi : MergeIn B v l ix a m b w) (ham : a + 1 < m) (hmb1 : m + 1 < b)
    (IH : ∀ (l' : List (Gp × Nat)) (a' m' b' : Nat) (W : World), b' - a' < b - a → MergeIn B v l' ix a' m' b' W → Calls Tryz.prog 130 #[v, .int .i64 a', .int .i64 m', .int .i64 b', fnPlan2] W (MergedG B v l' ix a' b' W)) :
    Calls Tryz.prog 130 #[v, .int .i64 a, .int .i64 m, .int .i64 b, fnPlan2] w (MergedG B v l ix a b w) := by
  obtain ⟨ho, hB, hl, ht, -, -, hbl, o1, o2, lo⟩ := hi
  obtain ⟨g, cap, cur, rfl, -, -, -, -, -, -⟩ := ho.open (by omega)
  have Ho := Lib.hid ho
  have Ht := Lib.hid ht
  have O1 := Lib.hid o1
  have O2 := Lib.hid o2
  have HL := Lib.hid lo
  have HIH := Lib.hid IH
  clear ho ht o1 o2 lo IH
  obtain ⟨mid, hmid⟩ : ∃ mid, (a + b) / 2 = mid := ⟨_, rfl⟩
  have hcm : ((a : Int) + (b : Int)) / 2 = (mid : Int) := by omega
  have hm1 : a < mid := by omega
  have hm2 : mid < b := by omega
  have hm3 : 2 * mid ≤ a + b := by omega
  have hm4 : a + b ≤ 2 * mid + 1 := by omega
  have g0 : ((m : Int) - (a : Int) == 1) = false := by simp; omega
  have g1 : ((b : Int) - (m : Int) == 1) = false := by simp; omega
  have hf' := clo_plan2
  unfold Clo at hf'
  have hst := Lib.hid (Stb.Fnd.start (lt := befG) (l := l) (a := a) (m := m) (b := b) (by omega) (by omega))
  rw [hmid] at hst
  have Hmid := Lib.hid hmid
  clear hmid
  go_enter Tryz.func130, Tryz.ntmps130
  go_upto_if 140 with fail
  go_cut [20, 21] (fun x y wx => ∃ s r : Nat, x = .int .i64 s ∧ y = .int .i64 r ∧ s = (if mid < m then mid + m - b else a) ∧ r = (if mid < m then mid else m) ∧ wx = w)
  case first => as_aux_lemma =>
    by_cases hm : mid < m
    case pos =>
      have k1 : (mid : Int) < (m : Int) := by omega
      have k2 : (mid : Int) + (m : Int) - (b : Int) = ((mid + m - b : Nat) : Int) := by omega
      go_wp2_with fail
      go_meet
      exact ⟨mid + m - b, mid, by go_num, rfl, by rw [if_pos hm], by rw [if_pos hm], rfl⟩
    have k1 : decide ((mid : Int) < (m : Int)) = false := by simp; omega
    go_wp2_with fail
    go_meet
    exact ⟨a, m, rfl, rfl, by rw [if_neg hm], by rw [if_neg hm], rfl⟩
  case rest =>
  obtain ⟨s0, r0, rfl, rfl, hs0, hr0, hwc⟩ := hcut
  obtain rfl := hwc.symm
  rw [← hs0, ← hr0] at hst
  have hb0 : a ≤ s0 ∧ s0 ≤ r0 ∧ r0 ≤ m ∧ r0 ≤ mid ∧ mid + m ≤ b + s0 := by
    subst hs0 hr0
    split <;> omega
  have HS0 := Lib.hid hs0
  have HR0 := Lib.hid hr0
  clear hs0 hr0
  go_wp2_with fail
  go_loopg [20, 21] (r0 - s0) (fun kx vi vj wr => ∃ s r : Nat, vi = .int .i64 s ∧ vj = .int .i64 r ∧ s0 ≤ s ∧ s ≤ r ∧ r ≤ r0 ∧ r - s ≤ kx ∧ Hid (Drew w wr) ∧ Hid (Stb.Fnd befG l a m b s r))
  case atStart => exact ⟨s0, r0, rfl, rfl, Nat.le_refl _, by omega, Nat.le_refl _, by omega, Lib.hid ⟨0, rfl⟩, hst⟩
  case round =>
    obtain ⟨s, r, rfl, rfl, hi1, hij, hjb, hk, HD, HF⟩ := hrel
    obtain ⟨w1, rfl⟩ : ∃ w1, w1 = wr := ⟨wr, rfl⟩
    by_cases hlt : s < r
    case pos =>
      obtain ⟨c, hc⟩ : ∃ c, (s + r) / 2 = c := ⟨_, rfl⟩
      obtain ⟨pc, hpc⟩ : ∃ pc, mid + m - 1 - c = pc := ⟨_, rfl⟩
      obtain ⟨x, hx⟩ := get_ex (l := l) (k := c) (by omega)
      obtain ⟨y, hy⟩ := get_ex (l := l) (k := pc) (by omega)
      have hcast : ((s : Int) + (r : Int)) / 2 = (c : Int) := by omega
      have hcast2 : (mid : Int) + (m : Int) - 1 - (c : Int) = (pc : Int) := by omega
      have c1 := row_here Ho.out hx HD.out
      have c2 := row_here Ho.out hy HD.out
      have HC := Lib.hid (fun q => cmp_groups Ht.out HD.out (List.mem_of_getElem? hy) (List.mem_of_getElem? hx) q)
      have b1 : (c : Int) < (l.length : Int) := by omega
      have b2 : (pc : Int) < (l.length : Int) := by omega
      have b3 : IntKind.i64.wrap ((mid : Int) + (m : Int) - 1 - (c : Int)) = (pc : Int) := by rw [IntKind.wrap_i64]; omega
      have hsc : s ≤ c := by omega
      have hcr : c < r := by omega
      have hy' : l[(a + b) / 2 + m - 1 - c]? = some y := by rw [Hmid.out, hpc]; exact hy
      cases hbf : befG y x with
      | true => as_aux_lemma =>
        have d1 := cmp_neg hbf
        have HN := Lib.hid (HF.out.down hsc hcr hx hy' hbf)
        clear hy hy' hx hbf hc hpc
        go_wp2_with fail
        go_quiet ((go_at_fn 42; refine Calls.quiet_of (HC.out _)))
        go_wp2_with fail
        go_roundg (c - s)
        case measure => omega
        case rel => exact ⟨s, c, rfl, by go_num, by omega, by omega, by omega, Nat.le_refl _, Lib.hid (HD.out.more _), HN⟩
      | false => as_aux_lemma =>
        have d1 := cmp_nneg hbf
        have HN := Lib.hid (HF.out.up hsc hcr hx hy' hbf)
        clear hy hy' hx hbf hc hpc
        go_wp2_with fail
        go_quiet ((go_at_fn 42; refine Calls.quiet_of (HC.out _)))
        go_wp2_with fail
        go_roundg (r - (c + 1))
        case measure => omega
        case rel => exact ⟨c + 1, r, by go_num, rfl, by omega, by omega, by omega, Nat.le_refl _, Lib.hid (HD.out.more _), HN⟩
    obtain rfl : r = s := by omega
    have hcut := HF.out.cut (by omega) (by omega) hbl
    rw [Hmid.out] at hcut
    obtain ⟨e, he⟩ : ∃ e, mid + m - r = e := ⟨_, rfl⟩
    rw [he] at hcut
    have b1 := hcut.alo
    have b2 := hcut.sm
    have b3 := hcut.me
    have b4 := hcut.eb
    have b5 := hcut.mid
    have HMg := Lib.hid (hcut.merge (befG_way ix) O1.out O2.out HL.out)
    have hec : (mid : Int) + (m : Int) - (r : Int) = (e : Int) := by omega
    have HoN := Lib.hid (Ho.out.below HD.out.below)
    have HTu : Hid (TurnG B w w1) := Lib.hid (by obtain ⟨n, rfl⟩ := HD.out; exact (TurnG.refl B w).drewN n hB)
    clear hcut HF HD hi1 hij hjb hk hlt hb0 hst he
    go_upto_region 39 with fail
    go_cut [185] (fun t wx => ∃ t1 : Bool, t = .bool t1 ∧ t1 = decide (r < m ∧ m < e) ∧ wx = w1)
    case first => as_aux_lemma =>
      by_cases k1 : r < m
      case pos =>
        have k2 : (r : Int) < (m : Int) := by omega
        by_cases k3 : m < e
        case pos =>
          have k4 : (m : Int) < (e : Int) := by omega
          go_wp2_with fail
          go_meet
          exact ⟨true, rfl, by simp [k1, k3], rfl⟩
        have k4 : decide ((m : Int) < (e : Int)) = false := by simp; omega
        go_wp2_with fail
        go_meet
        exact ⟨false, rfl, by simp [k3], rfl⟩
      have k2 : decide ((r : Int) < (m : Int)) = false := by simp; omega
      go_wp2_with fail
      go_meet
      exact ⟨false, rfl, by simp [k1], rfl⟩
    case rest =>
    obtain ⟨t1, rfl, ht1, hwc⟩ := hcut
    obtain rfl := hwc.symm
    have HT1 := Lib.hid ht1
    clear ht1
    go_upto_if 185 with fail
    go_cut [] (fun wx => ∃ l1, l1 = Stb.rot l r m e ∧ Hid (Own encQ 86 1 B wx (.slice (some ⟨g, 0, none⟩) l.length cap) l1) ∧ Hid (TurnG B w wx))
    case first => as_aux_lemma =>
      cases t1 with
      | true => as_aux_lemma =>
        obtain ⟨k1, k2⟩ := of_decide_eq_true HT1.out.symm
        have HC := Lib.hid (rotateG_any B (.slice (some ⟨g, 0, none⟩) l.length cap) fnPlan2 l r m e w1 HoN.out (Nat.le_trans hB HTu.out.2.2) hl k1 k2 (by omega))
        go_wp2_with fail
        refine HC.out.mono ?_
        rintro en w2 ⟨rfl, ho2, htu2⟩
        have H1 := Lib.hid ho2
        have H2 := Lib.hid (HTu.out.trans htu2)
        clear ho2 htu2
        go_wp2_with fail
        go_meet
        exact ⟨_, rfl, H1, H2⟩
      | false => as_aux_lemma =>
        have hn := of_decide_eq_false HT1.out.symm
        have hrr : Hid (l = Stb.rot l r m e) := Lib.hid (by
          by_cases k1 : r < m
          · obtain rfl : e = m := by omega
            exact (Stb.rot_left l (by omega) (by omega)).symm
          · obtain rfl : r = m := by omega
            exact (Stb.rot_right l (by omega) (by omega)).symm)
        clear hn
        go_wp2_with fail
        go_meet
        exact ⟨_, hrr.out, HoN, HTu⟩
    case rest =>
    obtain ⟨l1, hl1, ho1, htu1⟩ := hcut
    have hl1l : l1.length = l.length := by rw [hl1]; exact (Stb.rot_perm l b2 b3).length_eq
    have Hp1 : Hid (l1.Perm l) := Lib.hid (by rw [hl1]; exact Stb.rot_perm l b2 b3)
    rw [← hl1] at HMg
    clear hl1 HT1 HTu HoN
    obtain ⟨w2, rfl⟩ : ∃ w2, w2 = wc := ⟨wc, rfl⟩
    have hB2 := Nat.le_trans hB htu1.out.2.2
    have HM1 := Lib.hid HMg.out.1
    have HM2 := Lib.hid HMg.out.2
    have HTe1 := Lib.hid (Ht.out.kept htu1.out.1)
    clear HMg
    go_upto_region 41 with fail
    go_cut [199] (fun t wx => ∃ t1 : Bool, t = .bool t1 ∧ t1 = decide (a < r ∧ r < mid) ∧ wx = w2)
    case first => as_aux_lemma =>
      by_cases k1 : a < r
      case pos =>
        have k2 : (a : Int) < (r : Int) := by omega
        by_cases k3 : r < mid
        case pos =>
          have k4 : (r : Int) < (mid : Int) := by omega
          go_wp2_with fail
          go_meet
          exact ⟨true, rfl, by simp [k1, k3], rfl⟩
        have k4 : decide ((r : Int) < (mid : Int)) = false := by simp; omega
        go_wp2_with fail
        go_meet
        exact ⟨false, rfl, by simp [k3], rfl⟩
      have k2 : decide ((a : Int) < (r : Int)) = false := by simp; omega
      go_wp2_with fail
      go_meet
      exact ⟨false, rfl, by simp [k1], rfl⟩
    case rest =>
    obtain ⟨t1, rfl, ht1, hwc⟩ := hcut
    obtain rfl := hwc.symm
    have HT1 := Lib.hid ht1
    clear ht1
    go_upto_if 199 with fail
    go_cut [] (fun wx => ∃ l2, Hid ((a < r ∧ r < mid) ∧ Stb.Mrg befG ix l1 l2 a mid ∨ ¬ (a < r ∧ r < mid) ∧ l2 = l1) ∧ Hid (Own encQ 86 1 B wx (.slice (some ⟨g, 0, none⟩) l.length cap) l2) ∧ Hid (TurnG B w wx))
    case first => as_aux_lemma =>
      cases t1 with
      | true => as_aux_lemma =>
        obtain ⟨k1, k2⟩ := of_decide_eq_true HT1.out.symm
        have HC := Lib.hid (HIH.out l1 a r mid w2 (by omega) ⟨ho1.out, hB2, by omega, HTe1.out.perm Hp1.out, k1, k2, by omega, (HM1.out k1 k2).1, (HM1.out k1 k2).2.1, (HM1.out k1 k2).2.2⟩)
        go_wp2_with fail
        refine HC.out.mono ?_
        rintro en w3 ⟨rfl, l2, hm2, ho2, htu2⟩
        have H0 := Lib.hid hm2
        have H1 := Lib.hid ho2
        have H2 := Lib.hid (htu1.out.trans htu2)
        clear ho2 htu2 hm2
        go_wp2_with fail
        go_meet
        exact ⟨l2, Lib.hid (.inl ⟨⟨k1, k2⟩, H0.out⟩), H1, H2⟩
      | false => as_aux_lemma =>
        have hn := Lib.hid (of_decide_eq_false HT1.out.symm)
        go_wp2_with fail
        go_meet
        exact ⟨l1, Lib.hid (.inr ⟨hn.out, rfl⟩), ho1, htu1⟩
    case rest =>
    obtain ⟨l2, hc2, ho2, htu2⟩ := hcut
    obtain ⟨w3, rfl⟩ : ∃ w3, w3 = wc := ⟨wc, rfl⟩
    have HM3 := Lib.hid (HM2.out l2 hc2.out)
    have Hp2 : Hid (l2.Perm l) := Lib.hid (by
      rcases hc2.out with ⟨-, h⟩ | ⟨-, rfl⟩
      · exact h.1.perm.trans Hp1.out
      · exact Hp1.out)
    have hl2l : l2.length = l.length := Hp2.out.length_eq
    have hB3 := Nat.le_trans hB htu2.out.2.2
    have HTe2 := Lib.hid (Ht.out.kept htu2.out.1)
    clear hc2 HT1 HM1 HM2 HTe1 ho1 htu1 Hp1 hl1l hB2
    go_upto_region 43 with fail
    go_cut [213] (fun t wx => ∃ t1 : Bool, t = .bool t1 ∧ t1 = decide (mid < e ∧ e < b) ∧ wx = w3)
    case first => as_aux_lemma =>
      by_cases k1 : mid < e
      case pos =>
        have k2 : (mid : Int) < (e : Int) := by omega
        by_cases k3 : e < b
        case pos =>
          have k4 : (e : Int) < (b : Int) := by omega
          go_wp2_with fail
          go_meet
          exact ⟨true, rfl, by simp [k1, k3], rfl⟩
        have k4 : decide ((e : Int) < (b : Int)) = false := by simp; omega
        go_wp2_with fail
        go_meet
        exact ⟨false, rfl, by simp [k3], rfl⟩
      have k2 : decide ((mid : Int) < (e : Int)) = false := by simp; omega
      go_wp2_with fail
      go_meet
      exact ⟨false, rfl, by simp [k1], rfl⟩
    case rest =>
    obtain ⟨t1, rfl, ht1, hwc⟩ := hcut
    obtain rfl := hwc.symm
    have HT1 := Lib.hid ht1
    clear ht1
    cases t1 with
    | true => as_aux_lemma =>
      obtain ⟨k1, k2⟩ := of_decide_eq_true HT1.out.symm
      have HC := Lib.hid (HIH.out l2 mid e b w3 (by omega) ⟨ho2.out, hB3, by omega, HTe2.out.perm Hp2.out, k1, k2, by omega, (HM3.out.1 k1 k2).1, (HM3.out.1 k1 k2).2.1, (HM3.out.1 k1 k2).2.2⟩)
      go_wp2_with fail
      refine HC.out.mono ?_
      rintro en w4 ⟨rfl, l3, hm3, ho3, htu3⟩
      have H0 := Lib.hid hm3
      have H1 := Lib.hid ho3
      have H2 := Lib.hid (htu2.out.trans htu3)
      clear ho3 htu3 hm3
      go_wp2_with fail
      go_end0
      exact ⟨rfl, l3, HM3.out.2 l3 (.inl ⟨⟨k1, k2⟩, H0.out⟩), H1.out, H2.out⟩
    | false => as_aux_lemma =>
      have hn := Lib.hid (of_decide_eq_false HT1.out.symm)
      go_wp2_with fail
      go_end0
      exact ⟨rfl, l2, HM3.out.2 l2 (.inr ⟨hn.out, rfl⟩), ho2.out, htu2.out⟩
/-- slices.symMerge at groups: two stretches in order become one. -/
theorem symMerge_any (B : Nat) (v : Value) (ix : Gp × Nat → Nat) : ∀ (n : Nat) (l : List (Gp × Nat)) (a m b : Nat) (w : World), b - a ≤ n → MergeIn B v l ix a m b w →
    Calls Tryz.prog 130 #[v, .int .i64 a, .int .i64 m, .int .i64 b, fnPlan2] w (MergedG B v l ix a b w)
  | 0, l, a, m, b, w, hn, hi => by have := hi.am; have := hi.mb; omega
  | n + 1, l, a, m, b, w, hn, hi => by
    have h1 := hi.am
    have h2 := hi.mb
    by_cases hm : m = a + 1
    · subst hm
      exact symMerge_one B v l ix a b w hi
    by_cases hb : b = m + 1
    · subst hb
      exact symMerge_last B v l ix a m w hi (by omega)
    exact symMerge_far B v l ix a m b w hi (by omega) (by omega) fun l' a' m' b' W h h' => symMerge_any B v ix n l' a' m' b' W (by omega) h'
end Go.Proofs.YtpfohfihkmjnaaaGreatDoor
namespace Go.Proofs.YtpfohfihkmjnaaaGreatDoor
open Go.RowKit Go.Sort Go.Lib Go.Shelf
theorem Stb.Mrg.map {α β : Type} {lt : α → α → Bool} {ix : α → Nat} (f : β → α) {l l' : List β} {a b : Nat} (h : Stb.Mrg (fun x y => lt (f x) (f y)) (fun x => ix (f x)) l l' a b) : Stb.Mrg lt ix (l.map f) (l'.map f) a b := by
  refine ⟨⟨h.1.perm.map f, fun i hi => by rw [List.getElem?_map, List.getElem?_map, h.1.out i hi], fun i x h1 h2 hx => ?_⟩, fun i j x y h1 h2 h3 hx hy => ?_⟩
  · rw [List.getElem?_map, Option.map_eq_some_iff] at hx
    obtain ⟨z, hz, rfl⟩ := hx
    obtain ⟨k, k1, k2, k3⟩ := h.1.inn i z h1 h2 hz
    exact ⟨k, k1, k2, by rw [List.getElem?_map, k3]; rfl⟩
  · rw [List.getElem?_map, Option.map_eq_some_iff] at hx hy
    obtain ⟨x, hx, rfl⟩ := hx
    obtain ⟨y, hy, rfl⟩ := hy
    exact h.2 i j x y h1 h2 h3 hx hy
set_option maxRecDepth 20000 in
theorem insG_any (B : Nat) (v : Value) (l : List (Gp × Nat)) (a b : Nat) (w : World) (ho : Own encQ 86 1 B w v l) (hB : B ≤ w.heap.size) (hn : l.length ≤ 100) (ht : TellsG w l) (hab : a ≤ b) (hbl : b ≤ l.length)
    (ix : Gp × Nat → Nat) (hix : ∀ i j x y, a ≤ i → i < j → j < b → l[i]? = some x → l[j]? = some y → ix x < ix y) :
    Calls Tryz.prog 129 #[v, .int .i64 a, .int .i64 b, fnPlan2] w (MergedG B v l ix a b w) := by
  by_cases hne : l = []
  case pos =>
    subst hne
    obtain rfl : b = 0 := by simpa using hbl
    obtain rfl : a = 0 := by omega
    have Ho := Lib.hid ho
    obtain ⟨av, cv, rfl, -, -⟩ := At.form' (ho.at encQ_enc)
    clear ho ht hix hbl
    simp only [List.length_nil]
    go_enter Tryz.func129, Tryz.ntmps129
    go_wp2_with fail
    go_loopw [8] (fun i wr => i = .int .i64 1 ∧ wr = w) (fun _ _ => 0)
    case atStart => exact ⟨by go_num, rfl⟩
    case round =>
      obtain ⟨rfl, rfl⟩ := hrel
      go_wp2_with fail
      go_end0
      exact ⟨rfl, [], ⟨Stb.Seg.refl _ _ _, Stb.Ord.one (by omega)⟩, Ho.out, TurnG.refl _ _⟩
  have hol := ho
  rcases ho.2 with ⟨rfl, h0⟩ | ⟨g, cap, cur, rfl, hbase, hb, h1, h2, h3, h4⟩
  · exact absurd (List.eq_nil_of_length_eq_zero h0) hne
  · have hlen := flat_ptG l
    obtain ⟨x0, hx0⟩ := List.exists_mem_of_ne_nil l hne
    haveI : Inhabited {x // x ∈ l} := ⟨⟨x0, hx0⟩⟩
    obtain ⟨d, hd⟩ : ∃ d : Array {x // x ∈ l}, d = l.attach.toArray := ⟨_, rfl⟩
    have hdl : d.toList.map (·.1) = l := by rw [hd]; exact List.attach_map_subtype_val l
    have hds : d.size = l.length := by rw [hd]; simp
    have hH : Holds (fun x : {x // x ∈ l} => ptG x.1) w g 0 d := by
      intro j hj
      have hj' : j < l.length := by omega
      refine ⟨?_, frozen_row hb⟩
      rw [cell_of_row w _ _ _ _ (0, 0) hb, Nat.zero_add]
      have e1 : (cur.toList.take (l.length * 1))[j]? = (l.map ptG)[j]? := by rw [h4, hlen]
      rw [List.getElem?_take_of_lt (by omega)] at e1
      rw [← Array.getElem?_toList, e1, List.getElem?_map, List.getElem?_eq_getElem hj']
      have e2 : d[j]!.1 = l[j] := by
        rw [getElem!_pos d j hj]
        simp [hd]
      simp [e2]
    have hcmp : CmpLays1 Tryz.prog 42 #[] (fun x : {x // x ∈ l} => ptG x.1) (fun x y => Lib.compareBytes x.1.1.part y.1.1.part) g 0 d.size w := by
      intro m os dk _ x y
      have hk : ∀ z : {x // x ∈ l}, (sortWorld (fun x : {x // x ∈ l} => ptG x.1) w g 0 m dk os).cell? ⟨z.1.2, 0, none⟩ = some (S z.1.1.part) := fun z => by
        obtain ⟨hz, o, hoo, hno⟩ := ht z.1 z.2
        have hlt := World.block_lt_of_cell? w _ hz
        have hne' : g ≠ z.1.2 := fun e => by
          subst e
          rw [hb] at hoo
          exact hno cur (Option.some.inj hoo).symm
        rw [← hz]
        unfold World.cell?
        rw [other_sorted1 _ _ hlt hne']
      refine (plan2_any x.1.2 y.1.2 x.1.1.part y.1.1.part _ (hk x) (hk y)).mono ?_
      rintro e w' ⟨rfl, q, rfl⟩
      exact ⟨rfl, q, #[], by rw [grow_empty]⟩
    have h := Any.insertionSortCmpFunc_s Tryz.insG (fun x : {x // x ∈ l} => ptG x.1) (fun x y => Lib.compareBytes x.1.1.part y.1.1.part) 42 #[] g 0 cap a b d d w w clo_plan2 hcmp ⟨fun _ => rfl, hH, (Array.getElem?_eq_some_iff.1 hb).1⟩ rfl (SW.start hH) hab (by omega) (by omega)
    rw [hds] at h
    refine h.mono ?_
    rintro e w' ⟨rfl, n, os, rfl⟩
    have hlt : (ltOf fun x y : {x // x ∈ l} => Lib.compareBytes x.1.1.part y.1.1.part) = fun x y => befG x.1 y.1 := by
      funext x y
      exact comp_bef _ _
    rw [hlt]
    have hway : Stb.Way (fun x y : {x // x ∈ l} => befG x.1 y.1) (fun x => ix x.1) := way_part (part := fun x : {x // x ∈ l} => x.1.1.part) (ix := fun x => ix x.1)
    have hat : ∀ (i : Nat) (x : {x // x ∈ l}), d.toList[i]? = some x → l[i]? = some x.1 := fun i x hx => by
      have e1 : (d.toList.map (·.1))[i]? = some x.1 := by rw [List.getElem?_map, hx]; rfl
      rwa [hdl] at e1
    have hm := Stb.insertion_seg hway d hab (by omega) (fun i j x y k1 k2 k3 hx hy => hix i j x.1 y.1 k1 k2 k3 (hat i x hx) (hat j y hy))
    obtain ⟨r, hr⟩ : ∃ r, Sort.insertionSort (fun x y : {x // x ∈ l} => befG x.1 y.1) d a b = r := ⟨_, rfl⟩
    rw [hr] at hm ⊢
    have hM := Stb.Mrg.map (lt := befG) (ix := ix) (fun x : {x // x ∈ l} => x.1) hm
    rw [hdl] at hM
    have hrs : r.size = l.length := by
      have := hm.1.perm.length_eq
      rw [Array.length_toList, Array.length_toList] at this
      omega
    refine ⟨rfl, r.toList.map (·.1), hM, ?_, (KeptBut.refl _ _).grown hol (grownBy_sorted1 _ _), (Below.refl B w).grown (grownBy_sorted1 _ _) hB (fun k hk => by cases hk; exact hbase), ?_⟩
    · refine Own.put encQ_enc (by simp [hrs]) hbase (heap_sorted1 _ _ hb) h1 h2 (by simp [putCells, h3]) ?_
      have := take_put1 (fun x : {x // x ∈ l} => ptG x.1) cur r (by rw [hrs, h3]; omega)
      rw [hrs] at this
      rw [Nat.mul_one, this, flat_ptG, List.map_map]
      rfl
    · simp [sortWorld]
/-- What a stable sort of groups by their parts leaves. -/
def SortedG (B : Nat) (v : Value) (l : List (Gp × Nat)) (ix : Gp × Nat → Nat) (w : World) (e : Ending) (w' : World) : Prop :=
  e = .returned (.tuple #[]) ∧ ∃ m, m.Perm l ∧ m.Pairwise (Stb.R befG ix) ∧ Own encQ 86 1 B w' v m ∧ KeptBut 86 w w' ∧ Below B w w'
set_option maxHeartbeats 1000000 in
set_option maxRecDepth 20000 in
theorem stableG_any (B : Nat) (v : Value) (l : List (Gp × Nat)) (w : World) (ho : Own encQ 86 1 B w v l) (hB : B ≤ w.heap.size) (hn : l.length ≤ 60) (ht : TellsG w l)
    (ix : Gp × Nat → Nat) (hix : l.Pairwise fun a b => ix a < ix b) :
    Calls Tryz.prog 91 #[v, .int .i64 (l.length : Int), fnPlan2] w (SortedG B v l ix w) := by
  have HI := Lib.hid (fun W (l' : List (Gp × Nat)) a b (h : Own encQ 86 1 B W v l') (hp : l'.Perm l) (ht : TurnG B w W) h1 h2 h3 => insG_any B v l' a b W h (Nat.le_trans hB ht.2.2) (by rw [hp.length_eq]; omega) (((show TellsG w l from ‹_›).kept ht.1).perm hp) h1 h2 ix h3)
  have HM := Lib.hid (fun W (l' : List (Gp × Nat)) a m b (h : Own encQ 86 1 B W v l') (hp : l'.Perm l) (htu : TurnG B w W) (h1 : a < m) (h2 : m < b) (h3 : b ≤ l'.length) (h4 : Stb.Ord befG ix l' a m ∧ Stb.Ord befG ix l' m b ∧ Stb.Low ix l' a m b) =>
    symMerge_any B v ix (b - a) l' a m b W (Nat.le_refl _) ⟨h, Nat.le_trans hB htu.2.2, by rw [hp.length_eq]; omega, (ht.kept htu.1).perm hp, h1, h2, h3, h4.1, h4.2.1, h4.2.2⟩)
  have HS := Lib.hid (Stb.Srt.start (lt := befG) 20 hix)
  have HX : Hid (∀ i j x y, i < j → l[i]? = some x → l[j]? = some y → ix x < ix y) := Lib.hid fun i j x y h1 hx hy => by
    obtain ⟨i1, i2⟩ := List.getElem?_eq_some_iff.1 hx
    obtain ⟨j1, j2⟩ := List.getElem?_eq_some_iff.1 hy
    have := List.pairwise_iff_getElem.1 hix i j i1 j1 h1
    rwa [i2, j2] at this
  have Ho := Lib.hid ho
  obtain ⟨av, cv, rfl, -, -⟩ := At.form' (ho.at encQ_enc)
  clear ho ht hix
  go_enter Tryz.func91, Tryz.ntmps91
  go_wp2_with fail
  go_loopw [7, 8] (fun va vb wr => ∃ (a : Nat) (m : List (Gp × Nat)), va = .int .i64 a ∧ vb = .int .i64 ((a : Int) + 20) ∧ a ≤ l.length ∧ Hid (20 ∣ a) ∧ Hid (Stb.Srt befG ix l m 20 a) ∧ Hid (Own encQ 86 1 B wr (.slice av l.length cv) m) ∧ Hid (TurnG B w wr)) (fun va _ _ => l.length - (intOf va).toNat)
  case atStart => exact ⟨0, l, rfl, rfl, Nat.zero_le _, Lib.hid (Nat.dvd_zero _), HS, Ho, Lib.hid (TurnG.refl _ _)⟩
  case round =>
    obtain ⟨a, m, rfl, rfl, hal, hd, hs, hom, htu⟩ := hrel
    obtain ⟨wo, rfl⟩ : ∃ wo, wo = wr := ⟨wr, rfl⟩
    have hml : Hid (m.length = l.length) := Lib.hid hs.out.perm.length_eq
    have hin : ∀ b i j x y, a ≤ i → i < j → j < b → m[i]? = some x → m[j]? = some y → ix x < ix y := fun b i j x y h1 h2 h3 hx hy => HX.out i j x y h2 (by rw [← hs.out.same i h1]; exact hx) (by rw [← hs.out.same j (by omega)]; exact hy)
    by_cases hlt : a + 20 ≤ l.length
    case pos =>
      have HC := Lib.hid (HI.out wo m a (a + 20) hom.out hs.out.perm htu.out (by omega) (by have := hml.out; omega) (hin _))
      clear hin
      have g1 : (a : Int) + 20 ≤ (l.length : Int) := by omega
      go_wp2_with fail
      refine HC.out.mono ?_
      rintro e w1 ⟨rfl, m2, h1, h2, h3⟩
      have H1 := Lib.hid (hs.out.step hd.out (by omega) (.inl rfl) hlt h1)
      have H2 := Lib.hid h2
      have H3 := Lib.hid (htu.out.trans h3)
      clear h1 h2 h3
      go_wp2_with fail
      go_roundw
      case rel => exact ⟨a + 20, m2, by go_num, by go_num, by omega, Lib.hid (by have := hd.out; omega), H1, H2, H3⟩
      case measure => simp [intOf]; omega
    have g1 : decide ((a : Int) + 20 ≤ (l.length : Int)) = false := by simp; omega
    have HC := Lib.hid (HI.out wo m a l.length hom.out hs.out.perm htu.out hal (by rw [hml.out]; exact Nat.le_refl _) (hin _))
    clear hin
    go_wp2_with fail
    refine HC.out.mono ?_
    rintro e w1 ⟨rfl, m2, h1, h2, h3⟩
    have H1 := Lib.hid ((hs.out.step hd.out hal (.inr ⟨rfl, by omega⟩) (Nat.le_refl _) h1).bys (Nat.le_refl _))
    have H2 := Lib.hid h2
    have H3 := Lib.hid (htu.out.trans h3)
    clear h1 h2 h3 hs hom htu hml HC
    go_wp2_with fail
    go_loopw [6, 7, 8, 9] (fun vs _ _ _ wr => ∃ (s : Nat) (m : List (Gp × Nat)), vs = .int .i64 s ∧ (s = 20 ∨ s = 40 ∨ s = 80) ∧ Hid (Stb.Bys befG ix l m s) ∧ Hid (Own encQ 86 1 B wr (.slice av l.length cv) m) ∧ Hid (TurnG B w wr)) (fun vs _ _ _ _ => 100 - (intOf vs).toNat)
    case atStart => exact ⟨20, m2, rfl, .inl rfl, H1, H2, H3⟩
    case round =>
      obtain ⟨s, m, rfl, hs, hby, hom, htu⟩ := hrel
      obtain ⟨wo, rfl⟩ : ∃ wo, wo = wr := ⟨wr, rfl⟩
      by_cases hlt : s < l.length
      case neg =>
        have g2 : decide ((s : Int) < (l.length : Int)) = false := by simp; omega
        have hw := Lib.hid (hby.out.whole (by omega))
        go_wp2_with fail
        go_end0
        exact ⟨rfl, m, hw.out.1, hw.out.2, hom.out, htu.out.1, htu.out.2.1⟩
      have hs2 : s = 20 ∨ s = 40 := by omega
      have hs3 : 20 ≤ s ∧ s ≤ 40 := by omega
      have HS2 := Lib.hid hs2
      have HG := Lib.hid (hby.out.start hs2)
      have g2 : (s : Int) < (l.length : Int) := by omega
      clear hs hs2
      go_wp2_with fail
      go_loopw [7, 8] (fun va vb wr => ∃ (a : Nat) (m : List (Gp × Nat)), va = .int .i64 a ∧ vb = .int .i64 ((a : Int) + 2 * (s : Int)) ∧ a ≤ l.length ∧ Hid (2 * s ∣ a) ∧ Hid (Stb.Mgd befG ix l m s a) ∧ Hid (Own encQ 86 1 B wr (.slice av l.length cv) m) ∧ Hid (TurnG B w wr)) (fun va _ _ => l.length - (intOf va).toNat)
      case atStart => exact ⟨0, m, rfl, by go_num, Nat.zero_le _, Lib.hid (Nat.dvd_zero _), HG, hom, htu⟩
      case round =>
        obtain ⟨a, n, rfl, rfl, hal, hd, hg, hon, htn⟩ := hrel
        obtain ⟨wi, rfl⟩ : ∃ wi, wi = wr := ⟨wr, rfl⟩
        have hnl : Hid (n.length = l.length) := Lib.hid hg.out.perm.length_eq
        by_cases hin : a + 2 * s ≤ l.length
        case pos =>
          have g3 : (a : Int) + 2 * (s : Int) ≤ (l.length : Int) := by omega
          have HC := Lib.hid (HM.out wi n a (a + s) (a + 2 * s) hon.out hg.out.perm htn.out (by omega) (by omega) (by have := hnl.out; omega) (hg.out.pre HS2.out hd.out (by omega) (by omega) hin))
          rw [show ((a + s : Nat) : Int) = (a : Int) + (s : Int) by omega, show ((a + 2 * s : Nat) : Int) = (a : Int) + 2 * (s : Int) by omega] at HC
          go_wp2_with fail
          refine HC.out.mono ?_
          rintro e w2 ⟨rfl, n2, h1, h2, h3⟩
          have K1 := Lib.hid (hg.out.step HS2.out hd.out hin h1)
          have K2 := Lib.hid h2
          have K3 := Lib.hid (htn.out.trans h3)
          clear h1 h2 h3
          go_wp2_with fail
          go_roundw
          case rel => exact ⟨a + 2 * s, n2, by go_num, by go_num, by omega, Lib.hid (by have := hd.out; have := HS2.out; rcases this with rfl | rfl <;> omega), K1, K2, K3⟩
          case measure => simp [intOf]; omega
        have g3 : decide ((a : Int) + 2 * (s : Int) ≤ (l.length : Int)) = false := by simp; omega
        by_cases hlast : a + s < l.length
        case pos =>
          have g4 : (a : Int) + (s : Int) < (l.length : Int) := by omega
          have HC := Lib.hid (HM.out wi n a (a + s) l.length hon.out hg.out.perm htn.out (by omega) hlast (by rw [hnl.out]; exact Nat.le_refl _) (hg.out.pre HS2.out hd.out hlast (by omega) (Nat.le_refl _)))
          rw [show ((a + s : Nat) : Int) = (a : Int) + (s : Int) by omega] at HC
          go_wp2_with fail
          refine HC.out.mono ?_
          rintro e w2 ⟨rfl, n2, h1, h2, h3⟩
          have K1 := Lib.hid (hg.out.last HS2.out hd.out (by omega) hal (.inl ⟨hlast, h1⟩))
          have K2 := Lib.hid h2
          have K3 := Lib.hid (htn.out.trans h3)
          clear h1 h2 h3
          go_wp2_with fail
          go_roundw
          case rel => exact ⟨2 * s, n2, by go_num, by have := HS2.out; omega, K1, K2, K3⟩
          case measure => simp [intOf]; omega
        have g4 : decide ((a : Int) + (s : Int) < (l.length : Int)) = false := by simp; omega
        have K1 := Lib.hid (hg.out.last HS2.out hd.out (by omega) hal (.inr ⟨hlast, rfl⟩))
        go_wp2_with fail
        go_roundw
        case rel => exact ⟨2 * s, n, by go_num, by have := HS2.out; omega, K1, hon, htn⟩
        case measure => simp [intOf]; omega
theorem sortStableG_any (B : Nat) (v : Value) (l : List (Gp × Nat)) (w : World) (ho : Own encQ 86 1 B w v l) (hB : B ≤ w.heap.size) (hn : l.length ≤ 60) (ht : TellsG w l)
    (ix : Gp × Nat → Nat) (hix : l.Pairwise fun a b => ix a < ix b) :
    Calls Tryz.prog 41 #[v, fnPlan2] w (SortedG B v l ix w) := by
  have HI := Lib.hid (stableG_any B v l w ho hB hn ht ix hix)
  obtain ⟨av, cv, rfl, -, -⟩ := At.form' (ho.at encQ_enc)
  clear ho ht hix
  go_enter Tryz.func41, Tryz.ntmps41
  go_wp2_with fail
  refine HI.out.mono ?_
  rintro e w1 ⟨rfl, hres⟩
  have HR := Lib.hid hres
  clear hres
  go_wp2_with fail
  go_end0
  exact ⟨rfl, HR.out⟩
end Go.Proofs.YtpfohfihkmjnaaaGreatDoor
namespace Go.Proofs.YtpfohfihkmjnaaaGreatDoor
open Go.RowKit
abbrev SlV := Option Addr × Nat × Nat
abbrev slV (x : SlV) : Value := .slice x.1 x.2.1 x.2.2
abbrev encV (x : SlV) : List Value := [.slice x.1 x.2.1 x.2.2]
theorem encV_enc : Enc encV 1 := fun x => ⟨rfl, by simp [Value.oneCell']⟩
def ListsAt (w : World) (v : Value) (ls : List (List Str)) : Prop :=
  ∃ xs : List SlV, xs.length = ls.length ∧ At encV 1 w v xs ∧ ∀ (k : Nat) (x : SlV) (l : List Str), xs[k]? = some x → ls[k]? = some l → StrsAt w (slV x) l
theorem ListsAt.below {w w' : World} {v : Value} {ls : List (List Str)} (h : ListsAt w v ls) (hb : Below w.heap.size w w') : ListsAt w' v ls := by
  obtain ⟨xs, h1, h2, h3⟩ := h
  exact ⟨xs, h1, h2.below hb, fun k x l hx hl => (h3 k x l hx hl).below hb⟩
theorem ListsAt.nil (w : World) : ListsAt w (.slice none 0 0) [] := ⟨[], rfl, At.nil _ _ _, fun _ _ _ h => (by simp at h)⟩
end Go.Proofs.YtpfohfihkmjnaaaGreatDoor
namespace Go.Proofs.YtpfohfihkmjnaaaGreatDoor
open Go.RowKit
theorem right_inj {l : List Fl} (h : RightL l) {f g : Fl} (hf : f ∈ l) (hg : g ∈ l) (e : f.path = g.path) : f = g := by
  obtain ⟨i, hi, rfl⟩ := List.getElem_of_mem hf
  obtain ⟨j, hj, rfl⟩ := List.getElem_of_mem hg
  rcases Nat.lt_trichotomy i j with h' | h' | h'
  · have := List.pairwise_iff_getElem.1 h.ris i j hi hj h'
    rw [e] at this; omega
  · subst h'; rfl
  · have := List.pairwise_iff_getElem.1 h.ris j i hj hi h'
    rw [e] at this; omega
end Go.Proofs.YtpfohfihkmjnaaaGreatDoor
namespace Go.Proofs.YtpfohfihkmjnaaaGreatDoor
open Go.RowKit
/-- A group, by its files. -/
def mkG (fs : List Fl) : Gp := ⟨(fs.head?.map (·.part)).getD [], (fs.map (·.n)).sum, fs.map (·.path)⟩
def putF (f : Fl) : List (List Fl) → List (List Fl)
  | [] => [[f]]
  | fs :: r => if fitsG f (mkG fs) then (fs ++ [f]) :: r else fs :: putF f r
theorem mkG_one (f : Fl) : mkG [f] = growG f ⟨f.part, 0, []⟩ := by simp [mkG, growG]
theorem mkG_snoc {fs : List Fl} {f : Fl} (h : fs ≠ []) : mkG (fs ++ [f]) = growG f (mkG fs) := by
  cases fs with
  | nil => exact absurd rfl h
  | cons a r => simp [mkG, growG, List.sum_append]; omega
structure GoodG (fs : List Fl) : Prop where
  ne : fs ≠ []
  part : ∀ f ∈ fs, f.part = (mkG fs).part
  n : (mkG fs).n ≤ 40
theorem putF_map {f : Fl} : ∀ {s : List (List Fl)}, (∀ fs ∈ s, GoodG fs) → (putF f s).map mkG = putG f (s.map mkG)
  | [], _ => by simp [putF, putG, mkG_one]
  | fs :: r, h => by
    unfold putF
    rw [List.map_cons]
    unfold putG
    split
    · rw [List.map_cons, mkG_snoc (h fs (by simp)).ne]
    · rw [List.map_cons, putF_map fun x hx => h x (by simp [hx])]
theorem mem_putF {f : Fl} {fs : List Fl} : ∀ {s : List (List Fl)}, fs ∈ putF f s → fs ∈ s ∨ fs = [f] ∨ ∃ gs ∈ s, fitsG f (mkG gs) = true ∧ fs = gs ++ [f]
  | [], h => .inr (.inl (by simpa [putF] using h))
  | gs :: r, h => by
    unfold putF at h
    split at h
    · rename_i hf
      rcases List.mem_cons.1 h with rfl | h
      · exact .inr (.inr ⟨gs, by simp, hf, rfl⟩)
      · exact .inl (by simp [h])
    · rcases List.mem_cons.1 h with rfl | h
      · exact .inl (by simp)
      · rcases mem_putF h with h | h | ⟨x, hx, h1, h2⟩
        · exact .inl (by simp [h])
        · exact .inr (.inl h)
        · exact .inr (.inr ⟨x, by simp [hx], h1, h2⟩)
theorem good_put {f : Fl} {s : List (List Fl)} (hs : ∀ fs ∈ s, GoodG fs) (hf : f.n ≤ 40) : ∀ fs ∈ putF f s, GoodG fs := fun fs h => by
  rcases mem_putF h with h | rfl | ⟨gs, h1, h2, rfl⟩
  · exact hs fs h
  · exact ⟨by simp, fun g hg => by simp [mkG] at hg ⊢; rw [hg], by simpa [mkG] using hf⟩
  · obtain ⟨a1, a2, a3⟩ := hs gs h1
    unfold fitsG at h2
    simp only [Bool.and_eq_true, beq_iff_eq, decide_eq_true_eq] at h2
    refine ⟨by simp, fun g hg => ?_, ?_⟩
    · rw [mkG_snoc a1]
      show g.part = (mkG gs).part
      rcases List.mem_append.1 hg with hg | hg
      · exact a2 g hg
      · rw [List.mem_singleton.1 hg]; exact h2.1.symm
    · rw [mkG_snoc a1]
      exact h2.2
theorem putF_perm {f : Fl} : ∀ (s : List (List Fl)), (putF f s).flatten.Perm (s.flatten ++ [f])
  | [] => by simp [putF]
  | fs :: r => by
    unfold putF
    split
    · rw [List.flatten_cons, List.flatten_cons, List.append_assoc, List.append_assoc]
      exact List.Perm.append_left _ List.perm_append_comm
    · rw [List.flatten_cons, List.flatten_cons, List.append_assoc]
      exact List.Perm.append_left _ (putF_perm r)
theorem fold_files : ∀ (m : List Fl) (s : List (List Fl)), (∀ fs ∈ s, GoodG fs) → (∀ f ∈ m, f.n ≤ 40) →
    (m.foldl (fun s f => putF f s) s).map mkG = m.foldl (fun gs f => putG f gs) (s.map mkG) ∧ (∀ fs ∈ m.foldl (fun s f => putF f s) s, GoodG fs) ∧ (m.foldl (fun s f => putF f s) s).flatten.Perm (s.flatten ++ m)
  | [], s, h, _ => ⟨rfl, h, by simp⟩
  | f :: m, s, h, hm => by
    obtain ⟨h1, h2, h3⟩ := fold_files m (putF f s) (good_put h (hm f (by simp))) fun x hx => hm x (by simp [hx])
    refine ⟨?_, h2, ?_⟩
    · rw [List.foldl_cons, List.foldl_cons, h1, putF_map h]
    · refine h3.trans ?_
      have := (putF_perm (f := f) s).append_right m
      rwa [List.append_assoc] at this
def filesG (least : Int) (l : List Fl) : List (List Fl) := (l.filter (smallF least)).foldl (fun s f => putF f s) []
theorem groups_files {l : List Fl} (least : Int) (h : ∀ f ∈ l, f.n ≤ 40) : groupsG least l = (filesG least l).map mkG ∧ (∀ fs ∈ filesG least l, GoodG fs) ∧ (filesG least l).flatten.Perm (l.filter (smallF least)) := by
  obtain ⟨h1, h2, h3⟩ := fold_files (l.filter (smallF least)) [] (fun _ h => (by cases h)) fun f hf => h f (List.mem_filter.1 hf).1
  exact ⟨h1.symm, h2, h3⟩
/-- The plan, by files. -/
def planF (least : Int) (l : List Fl) : List (List Fl) := (partsF l).flatMap fun p => (filesG least l).filter fun fs => ((mkG fs).part == p) && decide (1 < fs.length)
theorem planAll_files {l : List Fl} (least : Int) (h : ∀ f ∈ l, f.n ≤ 40) : planAll l least = (planF least l).map fun fs => fs.map (·.path) := by
  unfold planAll planF
  rw [List.map_flatMap]
  refine flatMap_same fun p _ => ?_
  unfold ofPart
  rw [(groups_files least h).1, List.filter_map, List.filter_map, List.map_map, List.filter_filter]
  congr 1
  refine List.filter_congr fun fs _ => ?_
  simp only [Function.comp_def, manyG, mkG, List.length_map]
  rw [Bool.and_comm]
theorem parts_perm {α : Type} {part : α → Str} {l : List α} : ∀ {ps : List Str}, ps.Nodup → (ps.flatMap fun p => l.filter fun x => part x == p).Perm (l.filter fun x => decide (part x ∈ ps))
  | [], _ => by simp
  | p :: ps, h => by
    obtain ⟨h1, h2⟩ := List.nodup_cons.1 h
    rw [List.flatMap_cons]
    have ih := (parts_perm (part := part) (l := l) h2).append_left (l.filter fun x => part x == p)
    refine ih.trans ?_
    have e1 : (l.filter fun x => part x == p) = (l.filter fun x => decide (part x ∈ p :: ps)).filter fun x => part x == p := by
      rw [List.filter_filter]
      refine List.filter_congr fun x _ => ?_
      by_cases hx : part x = p <;> simp [hx]
    have e2 : (l.filter fun x => decide (part x ∈ ps)) = (l.filter fun x => decide (part x ∈ p :: ps)).filter fun x => !(part x == p) := by
      rw [List.filter_filter]
      refine List.filter_congr fun x _ => ?_
      by_cases hx : part x = p
      · rw [hx]; simp [h1]
      · simp [hx]
    rw [e1, e2]
    exact List.filter_append_perm _ _
theorem upS_nodup {ps : List Str} (h : upS ps) : ps.Nodup := h.imp fun {a b} hab e => by
  rw [e] at hab
  rw [bef_irr] at hab
  cases hab
theorem mkG_mem {fs : List Fl} (h : GoodG fs) : ∃ f ∈ fs, f.part = (mkG fs).part := by
  cases fs with
  | nil => exact absurd rfl h.ne
  | cons a r => exact ⟨a, by simp, h.part a (by simp)⟩
theorem flatten_sub {α : Type} {p : List α → Bool} : ∀ (s : List (List α)), (s.filter p).flatten.Sublist s.flatten
  | [] => by simp
  | a :: s => by
    rw [List.filter_cons]
    split
    · rw [List.flatten_cons, List.flatten_cons]
      exact (List.Sublist.refl a).append (flatten_sub s)
    · rw [List.flatten_cons]
      exact (flatten_sub s).trans (List.sublist_append_right _ _)
/-- What a plan is, in a right list. -/
theorem planF_facts {l : List Fl} (least : Int) (h : RightL l) : (∀ fs ∈ planF least l, GoodG fs ∧ 2 ≤ fs.length ∧ ∀ f ∈ fs, f ∈ l ∧ smallF least f = true) ∧ (planF least l).flatten.Nodup := by
  have h40 : ∀ f ∈ l, f.n ≤ 40 := fun f hf => (check_near (h.ok f hf)).2.2.2.2
  obtain ⟨-, g2, g3⟩ := groups_files least h40
  have hmem : ∀ fs ∈ filesG least l, ∀ f ∈ fs, f ∈ l ∧ smallF least f = true := fun fs hfs f hf => by
    have := g3.mem_iff.1 (List.mem_flatten.2 ⟨fs, hfs, hf⟩)
    exact ⟨(List.mem_filter.1 this).1, (List.mem_filter.1 this).2⟩
  refine ⟨fun fs hfs => ?_, ?_⟩
  · obtain ⟨p, -, hin⟩ := List.mem_flatMap.1 hfs
    obtain ⟨h1, h2⟩ := List.mem_filter.1 hin
    simp only [Bool.and_eq_true, decide_eq_true_eq] at h2
    exact ⟨g2 fs h1, by omega, hmem fs h1⟩
  · have hnl : l.Nodup := h.ris.imp fun {a b} hab e => by rw [e] at hab; omega
    have hn1 : (filesG least l).flatten.Nodup := g3.nodup_iff.2 (hnl.sublist List.filter_sublist)
    have hp : (planF least l).Perm ((filesG least l).filter fun fs => decide (1 < fs.length)) := by
      have := parts_perm (part := fun fs => (mkG fs).part) (l := (filesG least l).filter fun fs => decide (1 < fs.length)) (upS_nodup (partsF_up l))
      have e : (partsF l).flatMap (fun p => ((filesG least l).filter fun fs => decide (1 < fs.length)).filter fun x => (mkG x).part == p) = planF least l := by
        unfold planF
        refine flatMap_same fun p _ => ?_
        rw [List.filter_filter]
      rw [e] at this
      refine this.trans (List.Perm.of_eq (List.filter_eq_self.2 fun fs hfs => ?_))
      have hfs1 := (List.mem_filter.1 hfs).1
      obtain ⟨f, hf, e⟩ := mkG_mem (g2 fs hfs1)
      obtain ⟨hl, hs⟩ := hmem fs hfs1 f hf
      unfold smallF at hs
      simp only [Bool.and_eq_true, Bool.not_eq_true'] at hs
      rw [← e]
      exact decide_eq_true (mem_partsF.2 ⟨f, hl, hs.1, rfl⟩)
    exact hp.flatten.nodup_iff.2 (hn1.sublist (flatten_sub _))
end Go.Proofs.YtpfohfihkmjnaaaGreatDoor
