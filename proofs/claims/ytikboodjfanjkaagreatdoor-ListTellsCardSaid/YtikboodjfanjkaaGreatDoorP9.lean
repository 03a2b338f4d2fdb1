/- The document's answer on lists: FindOf, Without, PruneOf, Placed: the walks. The document's answer on lists: ListFault, ListText: the walks. deedboxref1.Cut, InInts; deedboxref2.IDsText: the walks. The document's answer on files and lists: ReadFile, ReadList, AddOf, RemoveOf: the walks. -/
import Derived.Test.YtikboodjfanjkaaGreatDoorP8
import Derived.Test.YtikboodjfanjkaaGreatDoorP5
import Derived.Test.YtikboodjfanjkaaGreatDoorP7
import Derived.Deep.RegionHeld3
import Derived.Test.YtikboodjfanjkaaGreatDoorP3
namespace Go.Proofs.YtikboodjfanjkaaGreatDoor
open Go.RowKit

theorem right_mid' {l : List Fl} (h : RightL l) : ∀ x ∈ l, midF x := fun x hx => by
  have := fileLine_len (h.ok x hx)
  unfold fileLine at this
  simp only [List.length_append, List.length_cons] at this
  exact ⟨by omega, by omega⟩
set_option maxRecDepth 20000 in
theorem findOf_any (v : Value) (l : List Fl) (p : Str) (w : World) (hl : FilesAt w v l) :
    Calls Tryz.prog 44 #[v, S p] w fun e w' => e = .returned (.int .i64 (findV l p)) ∧ w = w' := by
  obtain ⟨a, c, b, o, rfl, ha, hc, hcm, hx⟩ := hl
  unfold maxLen at hcm
  have hfi : findV l p = idxVal (fun f : Fl => f.path == p) l := rfl
  have HFi := Lib.hid hfi; clear hfi
  go_enter Tryz.func44, Tryz.ntmps44
  go_wp2_with fail
  go_loop [5] (fun i => ∃ k : Nat, k ≤ l.length ∧ i = .int .i64 k ∧ Hid (∀ (j : Nat) (y : Fl), j < k → l[j]? = some y → (y.path == p) = false)) (fun i => l.length - (intOf i).toNat)
  case atStart => exact ⟨0, by omega, rfl, Lib.hid fun j y hj => absurd hj (by omega)⟩
  case round =>
    obtain ⟨k, hk, rfl, hj⟩ := hrel
    by_cases hlt : k < l.length
    case neg =>
      have HN : Hid (findV l p = -1) := Lib.hid (by rw [HFi.out]; exact idxVal_none fun j y hy => hj.out j y (by have := (List.getElem?_eq_some_iff.1 hy).1; omega) hy)
      have f : decide ((k : Int) < (l.length : Int)) = false := by simp; omega
      go_wp2_with fail
      go_ret
      exact ⟨by rw [HN.out]; rfl, rfl⟩
    obtain ⟨x, hxk⟩ := get_ex hlt
    obtain ⟨c0, -⟩ := flCells hx (Below.refl _ _) hxk
    have i1 := idx_at (c := c) 6 Tryz.underlying28 szFl ha k hlt
    have hk1 : (k : Int) < (l.length : Int) := by omega
    have Hx := Lib.hid hxk; clear hxk
    by_cases he : x.path = p
    · have g : (x.path == p) = true := by simpa using he
      have HN : Hid (findV l p = k) := Lib.hid (by rw [HFi.out]; exact idxVal_some Hx.out g hj.out)
      clear he
      go_wp2_with fail
      go_ret
      exact ⟨by rw [HN.out]; rfl, rfl⟩
    · have g : (x.path == p) = false := by simpa using he
      have G := Lib.hid g
      clear he
      go_wp2_with fail
      refine ⟨⟨k + 1, by omega, by go_num, Lib.hid fun j y hj' hy => by
        rcases Nat.lt_or_ge j k with h | h
        · exact hj.out j y h hy
        · obtain rfl : j = k := by omega
          rw [Hx.out] at hy; cases hy; exact G.out⟩, ?_⟩
      simp [intOf]; omega

theorem filter_take_snoc {l : List Fl} {k : Nat} {x : Fl} (p : Fl → Bool) (h : l[k]? = some x) : (l.take (k + 1)).filter p = (l.take k).filter p ++ if p x then [x] else [] := by
  rw [take_snoc' h, List.filter_append]
  cases hp : p x <;> simp [hp]
theorem filter_take_len {l : List Fl} {k : Nat} (p : Fl → Bool) (h : k ≤ l.length) : ((l.take k).filter p).length ≤ k := by
  have := List.length_filter_le p (l.take k)
  rw [List.length_take] at this; omega

set_option maxHeartbeats 1000000 in
set_option maxRecDepth 20000 in
theorem without_any (v : Value) (l : List Fl) (p : Str) (w : World) (hl : FilesAt w v l) (hn : l.length ≤ 100000) :
    Calls Tryz.prog 109 #[v, S p] w fun e w' => ∃ v', e = .returned v' ∧ FilesAt w' v' (dropF l p) ∧ Below w.heap.size w w' := by
  obtain ⟨a, c, b, o, rfl, ha, hc, hcm, hx⟩ := hl
  unfold maxLen at hcm
  have hd : dropF l p = l.filter (fun f => !(f.path == p)) := rfl
  have HD := Lib.hid hd; clear hd
  go_enter Tryz.func109, Tryz.ntmps109
  go_wp2_with fail
  go_loopw [5, 6] (fun u i wr => ∃ (k : Nat) (q : List Fl), k ≤ l.length ∧ i = .int .i64 k ∧ Hid (q = (l.take k).filter (fun f => !(f.path == p))) ∧ q.length ≤ k ∧ Own encF 50 6 w.heap.size wr u q ∧ Below w.heap.size w wr) (fun _ i _ => l.length - (intOf i).toNat)
  case atStart => exact ⟨0, [], by omega, rfl, Lib.hid rfl, by simp, Own.nil _ _ _ _ _, Below.refl _ _⟩
  case round =>
    obtain ⟨k, q, hk, rfl, hq, hql, ho, hb⟩ := hrel
    by_cases hlt : k < l.length
    case neg =>
      obtain rfl : k = l.length := by omega
      have f : decide ((l.length : Int) < (l.length : Int)) = false := by simp
      go_wp2_with fail
      go_ret
      exact ⟨_, rfl, by rw [HD.out, show l.filter (fun f => !(f.path == p)) = q by rw [hq.out, List.take_length]]; exact ho.at encF_enc, hb⟩
    obtain ⟨x, hxk⟩ := get_ex hlt
    obtain ⟨c0, c1, c2, c3, c4, c5⟩ := flCells hx hb hxk
    have i1 := idx_at (c := c) 6 Tryz.underlying28 szFl ha k hlt
    have hk1 : (k : Int) < (l.length : Int) := by omega
    have hsn := filter_take_snoc (fun f => !(f.path == p)) hxk
    rw [← hq.out] at hsn
    have HSn := Lib.hid hsn; clear hsn hxk
    by_cases he : x.path = p
    · have g : (x.path == p) = true := by simpa using he
      have HSn2 : Hid (q = (l.take (k + 1)).filter (fun f => !(f.path == p))) := Lib.hid (by rw [HSn.out]; simp [g])
      clear he HSn
      go_wp2_with fail
      go_roundw
      case rel => exact ⟨k + 1, q, by omega, by go_num, HSn2, by omega, ho, hb⟩
      case measure => simp [intOf]; omega
    · have g : (x.path == p) = false := by simpa using he
      have HSn2 : Hid (q ++ [x] = (l.take (k + 1)).filter (fun f => !(f.path == p))) := Lib.hid (by rw [HSn.out]; simp [g])
      clear he HSn
      go_wp2_with (at_builtin; refine wpList_app rfl _ _ _ rfl w.heap.size elFl _ q.length _ rfl (ho.alloc _) (.slice (some ⟨wr.heap.size, 0, none⟩) 1 1) 1 (encF x) rfl (src_one rfl rfl (by simp [Value.oneCell'])) (by unfold maxLen; omega) (by omega) (by have := hb.size; simp; omega) ?_; intro v' w2 hown hg _)
      go_roundw
      case rel => exact ⟨k + 1, q ++ [x], by omega, by go_num, HSn2, by simp; omega, Own.snoc hown, Bapp (hb.alloc hb.size _) (ho.alloc _) hg (Nat.le_refl _) (by have := hb.size; simp; omega)⟩
      case measure => simp [intOf]; omega

theorem prune_ways (f : Fl) (lo hi : Int) : (pruneP lo hi f = false ∧ ((f.lo < lo ∧ hi < f.hi ∧ lo ≤ hi) ∨ (f.lo < lo ∧ decide (hi < f.hi) = false ∧ lo ≤ f.hi) ∨ (decide (f.lo < lo) = false ∧ hi < f.hi ∧ f.lo ≤ hi) ∨ (decide (f.lo < lo) = false ∧ decide (hi < f.hi) = false ∧ f.lo ≤ f.hi))) ∨
    (pruneP lo hi f = true ∧ ((f.lo < lo ∧ hi < f.hi ∧ decide (lo ≤ hi) = false) ∨ (f.lo < lo ∧ decide (hi < f.hi) = false ∧ decide (lo ≤ f.hi) = false) ∨ (decide (f.lo < lo) = false ∧ hi < f.hi ∧ decide (f.lo ≤ hi) = false) ∨ (decide (f.lo < lo) = false ∧ decide (hi < f.hi) = false ∧ decide (f.lo ≤ f.hi) = false))) := by
  unfold pruneP
  simp only [decide_eq_true_eq, decide_eq_false_iff_not]
  omega
set_option maxHeartbeats 2000000 in
set_option maxRecDepth 20000 in
theorem pruneOf_any (v : Value) (l : List Fl) (lo hi : Int) (w : World) (hl : FilesAt w v l) (hn : l.length ≤ 100000) :
    Calls Tryz.prog 46 #[v, .int .i64 lo, .int .i64 hi] w fun e w' => ∃ v', e = .returned v' ∧ FilesAt w' v' (pruneL l lo hi) ∧ Below w.heap.size w w' := by
  obtain ⟨a, c, b, o, rfl, ha, hc, hcm, hx⟩ := hl
  unfold maxLen at hcm
  have hd : pruneL l lo hi = l.filter (fun f => !pruneP lo hi f) := rfl
  have HD := Lib.hid hd; clear hd
  go_enter Tryz.func46, Tryz.ntmps46
  go_wp2_with fail
  go_loopw [7, 8, 9, 10] (fun u i _ _ wr => ∃ (k : Nat) (q : List Fl), k ≤ l.length ∧ i = .int .i64 k ∧ Hid (q = (l.take k).filter (fun f => !pruneP lo hi f)) ∧ q.length ≤ k ∧ Own encF 50 6 w.heap.size wr u q ∧ Below w.heap.size w wr) (fun _ i _ _ _ => l.length - (intOf i).toNat)
  case atStart => exact ⟨0, [], by omega, rfl, Lib.hid rfl, by simp, Own.nil _ _ _ _ _, Below.refl _ _⟩
  case round =>
    obtain ⟨k, q, hk, rfl, hq, hql, ho, hb⟩ := hrel
    by_cases hlt : k < l.length
    case neg =>
      obtain rfl : k = l.length := by omega
      have f : decide ((l.length : Int) < (l.length : Int)) = false := by simp
      go_wp2_with fail
      go_ret
      exact ⟨_, rfl, by rw [HD.out, show l.filter (fun f => !pruneP lo hi f) = q by rw [hq.out, List.take_length]]; exact ho.at encF_enc, hb⟩
    obtain ⟨x, hxk⟩ := get_ex hlt
    obtain ⟨c0, c1, c2, c3, c4, c5⟩ := flCells hx hb hxk
    have i1 := idx_at (c := c) 6 Tryz.underlying28 szFl ha k hlt
    have hk1 : (k : Int) < (l.length : Int) := by omega
    have hsn := filter_take_snoc (fun f => !pruneP lo hi f) hxk
    rw [← hq.out] at hsn
    have HSn := Lib.hid hsn; clear hsn hxk
    rcases prune_ways x lo hi with ⟨hp, hw⟩ | ⟨hp, hw⟩
    · have HSn2 : Hid (q ++ [x] = (l.take (k + 1)).filter (fun f => !pruneP lo hi f)) := Lib.hid (by rw [HSn.out, hp]; simp)
      clear hp HSn
      rcases hw with ⟨g1, g2, g3⟩ | ⟨g1, g2, g3⟩ | ⟨g1, g2, g3⟩ | ⟨g1, g2, g3⟩
      all_goals
        go_wp2_with (at_builtin; refine wpList_app rfl _ _ _ rfl w.heap.size elFl _ q.length _ rfl (ho.alloc _) (.slice (some ⟨wr.heap.size, 0, none⟩) 1 1) 1 (encF x) rfl (src_one rfl rfl (by simp [Value.oneCell'])) (by unfold maxLen; omega) (by omega) (by have := hb.size; simp; omega) ?_; intro v' w2 hown hg _)
        go_roundw
        case rel => exact ⟨k + 1, q ++ [x], by omega, by go_num, HSn2, by simp; omega, Own.snoc hown, Bapp (hb.alloc hb.size _) (ho.alloc _) hg (Nat.le_refl _) (by have := hb.size; simp; omega)⟩
        case measure => simp [intOf]; omega
    · have HSn2 : Hid (q = (l.take (k + 1)).filter (fun f => !pruneP lo hi f)) := Lib.hid (by rw [HSn.out, hp]; simp)
      clear hp HSn
      rcases hw with ⟨g1, g2, g3⟩ | ⟨g1, g2, g3⟩ | ⟨g1, g2, g3⟩ | ⟨g1, g2, g3⟩
      all_goals
        go_wp2_with fail
        go_roundw
        case rel => exact ⟨k + 1, q, by omega, by go_num, HSn2, by omega, ho, hb⟩
        case measure => simp [intOf]; omega

/-- s[:k] of a slice. -/
theorem slice_to {P : Program} {t e : TypeId} {sz c n : Nat} (a : Option Addr) (ht : P.underlying t = some (.slice e)) (hsz : ∀ w, (sizeOf e).run P w = .ok sz w) (k : Nat) (hk : k ≤ n) (hc : n ≤ c) :
    ∀ W, (Instr.slice t (.slice a n c) none (some (.int .i64 (k : Int))) none).run P W = .ok (.slice a k c) W := by
  have h2 : (k : Int) ≤ (c : Int) := by omega
  have h3 : k ≤ c := by omega
  intro W
  cases a with
  | none => simp [Instr.slice, Instr.sliceBounds, run_underlying ht, hsz, go_sem, h2, h3]
  | some ad =>
    have h0 : ad.add 0 = ad := by unfold Addr.add; split <;> simp_all
    simp [Instr.slice, Instr.sliceBounds, run_underlying ht, hsz, go_sem, h2, h3, h0]
theorem placeF_first {f : Fl} : ∀ {l : List Fl} {k : Nat}, k ≤ l.length → (∀ (j : Nat) (g : Fl), j < k → l[j]? = some g → keyP g.path < keyP f.path) → (∀ g, l[k]? = some g → keyP f.path ≤ keyP g.path) → placeF f l = l.take k ++ f :: l.drop k
  | [], k, hk, _, _ => by
    obtain rfl : k = 0 := by simpa using hk
    rfl
  | g :: r, 0, _, _, h2 => by
    have := h2 g rfl
    unfold placeF
    rw [if_pos this]; rfl
  | g :: r, k + 1, hk, h1, h2 => by
    have h0 := h1 0 g (by omega) rfl
    have ih := placeF_first (f := f) (l := r) (k := k) (by simpa using hk) (fun j x hj hx => h1 (j + 1) x (by omega) hx) (fun x hx => h2 x hx)
    unfold placeF
    rw [if_neg (by omega), ih]; rfl
set_option maxHeartbeats 2000000 in
set_option maxRecDepth 20000 in
theorem placed_any (v : Value) (l : List Fl) (f : Fl) (w : World) (hl : FilesAt w v l) (hn : l.length ≤ 10000) (hs : ∀ x ∈ l, midF x) (hf : midF f) :
    Calls Tryz.prog 107 #[v, fileV f] w fun e w' => ∃ v', e = .returned v' ∧ FilesAt w' v' (placeF f l) ∧ Below w.heap.size w w' := by
  obtain ⟨a, c, b, o, rfl, ha, hc, hcm, hx⟩ := hl
  have hcmx : c ≤ maxLen := hcm
  unfold maxLen at hcm
  have hb0 : Below w.heap.size w (w.alloc (.cells #[S f.path, S f.part, .int .i64 f.n, .int .i64 f.lo, .int .i64 f.hi, .int .i64 f.seq] 50)) := (Below.refl _ _).alloc (Nat.le_refl _) _
  have CF := Lib.hid (fun w6 (h : Below (w.alloc (.cells #[S f.path, S f.part, .int .i64 f.n, .int .i64 f.lo, .int .i64 f.hi, .int .i64 f.seq] 50)).heap.size (w.alloc (.cells #[S f.path, S f.part, .int .i64 f.n, .int .i64 f.lo, .int .i64 f.hi, .int .i64 f.seq] 50)) w6) => fileCells (f := f) rfl h)
  have HS := Lib.hid hs; clear hs
  go_enter Tryz.func107, Tryz.ntmps107
  go_wp2_with fail
  generalize w.alloc (.cells #[S f.path, S f.part, .int .i64 f.n, .int .i64 f.lo, .int .i64 f.hi, .int .i64 f.seq] 50) = w0 at *
  go_loopw [5] (fun i wr => ∃ k : Nat, k ≤ l.length ∧ i = .int .i64 k ∧ Hid (∀ (j : Nat) (g : Fl), j < k → l[j]? = some g → keyP g.path < keyP f.path) ∧ Below w0.heap.size w0 wr) (fun i _ => l.length - (intOf i).toNat)
  case atStart => exact ⟨0, by omega, rfl, Lib.hid fun j y hj => absurd hj (by omega), Below.refl _ _⟩
  case round =>
    obtain ⟨k, hk, rfl, hj, hb⟩ := hrel
    have hbw := hb0.trans (hb.mono hb0.size)
    have hstop : (k = l.length ∧ True) ∨ (k < l.length ∧ ∃ x, l[k]? = some x ∧ ((decide (0 < cmpP f.path x.path) = true ∧ keyP x.path < keyP f.path) ∨ (decide (0 < cmpP f.path x.path) = false ∧ keyP f.path ≤ keyP x.path))) := by
      by_cases hlt : k < l.length
      · obtain ⟨x, hxk⟩ := get_ex hlt
        refine .inr ⟨hlt, x, hxk, ?_⟩
        have := @cmpP_le f.path x.path
        simp only [decide_eq_true_eq, decide_eq_false_iff_not]
        omega
      · exact .inl ⟨by omega, trivial⟩
    have hfirst : (k = l.length ∨ ∃ x, l[k]? = some x ∧ keyP f.path ≤ keyP x.path) → placeF f l = l.take k ++ f :: l.drop k := fun h =>
      placeF_first hk hj.out fun g hg => by
        rcases h with h | ⟨x, h1, h2⟩
        · rw [List.getElem?_eq_none (by omega)] at hg; cases hg
        · rw [h1] at hg; cases hg; exact h2
    have HFirst := Lib.hid hfirst; clear hfirst
    have hsl1 := slice_to (P := Tryz.prog) (c := c) (n := l.length) a Tryz.underlying28 szFl k hk hc
    have hlt1 : (l.take k).length = k := by rw [List.length_take]; omega
    have hld1 : (l.drop k).length = l.length - k := List.length_drop
    have hdrop : ∃ a2 c2', (∀ W, (Instr.slice 28 (.slice a l.length c) (some (.int .i64 (k : Int))) none none).run Tryz.prog W = .ok (.slice a2 (l.length - k) c2') W) ∧ FilesAt w (.slice a2 (l.length - k) c2') (l.drop k) := by
      rcases Nat.eq_zero_or_pos l.length with h0 | h0
      · have hk0 : k = 0 := by omega
        subst hk0
        refine ⟨a, c, fun W => ?_, ⟨a, c, b, o, by rw [List.length_drop], fun h => absurd h (by rw [List.length_drop]; omega), by rw [List.length_drop]; omega, hcmx, fun j y hj => absurd (List.getElem?_eq_some_iff.1 hj).1 (by rw [List.length_drop]; omega)⟩⟩
        have h3 : (0 : Int) ≤ (c : Int) := by omega
        cases a with
        | none => simp [Instr.slice, Instr.sliceBounds, run_underlying Tryz.underlying28, szFl, go_sem, h0]
        | some ad =>
          have h0' : ad.add 0 = ad := by unfold Addr.add; split <;> simp_all
          simp [Instr.slice, Instr.sliceBounds, run_underlying Tryz.underlying28, szFl, go_sem, h0, h0']
      · obtain ⟨b', o', c', h1, h2⟩ := slice_from (enc := encF) (sz := 6) Tryz.underlying28 szFl ha hc hcmx hx k hk h0
        exact ⟨_, c', h1, h2⟩
    have HDrop := Lib.hid hdrop; clear hdrop
    rcases hstop with ⟨h1, -⟩ | ⟨hlt, x, hxk, ⟨hc1, hc2⟩ | ⟨hc1, hc2⟩⟩
    · have HPl := Lib.hid (HFirst.out (.inl h1))
      have fk : decide (k < l.length) = false := by simp; omega
      have hbW := hbw; have hb0W := hb
      clear h1 hj HFirst
      have hat1 : FilesAt wr (.slice a k c) (l.take k) := ⟨a, c, b, o, by rw [hlt1], fun h => ha (by rw [hlt1] at h; omega), by rw [hlt1]; omega, hcmx, fun j y hj u z hz => by
        have hj2 : j < k := by
          rcases Nat.lt_or_ge j k with h | h
          · exact h
          · rw [List.getElem?_eq_none (by rw [hlt1]; omega)] at hj; cases hj
        rw [List.getElem?_take_of_lt hj2] at hj
        have h1 := hx j y hj u z hz
        exact (hbW.cell (World.block_lt_of_cell? w _ h1)).trans h1⟩
      have hsrc1 := hat1.src encF_enc (by decide)
      rw [hlt1] at hsrc1
      obtain ⟨a2, c2', hrun2, hat2⟩ := HDrop.out
      have Hat2 := Lib.hid hat2
      have HRun2 := Lib.hid hrun2
      have HLT := Lib.hid hlt1; have HLD := Lib.hid hld1
      clear hat1 hat2 hrun2 hlt1 hld1
      have hr2 := HRun2.out
      go_wp2_with (first
        | (at_builtin; refine wpList_app rfl _ _ _ rfl w.heap.size elFl (.slice none 0 0) 0 [] rfl (Own.nil encF _ 6 _ _) _ _ _ rfl hsrc1 (by unfold maxLen; omega) (by omega) hbW.size ?_; intro v1 w2 hown1 hg1 _; have hown1' : Own encF 50 6 w.heap.size w2 v1 (l.take k) := (by unfold Own; rw [HLT.out]; simpa using hown1); have hb2 : Below w.heap.size w w2 := hbW.grown hg1 hbW.size (fun k hk => by cases hk); have hb02 : Below w0.heap.size w0 w2 := hb0W.grown hg1 hb0W.size (fun k hk => by cases hk); obtain ⟨c0, c1, c2, c3, c4, c5⟩ := CF.out _ hb02; clear hown1 hg1 hsrc1)
        | (at_builtin; refine wpList_app rfl _ _ _ rfl w.heap.size elFl v1 (l.take k).length _ rfl (hown1'.alloc _) (.slice (some ⟨w2.heap.size, 0, none⟩) 1 1) 1 (encF f) rfl (src_one rfl rfl (by simp [Value.oneCell'])) (by rw [HLT.out]; unfold maxLen; omega) (by rw [HLT.out]; omega) (by have := hb2.size; simp; omega) ?_; intro v2 w3 hown2 hg2 _; have hown2' := Own.snoc hown2; have hb3 : Below w.heap.size w w3 := (Bapp (hb2.alloc hb2.size _) (hown1'.alloc _) hg2 (Nat.le_refl _) (by have := hb2.size; simp; omega)); have hsrc3 := (Hat2.out.below hb3).src encF_enc (by decide); rw [HLD.out] at hsrc3; have hl3 : (l.take k ++ [f]).length = k + 1 := (by rw [List.length_append, HLT.out]; rfl); have HL3 := Lib.hid hl3; clear hown2 hg2 c0 c1 c2 c3 c4 c5 hl3)
        | (at_builtin; refine wpList_app rfl _ _ _ rfl w.heap.size elFl v2 (l.take k ++ [f]).length _ rfl hown2' _ _ _ rfl hsrc3 (by rw [HL3.out]; unfold maxLen; omega) (by rw [HL3.out]; omega) hb3.size ?_; intro v3 w4 hown3 hg3 _))
      have hown3' : Own encF 50 6 w.heap.size w4 v3 (placeF f l) := by
        rw [HPl.out, show l.take k ++ f :: l.drop k = (l.take k ++ [f]) ++ l.drop k by simp]
        unfold Own
        rw [List.length_append, List.flatMap_append, HLD.out]
        exact hown3
      have hb4 := Bapp hb3 hown2' hg3 (Nat.le_refl _) hb3.size
      go_ret
      exact ⟨_, rfl, hown3'.at encF_enc, hb4⟩
    · obtain ⟨c0, -⟩ := flCells hx hbw.drew hxk
      have p0 := (CF.out _ hb.drew).1
      have i1 := idx_at (c := c) 6 Tryz.underlying28 szFl ha k hlt
      have hk1 : (k : Int) < (l.length : Int) := by omega
      have hC := fun W => isBehind_any f.path x.path W hf.1 (HS.out x (List.mem_of_getElem? hxk)).1
      simp only [hc1] at hC
      have HC := Lib.hid hC; have HX := Lib.hid hxk; have HC2 := Lib.hid hc2
      clear hC hc1 hc2 hxk HFirst HDrop hsl1
      go_wp2_with fail
      go_region_held3 (fun w' => w'.cell? ⟨w.heap.size, 0, none⟩ = some (S f.path) ∧ w'.cell? ⟨b, o + k * 6, none⟩ = some (S x.path)) (exact ⟨p0, c0⟩) (first | (go_at_call 90; (with_reducible refine (HC.out _).mono ?_); rintro e w2 ⟨rfl, rfl⟩))
      go_wp2_with fail
      go_roundw
      case rel => exact ⟨k + 1, by omega, by go_num, (Lib.hid fun j g hj' hg => by
        rcases Nat.lt_or_ge j k with h | h
        · exact hj.out j g h hg
        · obtain rfl : j = k := by omega
          rw [HX.out] at hg; cases hg; exact HC2.out), hb.drew⟩
      case measure => simp [intOf]; omega
    · have HPl := Lib.hid (HFirst.out (.inr ⟨x, hxk, hc2⟩))
      obtain ⟨c0, -⟩ := flCells hx hbw.drew hxk
      have p0 := (CF.out _ hb.drew).1
      have i1 := idx_at (c := c) 6 Tryz.underlying28 szFl ha k hlt
      have hk1 : (k : Int) < (l.length : Int) := by omega
      have hC := fun W => isBehind_any f.path x.path W hf.1 (HS.out x (List.mem_of_getElem? hxk)).1
      simp only [hc1] at hC
      have HC := Lib.hid hC
      clear hC hc1 hc2 hxk HFirst
      go_wp2_with fail
      go_region_held3 (fun w' => w'.cell? ⟨w.heap.size, 0, none⟩ = some (S f.path) ∧ w'.cell? ⟨b, o + k * 6, none⟩ = some (S x.path)) (exact ⟨p0, c0⟩) (first | (go_at_call 90; (with_reducible refine (HC.out _).mono ?_); rintro e w2 ⟨rfl, rfl⟩))
      have hbW := hbw.drew; have hb0W := hb.drew
      clear hj p0 c0 i1
      have hat1 : FilesAt wr.drew (.slice a k c) (l.take k) := ⟨a, c, b, o, by rw [hlt1], fun h => ha (by rw [hlt1] at h; omega), by rw [hlt1]; omega, hcmx, fun j y hj u z hz => by
        have hj2 : j < k := by
          rcases Nat.lt_or_ge j k with h | h
          · exact h
          · rw [List.getElem?_eq_none (by rw [hlt1]; omega)] at hj; cases hj
        rw [List.getElem?_take_of_lt hj2] at hj
        have h1 := hx j y hj u z hz
        exact (hbW.cell (World.block_lt_of_cell? w _ h1)).trans h1⟩
      have hsrc1 := hat1.src encF_enc (by decide)
      rw [hlt1] at hsrc1
      obtain ⟨a2, c2', hrun2, hat2⟩ := HDrop.out
      have Hat2 := Lib.hid hat2
      have HRun2 := Lib.hid hrun2
      have HLT := Lib.hid hlt1; have HLD := Lib.hid hld1
      clear hat1 hat2 hrun2 hlt1 hld1
      have hr2 := HRun2.out
      go_wp2_with (first
        | (at_builtin; refine wpList_app rfl _ _ _ rfl w.heap.size elFl (.slice none 0 0) 0 [] rfl (Own.nil encF _ 6 _ _) _ _ _ rfl hsrc1 (by unfold maxLen; omega) (by omega) hbW.size ?_; intro v1 w2 hown1 hg1 _; have hown1' : Own encF 50 6 w.heap.size w2 v1 (l.take k) := (by unfold Own; rw [HLT.out]; simpa using hown1); have hb2 : Below w.heap.size w w2 := hbW.grown hg1 hbW.size (fun k hk => by cases hk); have hb02 : Below w0.heap.size w0 w2 := hb0W.grown hg1 hb0W.size (fun k hk => by cases hk); obtain ⟨c0, c1, c2, c3, c4, c5⟩ := CF.out _ hb02; clear hown1 hg1 hsrc1)
        | (at_builtin; refine wpList_app rfl _ _ _ rfl w.heap.size elFl v1 (l.take k).length _ rfl (hown1'.alloc _) (.slice (some ⟨w2.heap.size, 0, none⟩) 1 1) 1 (encF f) rfl (src_one rfl rfl (by simp [Value.oneCell'])) (by rw [HLT.out]; unfold maxLen; omega) (by rw [HLT.out]; omega) (by have := hb2.size; simp; omega) ?_; intro v2 w3 hown2 hg2 _; have hown2' := Own.snoc hown2; have hb3 : Below w.heap.size w w3 := (Bapp (hb2.alloc hb2.size _) (hown1'.alloc _) hg2 (Nat.le_refl _) (by have := hb2.size; simp; omega)); have hsrc3 := (Hat2.out.below hb3).src encF_enc (by decide); rw [HLD.out] at hsrc3; have hl3 : (l.take k ++ [f]).length = k + 1 := (by rw [List.length_append, HLT.out]; rfl); have HL3 := Lib.hid hl3; clear hown2 hg2 c0 c1 c2 c3 c4 c5 hl3)
        | (at_builtin; refine wpList_app rfl _ _ _ rfl w.heap.size elFl v2 (l.take k ++ [f]).length _ rfl hown2' _ _ _ rfl hsrc3 (by rw [HL3.out]; unfold maxLen; omega) (by rw [HL3.out]; omega) hb3.size ?_; intro v3 w4 hown3 hg3 _))
      have hown3' : Own encF 50 6 w.heap.size w4 v3 (placeF f l) := by
        rw [HPl.out, show l.take k ++ f :: l.drop k = (l.take k ++ [f]) ++ l.drop k by simp]
        unfold Own
        rw [List.length_append, List.flatMap_append, HLD.out]
        exact hown3
      have hb4 := Bapp hb3 hown2' hg3 (Nat.le_refl _) hb3.size
      go_ret
      exact ⟨_, rfl, hown3'.at encF_enc, hb4⟩
end Go.Proofs.YtikboodjfanjkaaGreatDoor
namespace Go.Proofs.YtikboodjfanjkaaGreatDoor
open Go.RowKit

theorem fault_cell {fn : Func} {p : Tmp} (h : fn.results = #[.cell p 59]) {tmps : Array Value} {w : World} {g : Nat} {c q : Int} (hp : tmps.getD p undef = .pointer (some ⟨g, 0, none⟩)) (hg : w.heap[g]? = some (.cells #[.int .i64 c, .int .i64 q] 59 (0, 0))) :
    (results fn tmps).run Tryz.prog w = .ok (faultV c q) w :=
  results_cell_row h _ _ g 59 #[.int .i64 c, .int .i64 q] (0, 0) _ hp hg Tryz.underlying59 rfl (by kernel_rfl)
theorem listCheck_few {l : List Fl} (h : ¬ 60 < l.length) : listCheck l = firstErr (fileFault l) l.length := if_neg h
theorem fileFault_bad {l : List Fl} {k : Nat} {x : Fl} (hx : l[k]? = some x) (h : checkF x ≠ 0) : fileFault l k = checkF x := by unfold fileFault; rw [hx]; simp only; rw [if_pos h]
theorem fileFault_zero {l : List Fl} {x : Fl} (hx : l[0]? = some x) (h : checkF x = 0) : fileFault l 0 = 0 := by unfold fileFault; rw [hx]; simp only; rw [if_neg (by simpa using h), if_neg (by simp)]
theorem fileFault_ord {l : List Fl} {k : Nat} {x y : Fl} (hx : l[k]? = some x) (h : checkF x = 0) (h0 : 0 < k) (hy : l[k - 1]? = some y) (hc : cmpP x.path y.path ≤ 0) : fileFault l k = 9 := by
  unfold fileFault; rw [hx]; simp only; rw [if_neg (by simpa using h), if_pos ⟨h0, y, hy, hc⟩]
theorem fileFault_fine {l : List Fl} {k : Nat} {x y : Fl} (hx : l[k]? = some x) (h : checkF x = 0) (hy : l[k - 1]? = some y) (hc : ¬ cmpP x.path y.path ≤ 0) : fileFault l k = 0 := by
  unfold fileFault; rw [hx]; simp only; rw [if_neg (by simpa using h), if_neg]
  rintro ⟨_, g, hg, hle⟩
  rw [hy] at hg; cases hg; exact hc hle

set_option maxHeartbeats 2000000 in
set_option maxRecDepth 20000 in
theorem listFault_any (v : Value) (l : List Fl) (w : World) (hl : FilesAt w v l) (hs : ∀ x ∈ l, midF x) :
    Calls Tryz.prog 31 #[v] w fun e w' => e = .returned (faultOf (listCheck l)) ∧ Below w.heap.size w w' := by
  obtain ⟨a, c, b, o, rfl, ha, hc, hcm, hx⟩ := hl
  unfold maxLen at hcm
  have hba := (Below.refl w.heap.size w).alloc (Nat.le_refl _) (.cells #[.int .i64 0, .int .i64 0] 59)
  have hG := fun W (h : Below (w.alloc (.cells #[.int .i64 0, .int .i64 0] 59)).heap.size (w.alloc (.cells #[.int .i64 0, .int .i64 0] 59)) W) => ((h.block w.heap.size (by simp)).trans (heap_alloc_new w (.cells #[.int .i64 0, .int .i64 0] 59)) : W.heap[w.heap.size]? = some (.cells #[.int .i64 0, .int .i64 0] 59 (0, 0)))
  have HG := Lib.hid hG; clear hG
  have HS := Lib.hid hs; clear hs
  by_cases h60 : 60 < l.length
  · have g60 : (60 : Int) < (l.length : Int) := by omega
    have hsp : listCheck l = .bare 8 := if_pos h60
    have Hl := Lib.hid hsp; clear h60 hsp
    go_enter Tryz.func31, Tryz.ntmps31
    go_wp2_with fail
    refine (refBare_any 8 _).mono ?_
    rintro e w1 ⟨rfl, hb⟩
    have hg := HG.out _ hb
    have c0 : w1.cell? ⟨w.heap.size, 0, none⟩ = some (.int .i64 0) := by simp [World.cell?, hg]
    have c1 : w1.cell? ⟨w.heap.size, 1, none⟩ = some (.int .i64 0) := by simp [World.cell?, hg]
    have f0 : w1.frozen? ⟨w.heap.size, 0, none⟩ = false := by simp [World.frozen?, hg]
    have f1 : w1.frozen? ⟨w.heap.size, 1, none⟩ = false := by simp [World.frozen?, hg]
    have HGg := Lib.hid hg; clear hg
    unfold faultV
    go_wp2_with fail
    refine bodyPost_ret (fault_cell (g := w.heap.size) rfl rfl (set_two HGg.out _ _)) rfl ⟨by rw [Hl.out]; rfl, ?_⟩
    exact ((hba.trans (hb.mono hba.size)).setCell (by simp) _).setCell (by simp) _
  have g60 : decide ((60 : Int) < (l.length : Int)) = false := by simp; omega
  have hspec := listCheck_few h60
  have HF := Lib.hid hspec; clear hspec h60
  go_enter Tryz.func31, Tryz.ntmps31
  go_wp2_with fail
  generalize w.alloc (.cells #[.int .i64 0, .int .i64 0] 59) = w0 at *
  go_loopw [3] (fun i wr => ∃ k : Nat, k ≤ l.length ∧ i = .int .i64 k ∧ Hid (∀ j < k, fileFault l j = 0) ∧ Below w0.heap.size w0 wr) (fun i _ => l.length - (intOf i).toNat)
  case atStart => exact ⟨0, by omega, rfl, Lib.hid fun j hj => absurd hj (by omega), Below.refl _ _⟩
  case round =>
    obtain ⟨k, hk, rfl, hj, hb⟩ := hrel
    have hbw : Below w.heap.size w wr := hba.trans (hb.mono hba.size)
    by_cases hlt : k < l.length
    case neg =>
      obtain rfl : k = l.length := by omega
      have f : decide ((l.length : Int) < (l.length : Int)) = false := by simp
      go_wp2_with fail
      refine (refFine_any _).mono ?_
      rintro e w1 ⟨rfl, hb1⟩
      have hg := HG.out _ (hb.trans (hb1.mono hb.size))
      have c0 : w1.cell? ⟨w.heap.size, 0, none⟩ = some (.int .i64 0) := by simp [World.cell?, hg]
      have c1 : w1.cell? ⟨w.heap.size, 1, none⟩ = some (.int .i64 0) := by simp [World.cell?, hg]
      have f0 : w1.frozen? ⟨w.heap.size, 0, none⟩ = false := by simp [World.frozen?, hg]
      have f1 : w1.frozen? ⟨w.heap.size, 1, none⟩ = false := by simp [World.frozen?, hg]
      have HGg := Lib.hid hg; clear hg
      unfold faultV
      go_wp2_with fail
      refine bodyPost_ret (fault_cell (g := w.heap.size) rfl rfl (set_two HGg.out _ _)) rfl ⟨by rw [HF.out, firstErr_all hj.out]; rfl, ?_⟩
      exact ((hbw.trans (hb1.mono hbw.size)).setCell (by simp) _).setCell (by simp) _
    obtain ⟨x, hxk⟩ := get_ex hlt
    have CX := Lib.hid (fun W (h : Below w.heap.size w W) => flCells hx h hxk)
    obtain ⟨c0, c1, c2, c3, c4, c5⟩ := CX.out _ hbw
    have i1 := idx_at (c := c) 6 Tryz.underlying28 szFl ha k hlt
    have hk1 : (k : Int) < (l.length : Int) := by omega
    have hsx := HS.out x (List.mem_of_getElem? hxk)
    have hfe := fileError_any x wr hsx
    have HFe := Lib.hid hfe
    have Hx := Lib.hid hxk; clear hxk hfe
    by_cases hck : checkF x = 0
    case neg =>
      have hf := fileFault_bad Hx.out hck
      have HL : Hid (listCheck l = .loc (checkF x) k) := Lib.hid (HF.out.trans ((firstErr_hit hlt hj.out (by rw [hf]; exact hck)).trans (by rw [hf])))
      have g1 : (((checkF x : Nat) : Int) == 0) = false := by simpa using hck
      have g2 : (0 : Int) < ((checkF x : Nat) : Int) := by omega
      clear hf hck
      generalize checkF x = cx at *
      go_wp2_with fail
      refine HFe.out.mono ?_
      rintro e w1 ⟨rfl, hb1⟩
      have hg := HG.out _ (hb.trans (hb1.mono hb.size))
      clear c0 c1 c2 c3 c4 c5
      have c0 : w1.cell? ⟨w.heap.size, 0, none⟩ = some (.int .i64 0) := by simp [World.cell?, hg]
      have c1 : w1.cell? ⟨w.heap.size, 1, none⟩ = some (.int .i64 0) := by simp [World.cell?, hg]
      have f0 : w1.frozen? ⟨w.heap.size, 0, none⟩ = false := by simp [World.frozen?, hg]
      have f1 : w1.frozen? ⟨w.heap.size, 1, none⟩ = false := by simp [World.frozen?, hg]
      have HGg := Lib.hid hg; clear hg
      go_wp2_with fail
      refine bodyPost_ret (fault_cell (g := w.heap.size) rfl rfl (set_two HGg.out _ _)) rfl ⟨by rw [HL.out]; rfl, ?_⟩
      exact ((hbw.trans (hb1.mono hbw.size)).setCell (by simp) _).setCell (by simp) _
    have HK := Lib.hid hck
    rw [hck] at HFe
    clear hck
    by_cases h0 : k = 0
    · have gk : decide (0 < k) = false := by simp [h0]
      have Hf : Hid (fileFault l 0 = 0) := Lib.hid (fileFault_zero (h0 ▸ Hx.out) HK.out)
      have H0 := Lib.hid h0; clear h0
      go_wp2_with fail
      refine HFe.out.mono ?_
      rintro e w1 ⟨rfl, hb1⟩
      go_wp2_with fail
      go_roundw
      case rel => exact ⟨k + 1, by omega, by go_num, (Lib.hid fun j hj' => by
        obtain rfl : j = 0 := by have := H0.out; omega
        exact Hf.out), hb.trans (hb1.mono hb.size)⟩
      case measure => simp [intOf]; omega
    obtain ⟨y, hyk⟩ := get_ex (l := l) (k := k - 1) (by omega)
    have hsy := HS.out y (List.mem_of_getElem? hyk)
    have CY := Lib.hid (fun W (h : Below w.heap.size w W) => (flCells hx h hyk).1)
    have i2 := idx_at (c := c) 6 Tryz.underlying28 szFl ha (k - 1) (by omega)
    have hcast : ((k - 1 : Nat) : Int) = (k : Int) - 1 := by omega
    simp only [hcast] at i2
    have hk0 : 0 < k := by omega
    have gk : decide (0 < k) = true := decide_eq_true hk0
    have hk01 : (1 : Int) ≤ k := by omega
    have hk02 : (0 : Int) ≤ (k : Int) - 1 := by omega
    have hk03 : (k : Int) - 1 < l.length := by omega
    have hwk : IntKind.i64.wrap ((k : Int) - 1) = (k : Int) - 1 := by rw [IntKind.wrap_i64]; omega
    have hfo := fun h => fileFault_ord Hx.out HK.out hk0 hyk h
    have hff := fun h => fileFault_fine Hx.out HK.out hyk h
    have HOrd := Lib.hid hfo; have HFF := Lib.hid hff
    clear hfo hff hcast hyk h0
    have hC := fun W => isBehind_any x.path y.path W hsx.1 hsy.1
    obtain ⟨cv, hcv⟩ : ∃ cv, cmpP x.path y.path = cv := ⟨_, rfl⟩
    rw [hcv] at hC HOrd HFF
    clear hcv
    go_wp2_with fail
    refine HFe.out.mono ?_
    rintro e w1 ⟨rfl, hb1⟩
    have hb1' := hb.trans (hb1.mono hb.size)
    have hbw1 := hbw.trans (hb1.mono hbw.size)
    clear c0 c1 c2 c3 c4 c5
    have p0 := (CX.out _ hbw1.drew).1
    have d0 := CY.out _ hbw1.drew
    by_cases hle : cv ≤ 0
    · have hf := HOrd.out hle
      have HL : Hid (listCheck l = .loc 9 k) := Lib.hid (HF.out.trans ((firstErr_hit hlt hj.out (by rw [hf]; decide)).trans (by rw [hf])))
      have hcc : decide (0 < cv) = false := by simp; omega
      simp only [hcc] at hC
      have HC := Lib.hid hC
      clear hf hC hcc hle
      go_wp2_with fail
      go_region_held3 (fun w' => w'.cell? ⟨b, o + k * 6, none⟩ = some (S x.path) ∧ w'.cell? ⟨b, o + (k - 1) * 6, none⟩ = some (S y.path)) (exact ⟨p0, d0⟩) (first | (go_at_call 90; refine (HC.out _).mono ?_; rintro e w2 ⟨rfl, rfl⟩))
      have hg := HG.out _ hb1'
      have c0 : w1.cell? ⟨w.heap.size, 0, none⟩ = some (.int .i64 0) := by simp [World.cell?, hg]
      have c1 : w1.cell? ⟨w.heap.size, 1, none⟩ = some (.int .i64 0) := by simp [World.cell?, hg]
      have f0 : w1.frozen? ⟨w.heap.size, 0, none⟩ = false := by simp [World.frozen?, hg]
      have f1 : w1.frozen? ⟨w.heap.size, 1, none⟩ = false := by simp [World.frozen?, hg]
      have HGg := Lib.hid hg; clear hg
      go_wp2_with fail
      refine bodyPost_ret (fault_cell (g := w.heap.size) rfl rfl (set_two (w := w1.drew) HGg.out _ _)) rfl ⟨by rw [HL.out]; rfl, ?_⟩
      exact ((hbw1.drew).setCell (by simp) _).setCell (by simp) _
    · have hf := HFF.out (by omega)
      have Hf := Lib.hid hf; clear hf
      have hcc : decide (0 < cv) = true := by simp; omega
      simp only [hcc] at hC
      have HC := Lib.hid hC
      clear hC hcc hle
      go_wp2_with fail
      go_region_held3 (fun w' => w'.cell? ⟨b, o + k * 6, none⟩ = some (S x.path) ∧ w'.cell? ⟨b, o + (k - 1) * 6, none⟩ = some (S y.path)) (exact ⟨p0, d0⟩) (first | (go_at_call 90; refine (HC.out _).mono ?_; rintro e w2 ⟨rfl, rfl⟩))
      go_wp2_with fail
      go_roundw
      case rel => exact ⟨k + 1, by omega, by go_num, (Lib.hid fun j hj' => by
        rcases Nat.lt_or_ge j k with h | h
        · exact hj.out j h
        · obtain rfl : j = k := by omega
          exact Hf.out), hb1'.drew⟩
      case measure => simp [intOf]; omega

set_option maxHeartbeats 1000000 in
set_option maxRecDepth 20000 in
theorem refListText_any (v : Value) (l : List Fl) (w : World) (hl : FilesAt w v l) (hr : RightL l) :
    Calls Tryz.prog 35 #[v] w fun e w' => e = .returned (S (listText l)) ∧ Below w.heap.size w w' := by
  obtain ⟨a, c, b, o, rfl, ha, hc, hcm, hx⟩ := hl
  unfold maxLen at hcm
  have hlen := hr.len
  have HR := Lib.hid hr; clear hr
  go_enter Tryz.func35, Tryz.ntmps35
  go_wp2_with fail
  go_loopw [3, 4] (fun t i wr => ∃ k : Nat, k ≤ l.length ∧ i = .int .i64 k ∧ t = S (listText (l.take k)) ∧ Below w.heap.size w wr) (fun _ i _ => l.length - (intOf i).toNat)
  case atStart => exact ⟨0, by omega, rfl, rfl, Below.refl _ _⟩
  case round =>
    obtain ⟨k, hk, rfl, rfl, hb⟩ := hrel
    have hl4 := listText_len (l := l.take k) (fun y hy => HR.out.ok y (List.mem_of_mem_take hy))
    have hl5 : (l.take k).length ≤ 60 := by rw [List.length_take]; omega
    have hl6 : (listText (l.take k)).length ≤ 9060 := by omega
    clear hl4 hl5
    by_cases hlt : k < l.length
    case neg =>
      obtain rfl : k = l.length := by omega
      rw [List.take_length]
      have f : decide ((l.length : Int) < (l.length : Int)) = false := by simp
      go_wp2_with fail
      go_ret
      exact ⟨rfl, hb⟩
    obtain ⟨x, hxk⟩ := get_ex hlt
    obtain ⟨c0, c1, c2, c3, c4, c5⟩ := flCells hx hb hxk
    have i1 := idx_at (c := c) 6 Tryz.underlying28 szFl ha k hlt
    have hk1 : (k : Int) < (l.length : Int) := by omega
    have hxm := List.mem_of_getElem? hxk
    have hck := HR.out.ok x hxm
    have hll := fileLine_len hck
    have hft := refFileText_any x wr (right_mid' HR.out x hxm) hck
    have HFt := Lib.hid hft
    have hsn : listText (l.take (k + 1)) = listText (l.take k) ++ (fileLine x ++ [10]) := by rw [take_snoc' hxk, listText_snoc]
    have HSn := Lib.hid hsn
    clear hsn hft hck hxm hxk
    generalize fileLine x = fx at *
    generalize listText (l.take k) = tx at *
    go_wp2_with fail
    refine HFt.out.mono ?_
    rintro e w1 ⟨rfl, hb1⟩
    go_wp2_with fail
    go_roundw
    case rel => exact ⟨k + 1, by omega, by go_num, by rw [HSn.out]; apply congrArg Value.string; apply ByteArray.ext; simp, hb.trans (hb1.mono hb.size)⟩
    case measure => simp [intOf]; omega
end Go.Proofs.YtikboodjfanjkaaGreatDoor
namespace Go.Proofs.YtikboodjfanjkaaGreatDoor
open Go.RowKit
attribute [local go_sem] bget bapp

theorem drop_cut {s : Str} {f k : Nat} (hf : f ≤ k) (hk : k < s.length) : s.drop f = (s.drop f).take (k - f) ++ s[k] :: s.drop (k + 1) := by
  have h1 : s.drop k = s[k] :: s.drop (k + 1) := List.drop_eq_getElem_cons hk
  have h2 : (s.drop f).drop (k - f) = s.drop k := by rw [List.drop_drop]; congr 1; omega
  rw [← h1, ← h2, List.take_append_drop]
theorem take_cut {s : Str} {f k : Nat} (hf : f ≤ k) (hk : k < s.length) : (s.drop f).take (k + 1 - f) = (s.drop f).take (k - f) ++ [s[k]] := by
  rw [show k + 1 - f = (k - f) + 1 by omega]
  refine take_snoc' ?_
  rw [List.getElem?_drop, show f + (k - f) = k by omega]; simp [hk]

set_option maxRecDepth 20000 in
set_option maxHeartbeats 400000 in
theorem refCut_any (s : Str) (c : UInt8) (w : World) (hs : s.length ≤ 100000) :
    Calls Tryz.prog 101 #[S s, .int .u8 c.toNat] w fun e w' => ∃ v', e = .returned v' ∧ Own encS 9 1 w.heap.size w' v' (cutAt c s) ∧ Below w.heap.size w w' := by
  go_enter Tryz.func101, Tryz.ntmps101
  go_wp2_with fail
  go_loopw [5, 6, 7] (fun o f i wr => ∃ (k m : Nat) (out : List Str), k ≤ s.length ∧ m ≤ k ∧ i = .int .i64 k ∧ f = .int .i64 m ∧ Hid (cutAt c s = out ++ cutAt c (s.drop m)) ∧ Hid (c ∉ (s.drop m).take (k - m)) ∧ out.length ≤ k ∧ Own encS 9 1 w.heap.size wr o out ∧ Below w.heap.size w wr) (fun _ _ i _ => s.length - (intOf i).toNat)
  case atStart => exact ⟨0, 0, [], by omega, by omega, rfl, rfl, rfl, by simp [Hid], by simp, Own.nil _ _ _ _ _, Below.refl _ _⟩
  case round =>
    obtain ⟨k, m, out, hk, hm, rfl, rfl, hcut, hno, hol, ho, hb⟩ := hrel
    have hmk : (m : Int) ≤ k := by omega
    have hks : (k : Int) ≤ s.length := by omega
    by_cases hlt : k < s.length
    · have hk1 : (k : Int) < s.length := by omega
      by_cases he : s[k] = c
      · have g1 : ((s[k].toNat : Int) == c.toNat) = true := by rw [he]; simp
        have hd := drop_cut hm hlt
        have hc2 : cutAt c s = (out ++ [(s.drop m).take (k - m)]) ++ cutAt c (s.drop (k + 1)) := by
          rw [hcut.out]
          have : cutAt c (s.drop m) = (s.drop m).take (k - m) :: cutAt c (s.drop (k + 1)) := by
            conv => lhs; rw [hd, he]
            exact cutAt_app hno.out
          rw [this]; simp
        have Hc := Lib.hid hc2
        clear he hd hc2
        go_wp2_with (at_builtin; refine wpList_app rfl _ _ _ rfl w.heap.size elStr _ out.length _ rfl (ho.alloc _) (.slice (some ⟨wr.heap.size, 0, none⟩) 1 1) 1 [.string ((ByteArray.mk s.toArray).extract m k)] rfl (src_one rfl rfl (by simp [Value.oneCell'])) (by unfold maxLen; omega) (by omega) (by have := hb.size; simp; omega) ?_; intro v' w2 hown hg _)
        rw [ByteArray.extract_mk] at hown
        go_roundw
        case rel => exact ⟨k + 1, k + 1, out ++ [(s.drop m).take (k - m)], by omega, by omega, by go_num, by go_num, Hc.out, by simp [Hid], by simp; omega, Own.snoc hown, Bapp (hb.alloc hb.size _) (ho.alloc _) hg (Nat.le_refl _) (by have := hb.size; simp; omega)⟩
        case measure => simp [intOf]; omega
      · have g1 : ((s[k].toNat : Int) == c.toNat) = false := by
          simp; intro h; apply he; apply UInt8.toNat_inj.1; exact Int.ofNat.inj h
        have hn2 : c ∉ (s.drop m).take (k + 1 - m) := by
          rw [take_cut hm hlt]; intro h
          rcases List.mem_append.1 h with h | h
          · exact hno.out h
          · exact he (List.mem_singleton.1 h).symm
        have Hn := Lib.hid hn2
        clear he hn2
        go_wp2_with fail
        go_roundw
        case rel => exact ⟨k + 1, m, out, by omega, by omega, by go_num, rfl, hcut, Hn, by omega, ho, hb⟩
        case measure => simp [intOf]; omega
    · obtain rfl : k = s.length := by omega
      have hc2 : cutAt c s = out ++ [s.drop m] := by
        have h := hno.out
        rw [List.take_of_length_le (by simp)] at h
        rw [hcut.out, cutAt_none h]
      have Hc := Lib.hid hc2
      clear hc2
      go_wp2_with (at_builtin; refine wpList_app rfl _ _ _ rfl w.heap.size elStr _ out.length _ rfl (ho.alloc _) (.slice (some ⟨wr.heap.size, 0, none⟩) 1 1) 1 [.string ((ByteArray.mk s.toArray).extract m s.length)] rfl (src_one rfl rfl (by simp [Value.oneCell'])) (by unfold maxLen; omega) (by omega) (by have := hb.size; simp; omega) ?_; intro v' w2 hown hg _)
      rw [extract_from] at hown
      go_ret
      exact ⟨_, rfl, by rw [Hc.out]; exact Own.snoc hown, Bapp (hb.alloc hb.size _) (ho.alloc _) hg (Nat.le_refl _) (by have := hb.size; simp; omega)⟩

theorem inInts_any (n : Int) (v : Value) (l : List Int) (w : World) (hl : IntsAt w v l) :
    Calls Tryz.prog 22 #[.int .i64 n, v] w fun e w' => e = .returned (.bool (decide (n ∈ l))) ∧ Below w.heap.size w w' := by
  obtain ⟨a, c, b, o, rfl, ha, hc, hcm, hx⟩ := hl
  unfold maxLen at hcm
  go_enter Tryz.func22, Tryz.ntmps22
  go_wp2_with fail
  go_loopw [5] (fun i wr => ∃ k : Nat, k ≤ l.length ∧ i = .int .i64 k ∧ Hid (∀ j < k, l[j]? ≠ some n) ∧ Below w.heap.size w wr) (fun i _ => l.length - (intOf i).toNat)
  case atStart => exact ⟨0, by omega, rfl, fun j hj => absurd hj (by omega), Below.refl _ _⟩
  case round =>
    obtain ⟨k, hk, rfl, hj, hb⟩ := hrel
    by_cases hlt : k < l.length
    · obtain ⟨x, hxk⟩ := get_ex hlt
      have c1 := hx k x hxk 0 _ rfl
      have c1 := (hb.cell (World.block_lt_of_cell? w _ c1)).trans c1
      have i1 := idx_at (c := c) 1 Tryz.underlying33 szInt ha k hlt
      have hk1 : (k : Int) < (l.length : Int) := by omega
      simp only [Nat.mul_one, Nat.add_zero] at c1 i1
      have Hx := Lib.hid hxk; clear hxk
      go_wp2_with fail
      · have he : x = n := by simpa using ‹(x == n) = true›
        go_ret
        exact ⟨ret_bool (decide_eq_true (by rw [← he]; exact List.mem_of_getElem? Hx.out)).symm, hb⟩
      · have hne' : x ≠ n := by simpa using ‹(x == n) = false›
        go_roundw
        case rel => exact ⟨k + 1, by omega, by go_num, (fun j hj' => by
          rcases Nat.lt_or_ge j k with h | h
          · exact hj.out j h
          · obtain rfl : j = k := by omega
            rw [Hx.out]; exact fun e => hne' (Option.some.inj e)), hb⟩
        case measure => simp [intOf]; omega
    · obtain rfl : k = l.length := by omega
      go_wp2_with fail
      go_ret
      refine ⟨ret_bool (decide_eq_false fun e => ?_).symm, hb⟩
      obtain ⟨j, hjl, hje⟩ := List.getElem_of_mem e
      exact hj.out j hjl (by simp [hjl, hje])

end Go.Proofs.YtikboodjfanjkaaGreatDoor
namespace Go.Proofs.YtikboodjfanjkaaGreatDoor
open Go.RowKit

theorem cut32_any (s : Str) (w : World) (hs : s.length ≤ 100000) :
    Calls Tryz.prog 101 #[S s, .int .u8 32] w fun e w' => ∃ v', e = .returned v' ∧ Own encS 9 1 w.heap.size w' v' (cutAt 32 s) ∧ Below w.heap.size w w' := refCut_any s 32 w hs
theorem cut10_any (s : Str) (w : World) (hs : s.length ≤ 100000) :
    Calls Tryz.prog 101 #[S s, .int .u8 10] w fun e w' => ∃ v', e = .returned v' ∧ Own encS 9 1 w.heap.size w' v' (cutAt 10 s) ∧ Below w.heap.size w w' := refCut_any s 10 w hs

abbrev z6 : Array Value := #[S [], S [], .int .i64 0, .int .i64 0, .int .i64 0, .int .i64 0]
set_option maxHeartbeats 1000000 in
set_option maxRecDepth 20000 in
theorem refReadFile_any (s : Str) (w : World) (hs : s.length ≤ 10000) :
    Calls Tryz.prog 102 #[S s] w fun e w' => e = .returned (.tuple #[fileV (fileRead s).1, .int .i64 ((fileRead s).2 : Nat)]) ∧ Below w.heap.size w w' := by
  have hwl : (cutAt 32 s).length ≤ 10001 := by
    have := cutAt_length 32 s
    have h2 : s.count 32 ≤ s.length := List.count_le_length
    omega
  have hwp : 0 < (cutAt 32 s).length := by rw [cutAt_length]; omega
  have hws : ∀ p ∈ cutAt 32 s, p.length ≤ 10000 := fun p hp => by
    have := cutAt_mem_len (c := 32) hp; omega
  have hba : Below w.heap.size w (w.alloc (.cells #[S [], S [], .int .i64 0, .int .i64 0, .int .i64 0, .int .i64 0] 50)) := (Below.refl _ _).alloc (Nat.le_refl _) _
  have hsp := cut32_any s (w.alloc (.cells #[S [], S [], .int .i64 0, .int .i64 0, .int .i64 0, .int .i64 0] 50)) (by omega)
  have hcs := fun w6 (h : Below (w.alloc (.cells #[S [], S [], .int .i64 0, .int .i64 0, .int .i64 0, .int .i64 0] 50)).heap.size (w.alloc (.cells #[S [], S [], .int .i64 0, .int .i64 0, .int .i64 0, .int .i64 0] 50)) w6) => fileCells (f := zeroF) rfl h
  have CZ := Lib.hid hcs; clear hcs
  have hhg := fun w6 (h : Below (w.alloc (.cells #[S [], S [], .int .i64 0, .int .i64 0, .int .i64 0, .int .i64 0] 50)).heap.size (w.alloc (.cells #[S [], S [], .int .i64 0, .int .i64 0, .int .i64 0, .int .i64 0] 50)) w6) => (h.block w.heap.size (by simp)).trans (heap_alloc_new w (.cells #[S [], S [], .int .i64 0, .int .i64 0, .int .i64 0, .int .i64 0] 50))
  have HG := Lib.hid hhg; clear hhg
  by_cases h6 : (cutAt 32 s).length = 6
  case neg =>
    have HF := Lib.hid (fileRead_none (fileOf_len h6))
    have g6 : (((cutAt 32 s).length : Int) != 6) = true := by simp; omega
    clear hws
    go_enter Tryz.func102, Tryz.ntmps102
    go_wp2_with fail
    generalize w.alloc (.cells #[S [], S [], .int .i64 0, .int .i64 0, .int .i64 0, .int .i64 0] 50) = w1 at *
    refine hsp.mono ?_
    rintro e w2 ⟨v', rfl, hown, hb2⟩
    have hb2' := hba.trans (hb2.mono hba.size)
    obtain ⟨g', cap, cur, rfl, -⟩ := hown.open hwp
    obtain ⟨c0, c1, c2, c3, c4, c5⟩ := CZ.out _ hb2
    have hg2 := HG.out _ hb2
    have fz : ∀ j, w2.frozen? ⟨w.heap.size, j, none⟩ = false := fun j => frozen_row hg2
    have f0 := fz 0; have f1 := fz 1; have f2 := fz 2; have f3 := fz 3; have f4 := fz 4; have f5 := fz 5
    have HGz := Lib.hid hg2
    clear fz hg2 hown
    generalize cutAt 32 s = W at *
    go_wp2_with fail
    refine bodyPost_ret (ret_row rfl _ _ w.heap.size 50 z6 (0, 0) _ rfl (six_new HGz.out _ _ _ _ _ _) Tryz.underlying50 rfl (by kernel_rfl)) rfl ⟨?_, six_below hb2' (Nat.le_refl _) _ _ _ _ _ _⟩
    rw [HF.out]; rfl
  obtain ⟨p, q, n1, n2, n3, n4, hW⟩ := six_strs h6
  rw [hW] at hsp hws
  have hfo : fileOf (cutAt 32 s) = match numsOf [n1, n2, n3, n4] with | some [n, lo, hi, seq] => some ⟨p, q, n, lo, hi, seq⟩ | _ => none := by rw [hW]; rfl
  have HFO := Lib.hid hfo; have HWS := Lib.hid hws
  clear hfo hws hW h6 hwl hwp
  go_enter Tryz.func102, Tryz.ntmps102
  go_wp2_with fail
  generalize w.alloc (.cells #[S [], S [], .int .i64 0, .int .i64 0, .int .i64 0, .int .i64 0] 50) = w1 at *
  refine hsp.mono ?_
  rintro e w2 ⟨v', rfl, hown, hb2⟩
  have hb2' := hba.trans (hb2.mono hba.size)
  obtain ⟨a', c', b', o', hv', ha', hc', hcm', hx'⟩ := hown.at encS_enc
  subst hv'
  obtain rfl := ha' (by simp)
  obtain ⟨b3, o3, c3, hrun, hat3⟩ := slice_from (enc := encS) (sz := 1) Tryz.underlying24 szStr ha' hc' hcm' hx' 2 (by simp) (by simp)
  have x0 := hx' 0 _ rfl 0 _ rfl
  have x1 := hx' 1 _ rfl 0 _ rfl
  simp only [List.length_cons, List.length_nil, Nat.zero_add, Nat.reduceAdd, Nat.reduceSub, Nat.mul_one, Nat.add_zero, List.drop_succ_cons, List.drop_zero] at hrun hat3 x0 x1
  have e2 : ((2 : Nat) : Int) = 2 := rfl
  rw [e2] at hrun
  clear ha' hx' hown hcm' e2 hsp
  have hl6 : [p, q, n1, n2, n3, n4].length = 6 := rfl
  rw [hl6] at hc' ⊢
  go_wp2_with fail
  refine (numbersOf_any _ [n1, n2, n3, n4] _ hat3 (by simp) (fun x hx => by have := HWS.out x (by simp at hx ⊢; rcases hx with h | h | h | h <;> simp [h]); omega)).mono ?_
  rintro e w3 ⟨v', rfl, hv1, hv2, hb3⟩
  have hb31 := hb2.trans (hb3.mono hb2.size)
  have hb3' := hb2'.trans (hb3.mono hb2'.size)
  have y0 := (hb3.cell (World.block_lt_of_cell? w2 _ x0)).trans x0
  have y1 := (hb3.cell (World.block_lt_of_cell? w2 _ x1)).trans x1
  clear hrun hat3 x0 x1 hl6
  cases hn : numsOf [n1, n2, n3, n4] with
  | none =>
    rw [hn] at hv2
    obtain rfl := hv2 rfl
    have HF := Lib.hid (fileRead_none (s := s) (by rw [HFO.out, hn]))
    clear hn hv1 hv2
    simp only [Option.isSome_none]
    obtain ⟨c0, c1, c2, c3, c4, c5⟩ := CZ.out _ hb31
    have hg2 := HG.out _ hb31
    have fz : ∀ j, w3.frozen? ⟨w.heap.size, j, none⟩ = false := fun j => frozen_row hg2
    have f0 := fz 0; have f1 := fz 1; have f2 := fz 2; have f3 := fz 3; have f4 := fz 4; have f5 := fz 5
    have HGz := Lib.hid hg2
    clear fz hg2
    go_wp2_with fail
    refine bodyPost_ret (ret_row rfl _ _ w.heap.size 50 z6 (0, 0) _ rfl (six_new HGz.out _ _ _ _ _ _) Tryz.underlying50 rfl (by kernel_rfl)) rfl ⟨?_, six_below hb3' (Nat.le_refl _) _ _ _ _ _ _⟩
    rw [HF.out]; rfl
  | some ns =>
    have hown := hv1 ns hn
    have hnl := mapM_len _ hn
    obtain ⟨m1, m2, m3, m4, rfl⟩ := four_ints (l := ns) (by simpa using hnl)
    have HF := Lib.hid (fileRead_some (s := s) (f := ⟨p, q, m1, m2, m3, m4⟩) (by rw [HFO.out, hn]))
    clear hn hv1 hv2 hnl
    simp only [Option.isSome_some]
    obtain ⟨a4, c4, b4, o4, hv4, ha4, hc4, hcm4, hx4⟩ := hown.at encI_enc
    subst hv4
    obtain rfl := ha4 (by simp)
    have z0 := hx4 0 _ rfl 0 _ rfl
    have z1 := hx4 1 _ rfl 0 _ rfl
    have z2 := hx4 2 _ rfl 0 _ rfl
    have z3 := hx4 3 _ rfl 0 _ rfl
    simp only [Nat.mul_one, Nat.add_zero] at z0 z1 z2 z3
    have hl4 : [m1, m2, m3, m4].length = 4 := rfl
    rw [hl4]
    clear hx4 hown ha4 hc4 hcm4 hl4
    have hks := fun w6 (h : Below w3.heap.size w3 w6) => (⟨(h.cell (World.block_lt_of_cell? w3 _ y0)).trans y0, (h.cell (World.block_lt_of_cell? w3 _ y1)).trans y1, (h.cell (World.block_lt_of_cell? w3 _ z0)).trans z0, (h.cell (World.block_lt_of_cell? w3 _ z1)).trans z1, (h.cell (World.block_lt_of_cell? w3 _ z2)).trans z2, (h.cell (World.block_lt_of_cell? w3 _ z3)).trans z3⟩ : _ ∧ _ ∧ _ ∧ _ ∧ _ ∧ _)
    have KS := Lib.hid hks; clear hks
    go_wp2_with fail
    go_region_held3 (fun w' => w'.cell? ⟨b', o', none⟩ = some (S p) ∧ w'.cell? ⟨b', o' + 1, none⟩ = some (S q) ∧ w'.cell? ⟨b4, o4, none⟩ = some (.int .i64 m1) ∧ w'.cell? ⟨b4, o4 + 1, none⟩ = some (.int .i64 m2) ∧ w'.cell? ⟨b4, o4 + 2, none⟩ = some (.int .i64 m3) ∧ w'.cell? ⟨b4, o4 + 3, none⟩ = some (.int .i64 m4)) (first | exact ⟨y0, y1, z0, z1, z2, z3⟩ | exact KS.out _ (((Below.refl _ _).alloc (Nat.le_refl _) _).drew) | exact KS.out _ ((Below.refl _ _).drew.alloc (Nat.le_refl _) _)) (fail)
    have hb4 : Below w3.heap.size w3 (w3.alloc (.cells #[S p, S q, .int .i64 m1, .int .i64 m2, .int .i64 m3, .int .i64 m4] 50)).drew := ((Below.refl _ _).alloc (Nat.le_refl _) _).drew
    have CF := Lib.hid (fun w6 (h : Below (w3.alloc (.cells #[S p, S q, .int .i64 m1, .int .i64 m2, .int .i64 m3, .int .i64 m4] 50)).heap.size (w3.alloc (.cells #[S p, S q, .int .i64 m1, .int .i64 m2, .int .i64 m3, .int .i64 m4] 50)).drew w6) => fileCells (f := ⟨p, q, m1, m2, m3, m4⟩) rfl (((Below.refl _ _).drew).trans h))
    have hsz : (w3.alloc (.cells #[S p, S q, .int .i64 m1, .int .i64 m2, .int .i64 m3, .int .i64 m4] 50)).heap.size = (w3.alloc (.cells #[S p, S q, .int .i64 m1, .int .i64 m2, .int .i64 m3, .int .i64 m4] 50)).drew.heap.size := rfl
    rw [hsz] at CF
    generalize (w3.alloc (.cells #[S p, S q, .int .i64 m1, .int .i64 m2, .int .i64 m3, .int .i64 m4] 50)).drew = w4 at *
    have hb4' := hb3'.trans (hb4.mono hb3'.size)
    have hb41 := hb31.trans (hb4.mono hb31.size)
    obtain ⟨c0, c1, c2, c3, c4, c5⟩ := CF.out w4 (Below.refl _ _)
    clear y0 y1 z0 z1 z2 z3 hsz
    go_wp2_with fail
    refine (fileError_any ⟨p, q, m1, m2, m3, m4⟩ _ ⟨by have := HWS.out p (by simp); show p.length ≤ _; omega, by have := HWS.out q (by simp); show q.length ≤ _; omega⟩).mono ?_
    rintro e w5 ⟨rfl, hb5⟩
    have hb5' := hb4'.trans (hb5.mono hb4'.size)
    have hb51 := hb41.trans (hb5.mono hb41.size)
    have hg2 := HG.out _ hb51
    have fz : ∀ j, w5.frozen? ⟨w.heap.size, j, none⟩ = false := fun j => frozen_row hg2
    have f0 := fz 0; have f1 := fz 1; have f2 := fz 2; have f3 := fz 3; have f4 := fz 4; have f5 := fz 5
    have HGz := Lib.hid hg2
    obtain ⟨d0, d1, d2, d3, d4, d5⟩ := CZ.out _ hb51
    clear c0 c1 c2 c3 c4 c5 fz hg2
    obtain ⟨c0, c1, c2, c3, c4, c5⟩ := CF.out w5 hb5
    by_cases hck : checkF ⟨p, q, m1, m2, m3, m4⟩ = 0
    case neg =>
      have HR : Hid (fileRead s = (zeroF, checkF ⟨p, q, m1, m2, m3, m4⟩)) := Lib.hid (by rw [HF.out, if_neg hck])
      have g1 : (0 : Int) < ((checkF ⟨p, q, m1, m2, m3, m4⟩ : Nat) : Int) := by omega
      clear hck
      generalize checkF ⟨p, q, m1, m2, m3, m4⟩ = ce at *
      go_wp2_with fail
      refine bodyPost_ret (ret_row rfl _ _ w.heap.size 50 z6 (0, 0) _ rfl (six_new HGz.out _ _ _ _ _ _) Tryz.underlying50 rfl (by kernel_rfl)) rfl ⟨?_, six_below hb5' (Nat.le_refl _) _ _ _ _ _ _⟩
      rw [HR.out]; rfl
    have HR : Hid (fileRead s = (⟨p, q, m1, m2, m3, m4⟩, 0)) := Lib.hid (by rw [HF.out, if_pos hck])
    rw [hck]
    clear hck
    go_wp2_with fail
    refine bodyPost_ret (ret_row rfl _ _ w.heap.size 50 #[S p, S q, .int .i64 m1, .int .i64 m2, .int .i64 m3, .int .i64 m4] (0, 0) _ rfl (six_new HGz.out _ _ _ _ _ _) Tryz.underlying50 rfl (by kernel_rfl)) rfl ⟨?_, six_below hb5' (Nat.le_refl _) _ _ _ _ _ _⟩
    rw [HR.out]; rfl
end Go.Proofs.YtikboodjfanjkaaGreatDoor
