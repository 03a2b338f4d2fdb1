/- The document's answer on files: FileError, FileText, IsBehind, FindOf, ListFault, ListText: the walks. The document's answer on files: FileText: the walk. slices.BinarySearchFunc at []api.File; list.Find, Add, Remove. list.Add, list.Remove. slices.DeleteFunc, in plain words. Of no program. slices.DeleteFunc at []api.File; list.Prune. The document's answer on lists: FindOf, Without, PruneOf, Placed: the walks. deedboxref1.Cut, InInts; deedboxref2.IDsText: the walks. -/
import Derived.Test.YtefoaeamfkbgbaaGreatDoorP11
import Derived.Test.YtefoaeamfkbgbaaGreatDoorP4
import Derived.Test.YtefoaeamfkbgbaaGreatDoorP9
import Derived.Deep.RegionHeld3
import Derived.Deep.LoopGhost
import Derived.Test.YtefoaeamfkbgbaaGreatDoorP8
import Derived.Test.YtefoaeamfkbgbaaGreatDoorP10
import Derived.Test.YtefoaeamfkbgbaaGreatDoorP6
namespace Go.Proofs.YtefoaeamfkbgbaaGreatDoor
open Go.RowKit

/-- A file's fault, by its ways. -/
theorem fileErr_ways (f : Fl) : (pathF f.path = none ∧ checkF f = 5) ∨ (∃ n, pathF f.path = some (kGone, n) ∧ ((f.part ≠ [45] ∧ checkF f = 4) ∨ (f.part = [45] ∧ checkF f = if boundF f then 2 else 0))) ∨
    (∃ n, pathF f.path = some (kData, n) ∧ ((nameB f.part 12 = false ∧ checkF f = 4) ∨ (nameB f.part 12 = true ∧ checkF f = if boundF f then 2 else 0))) := by
  cases hp : pathF f.path with
  | none => exact .inl ⟨rfl, by unfold checkF; rw [if_pos hp]⟩
  | some kn =>
    obtain ⟨k, n⟩ := kn
    have hkf : kindF f.path = k := by unfold kindF; rw [hp]; rfl
    have hc : checkF f = if partOk k f.part = false then 4 else if boundF f then 2 else 0 := by
      unfold checkF; rw [hp, hkf, if_neg (by simp)]
    rcases (pathF_some hp).1 with rfl | rfl
    · refine .inr (.inr ⟨n, rfl, ?_⟩)
      rw [nameB_part (by decide)] at hc
      cases hb : nameB f.part 12 with
      | false => exact .inl ⟨rfl, by rw [hc, hb, if_pos rfl]⟩
      | true => exact .inr ⟨rfl, by rw [hc, hb, if_neg (by simp)]⟩
    · refine .inr (.inl ⟨n, rfl, ?_⟩)
      by_cases h : f.part = [45]
      · exact .inr ⟨h, by rw [hc, if_neg (by unfold partOk; rw [if_pos rfl, h]; decide)]⟩
      · exact .inl ⟨h, by rw [hc, if_pos (by unfold partOk; rw [if_pos rfl]; simpa using h)]⟩
theorem bound_ways (f : Fl) : (boundF f ∧ (f.n < 1 ∨ (decide (f.n < 1) = false ∧ (40 < f.n ∨ (decide (40 < f.n) = false ∧ (decide (farN f.lo) = true ∨ (decide (farN f.lo) = false ∧ (decide (farN f.hi) = true ∨ (decide (farN f.hi) = false ∧ (f.hi < f.lo ∨ (decide (f.hi < f.lo) = false ∧ (f.seq < 1 ∨ (decide (f.seq < 1) = false ∧ 1073741824 < f.seq))))))))))))) ∨
    (¬ boundF f ∧ decide (f.n < 1) = false ∧ decide (40 < f.n) = false ∧ decide (farN f.lo) = false ∧ decide (farN f.hi) = false ∧ decide (f.hi < f.lo) = false ∧ decide (f.seq < 1) = false ∧ decide (1073741824 < f.seq) = false) := by
  simp only [decide_eq_true_eq, decide_eq_false_iff_not]
  unfold boundF
  by_cases h1 : farN f.lo <;> by_cases h2 : farN f.hi <;> simp only [h1, h2, true_or, or_true, false_or, or_false, true_and, and_true, false_and, and_false, not_true_eq_false, not_false_eq_true] <;> omega

set_option maxHeartbeats 4000000 in
set_option maxRecDepth 20000 in
theorem fileError_any (f : Fl) (w : World) (hs : midF f) :
    Calls Tryz.prog 87 #[fileV f] w fun e w' => e = .returned (.int .i64 (checkF f : Nat)) ∧ Below w.heap.size w w' := by
  have hb0 : Below w.heap.size w (w.alloc (.cells #[S f.path, S f.part, .int .i64 f.n, .int .i64 f.lo, .int .i64 f.hi, .int .i64 f.seq] 44)) := (Below.refl _ _).alloc (Nat.le_refl _) _
  obtain ⟨c0, c1, c2, c3, c4, c5⟩ := fileCells (f := f) (w := w) rfl (Below.refl _ (w.alloc (.cells #[S f.path, S f.part, .int .i64 f.n, .int .i64 f.lo, .int .i64 f.hi, .int .i64 f.seq] 44)))
  have hP := fun W => pathOf_any f.path W hs.1
  have hNm := fun W => isName_any f.part 12 W hs.2
  have HNm := Lib.hid hNm
  clear hNm
  rcases fileErr_ways f with ⟨hp, hc⟩ | ⟨n, hp, hw⟩ | ⟨n, hp, hw⟩
  · rw [show pathE f.path = 5 by unfold pathE; rw [hp]; rfl, show kindF f.path = [] by unfold kindF; rw [hp]; rfl, show numF f.path = 0 by unfold numF; rw [hp]; rfl] at hP
    rw [hc]
    have HP := Lib.hid hP
    clear hP hc hp
    go_enter Tryz.func87, Tryz.ntmps87
    go_wp2_with (go_at_call 85; refine (HP.out _).mono ?_; rintro e w' ⟨rfl, rfl⟩)
    go_ret
    exact ⟨rfl, hb0⟩
  · rw [show pathE f.path = 0 by unfold pathE; rw [hp]; rfl, show kindF f.path = kGone by unfold kindF; rw [hp]; rfl] at hP
    generalize numF f.path = nf at *
    have HP := Lib.hid hP
    clear hP hp
    rcases hw with ⟨h1, hc⟩ | ⟨h1, hc⟩
    · have g1 : (f.part == [45]) = false := by simpa using h1
      rw [hc]
      clear h1 hc
      go_enter Tryz.func87, Tryz.ntmps87
      go_wp2_with (first | (go_at_call 85; refine (HP.out _).mono ?_; rintro e w' ⟨rfl, rfl⟩) | (go_at_call 134; refine (HNm.out _).mono ?_; rintro e w' ⟨rfl, rfl⟩))
      go_ret
      exact ⟨rfl, hb0⟩
    · have g1 : (f.part == [45]) = true := by simpa using h1
      clear h1
      generalize nameB f.part 12 = nb at *
      rcases bound_ways f with ⟨hb, hw⟩ | ⟨hb, b1, b2, b3, b4, b5, b6, b7⟩
      · rw [hc, if_pos hb]
        clear hc hb
        rcases hw with b1 | ⟨b1, b2 | ⟨b2, b3 | ⟨b3, b4 | ⟨b4, b5 | ⟨b5, b6 | ⟨b6, b7⟩⟩⟩⟩⟩⟩
        all_goals
          go_enter Tryz.func87, Tryz.ntmps87
          go_wp2_with (first | (go_at_call 85; refine (HP.out _).mono ?_; rintro e w' ⟨rfl, rfl⟩) | (go_at_call 134; refine (HNm.out _).mono ?_; rintro e w' ⟨rfl, rfl⟩) | (go_at_call 83; refine (isFar_any _ _).mono ?_; rintro e w' ⟨rfl, rfl⟩))
          all_goals
            go_ret
            exact ⟨rfl, hb0⟩
      · rw [hc, if_neg hb]
        clear hc hb
        go_enter Tryz.func87, Tryz.ntmps87
        go_wp2_with (first | (go_at_call 85; refine (HP.out _).mono ?_; rintro e w' ⟨rfl, rfl⟩) | (go_at_call 134; refine (HNm.out _).mono ?_; rintro e w' ⟨rfl, rfl⟩) | (go_at_call 83; refine (isFar_any _ _).mono ?_; rintro e w' ⟨rfl, rfl⟩))
        go_ret
        exact ⟨rfl, hb0⟩
  · rw [show pathE f.path = 0 by unfold pathE; rw [hp]; rfl, show kindF f.path = kData by unfold kindF; rw [hp]; rfl] at hP
    generalize numF f.path = nf at *
    have HP := Lib.hid hP
    clear hP hp
    rcases hw with ⟨h1, hc⟩ | ⟨h1, hc⟩
    · rw [h1] at HNm
      rw [hc]
      clear h1 hc
      go_enter Tryz.func87, Tryz.ntmps87
      go_wp2_with (first | (go_at_call 85; refine (HP.out _).mono ?_; rintro e w' ⟨rfl, rfl⟩) | (go_at_call 134; refine (HNm.out _).mono ?_; rintro e w' ⟨rfl, rfl⟩))
      go_ret
      exact ⟨rfl, hb0⟩
    · rw [h1] at HNm
      clear h1
      rcases bound_ways f with ⟨hb, hw⟩ | ⟨hb, b1, b2, b3, b4, b5, b6, b7⟩
      · rw [hc, if_pos hb]
        clear hc hb
        rcases hw with b1 | ⟨b1, b2 | ⟨b2, b3 | ⟨b3, b4 | ⟨b4, b5 | ⟨b5, b6 | ⟨b6, b7⟩⟩⟩⟩⟩⟩
        all_goals
          go_enter Tryz.func87, Tryz.ntmps87
          go_wp2_with (first | (go_at_call 85; refine (HP.out _).mono ?_; rintro e w' ⟨rfl, rfl⟩) | (go_at_call 134; refine (HNm.out _).mono ?_; rintro e w' ⟨rfl, rfl⟩) | (go_at_call 83; refine (isFar_any _ _).mono ?_; rintro e w' ⟨rfl, rfl⟩))
          all_goals
            go_ret
            exact ⟨rfl, hb0⟩
      · rw [hc, if_neg hb]
        clear hc hb
        go_enter Tryz.func87, Tryz.ntmps87
        go_wp2_with (first | (go_at_call 85; refine (HP.out _).mono ?_; rintro e w' ⟨rfl, rfl⟩) | (go_at_call 134; refine (HNm.out _).mono ?_; rintro e w' ⟨rfl, rfl⟩) | (go_at_call 83; refine (isFar_any _ _).mono ?_; rintro e w' ⟨rfl, rfl⟩))
        go_ret
        exact ⟨rfl, hb0⟩

set_option maxHeartbeats 1000000 in
set_option maxRecDepth 20000 in
theorem isBehind_any (a b : Str) (w : World) (ha : a.length ≤ 100000) (hb : b.length ≤ 100000) :
    Calls Tryz.prog 57 #[S a, S b] w fun e w' => e = .returned (.bool (decide (0 < cmpP a b))) ∧ w = w' := by
  have hA := fun W => pathOf_any a W ha
  have hB := fun W => pathOf_any b W hb
  have hc : decide (0 < cmpP a b) = decide (keyP b < keyP a) := by
    have := @cmpP_le a b
    rw [Bool.eq_iff_iff]; simp; omega
  rw [hc]
  clear hc
  generalize pathE a = ea at *
  generalize pathE b = eb at *
  rcases path_ways a with ⟨-, a1, a2, a3⟩ | ⟨n, an1, an2, a1, a2, a3⟩ | ⟨n, an1, an2, a1, a2, a3⟩ <;> rcases path_ways b with ⟨-, b1, b2, b3⟩ | ⟨m, bn1, bn2, b1, b2, b3⟩ | ⟨m, bn1, bn2, b1, b2, b3⟩
  all_goals
    rw [a1, a2] at hA
    rw [b1, b2] at hB
    rw [a3, b3]
    have HA := Lib.hid hA; have HB := Lib.hid hB
    clear a1 a2 a3 b1 b2 b3 hA hB
    go_enter Tryz.func57, Tryz.ntmps57
    go_wp2_with fail
    refine (HA.out _).mono ?_
    rintro e w' ⟨rfl, rfl⟩
    go_wp2_with fail
    refine (HB.out _).mono ?_
    rintro e w' ⟨rfl, rfl⟩
    go_wp2_with fail
    go_ret
    refine ⟨ret_bool ?_, rfl⟩
    first
      | (exact (decide_eq_false (by omega)).symm)
      | (exact (decide_eq_true (by omega)).symm)
      | (rw [Bool.eq_iff_iff, decide_eq_true_eq, decide_eq_true_eq]; omega)
end Go.Proofs.YtefoaeamfkbgbaaGreatDoor
namespace Go.Proofs.YtefoaeamfkbgbaaGreatDoor
open Go.RowKit

end Go.Proofs.YtefoaeamfkbgbaaGreatDoor
namespace Go.Proofs.YtefoaeamfkbgbaaGreatDoor
open Go.RowKit


def findV (l : List Fl) (p : Str) : Int := idxVal (fun f => f.path == p) l
theorem find1_any (x : Fl) (p : Str) (ad : Addr) (w : World) (h1 : w.cell? ad = some (S p)) :
    Calls Tryz.prog 55 #[fileV x, .pointer (some ad)] w fun e w' => e = .returned (.bool (x.path == p)) ∧ Below w.heap.size w w' := by
  have h1' : (w.alloc (fileO x)).cell? ad = some (S p) := (((Below.refl w.heap.size w).alloc (Nat.le_refl _) (fileO x)).cell (World.block_lt_of_cell? w _ h1)).trans h1
  have hb : Below w.heap.size w (w.alloc (fileO x)) := (Below.refl _ _).alloc (Nat.le_refl _) _
  go_enter Tryz.func55, Tryz.ntmps55
  go_wp2_with fail
  go_ret
  exact ⟨rfl, hb⟩
theorem clo_find1 : Clo Tryz.prog 55 := fun _ _ => by kernel_rfl
theorem listFind_any (v : Value) (l : List Fl) (p : Str) (w : World) (hl : FilesAt w v l) :
    Calls Tryz.prog 13 #[v, S p] w fun e w' => e = .returned (.int .i64 (findV l p)) ∧ Below w.heap.size w w' := by
  obtain ⟨a, c, rfl, -, -⟩ := hl.form'
  have hba : Below w.heap.size w (w.alloc (.cells #[S p] 9)) := (Below.refl _ _).alloc (Nat.le_refl _) _
  have c0 : (w.alloc (.cells #[S p] 9)).cell? ⟨w.heap.size, 0, none⟩ = some (S p) := by simp
  have Hl := Lib.hid (hl.below hba)
  go_enter Tryz.func13, Tryz.ntmps13
  go_wp2_with fail
  refine (indexFuncF_any _ _ (fun f => f.path == p) _ _ _ l _ clo_find1 ?_ Hl.out (Below.refl _ _) (Nat.le_refl _)).mono ?_
  · intro W x hx hbW hle
    exact find1_any x p _ W ((hbW.cell (World.block_lt_of_cell? _ _ c0)).trans c0)
  · rintro e w1 ⟨rfl, hb1⟩
    go_wp2_with fail
    go_ret
    exact ⟨rfl, hba.trans (hb1.mono hba.size)⟩

end Go.Proofs.YtefoaeamfkbgbaaGreatDoor
namespace Go.Proofs.YtefoaeamfkbgbaaGreatDoor
open Go.RowKit

theorem addE_bad {l : List Fl} {f : Fl} (h : listCheck l ≠ .nil) : addE l f = listCheck l := if_pos h
theorem addE_file {l : List Fl} {f : Fl} (h : listCheck l = .nil) (h1 : checkF f ≠ 0) : addE l f = .bare (checkF f) := by unfold addE; rw [if_neg (by simp [h]), if_pos h1]
theorem addE_there {l : List Fl} {f : Fl} (h : listCheck l = .nil) (h1 : checkF f = 0) (h2 : thereF l f) : addE l f = .bare 7 := by unfold addE; rw [if_neg (by simp [h]), if_neg (by simp [h1]), if_pos h2]
theorem addE_full {l : List Fl} {f : Fl} (h : listCheck l = .nil) (h1 : checkF f = 0) (h2 : ¬ thereF l f) (h3 : 60 ≤ l.length) : addE l f = .bare 8 := by unfold addE; rw [if_neg (by simp [h]), if_neg (by simp [h1]), if_neg h2, if_pos h3]
theorem addE_nil {l : List Fl} {f : Fl} (h : listCheck l = .nil) (h1 : checkF f = 0) (h2 : ¬ thereF l f) (h3 : ¬ 60 ≤ l.length) : addE l f = .nil := by unfold addE; rw [if_neg (by simp [h]), if_neg (by simp [h1]), if_neg h2, if_neg h3]
theorem addL_bad {l : List Fl} {f : Fl} (h : addE l f ≠ .nil) : addL l f = [] := if_neg h


theorem removeE_bad {l : List Fl} {p : Str} (h : listCheck l ≠ .nil) : removeE l p = listCheck l := if_pos h
theorem removeE_none {l : List Fl} {p : Str} (h : listCheck l = .nil) (h1 : findF l p = none) : removeE l p = .bare 6 := by unfold removeE; rw [if_neg (by simp [h]), if_pos (by rw [h1]; rfl)]
theorem removeE_nil {l : List Fl} {p : Str} {k : Nat} (h : listCheck l = .nil) (h1 : findF l p = some k) : removeE l p = .nil := by unfold removeE; rw [if_neg (by simp [h]), if_neg (by rw [h1]; simp)]
theorem removeL_bad {l : List Fl} {p : Str} (h : removeE l p ≠ .nil) : removeL l p = [] := if_neg h
theorem findF_some {l : List Fl} {p : Str} {k : Nat} (h : findF l p = some k) : ∃ x, l[k]? = some x ∧ x.path = p := by
  unfold findF at h
  obtain ⟨hk, h1, -⟩ := List.findIdx?_eq_some_iff_getElem.1 h
  exact ⟨l[k], List.getElem?_eq_getElem hk, by simpa using h1⟩
theorem findV_some {l : List Fl} {p : Str} {k : Nat} (h : findF l p = some k) : findV l p = k := by
  unfold findF at h; unfold findV idxVal; rw [h]
theorem findV_none {l : List Fl} {p : Str} (h : findF l p = none) : findV l p = -1 := by
  unfold findF at h; unfold findV idxVal; rw [h]
theorem find_mem {l : List Fl} {p : Str} : 0 ≤ findV l p ↔ ∃ f ∈ l, f.path = p := by
  cases hf : findF l p with
  | none =>
    rw [findV_none hf]
    have := findF_none.1 hf
    constructor
    · intro h; omega
    · rintro ⟨f, h1, h2⟩; exact absurd h2 (this f h1)
  | some k =>
    rw [findV_some hf]
    obtain ⟨x, h1, h2⟩ := findF_some hf
    exact ⟨fun _ => ⟨x, List.mem_of_getElem? h1, h2⟩, fun _ => by omega⟩
end Go.Proofs.YtefoaeamfkbgbaaGreatDoor
namespace Go.Proofs.YtefoaeamfkbgbaaGreatDoor

/-- How far the list is, and what it holds by then. -/
def DelRel {α : Type} (p : α → Bool) (l : List α) (i j : Nat) (ys : List α) : Prop :=
  i < j ∧ j ≤ l.length ∧ ys.length = l.length ∧ ys.take i = (l.take j).filter (fun x => !p x) ∧ ys.drop j = l.drop j

theorem filter_take_none {α : Type} {p : α → Bool} {l : List α} {k : Nat} (h : ∀ (j : Nat) (y : α), j < k → l[j]? = some y → p y = false) : (l.take k).filter (fun x => !p x) = l.take k := by
  refine List.filter_eq_self.2 fun x hx => ?_
  obtain ⟨j, hj, he⟩ := List.getElem_of_mem hx
  rw [List.length_take] at hj
  have : l[j]? = some x := by rw [List.getElem_take] at he; simp [he, show j < l.length by omega]
  simp [h j x (by omega) this]
theorem DelRel.start {α : Type} {p : α → Bool} {l : List α} {k : Nat} {x : α} (hk : l[k]? = some x) (hp : p x = true) (h : ∀ (j : Nat) (y : α), j < k → l[j]? = some y → p y = false) : DelRel p l k (k + 1) l := by
  have hlt : k < l.length := by
    rcases Nat.lt_or_ge k l.length with h' | h'
    · exact h'
    · rw [List.getElem?_eq_none h'] at hk; cases hk
  refine ⟨by omega, by omega, rfl, ?_, rfl⟩
  rw [List.take_add_one, hk, List.filter_append, filter_take_none h]
  simp [hp]
theorem DelRel.skip {α : Type} {p : α → Bool} {l ys : List α} {i j : Nat} {x : α} (h : DelRel p l i j ys) (hx : l[j]? = some x) (hp : p x = true) : DelRel p l i (j + 1) ys := by
  obtain ⟨h1, h2, h3, h4, h5⟩ := h
  have hlt : j < l.length := by
    rcases Nat.lt_or_ge j l.length with h' | h'
    · exact h'
    · rw [List.getElem?_eq_none h'] at hx; cases hx
  refine ⟨by omega, by omega, h3, ?_, ?_⟩
  · rw [h4, List.take_add_one, hx, List.filter_append]; simp [hp]
  · rw [← List.drop_drop, h5, List.drop_drop]
theorem DelRel.keep {α : Type} {p : α → Bool} {l ys : List α} {i j : Nat} {x : α} (h : DelRel p l i j ys) (hx : l[j]? = some x) (hp : p x = false) : DelRel p l (i + 1) (j + 1) (ys.set i x) := by
  obtain ⟨h1, h2, h3, h4, h5⟩ := h
  have hlt : j < l.length := by
    rcases Nat.lt_or_ge j l.length with h' | h'
    · exact h'
    · rw [List.getElem?_eq_none h'] at hx; cases hx
  refine ⟨by omega, by omega, by simpa using h3, ?_, ?_⟩
  · rw [List.take_add_one (l := l), hx, List.filter_append, ← h4, List.take_add_one, List.take_set_of_le (Nat.le_refl _), List.getElem?_set_self (by omega)]
    simp [hp]
  · rw [List.drop_set_of_lt (by omega), ← List.drop_drop, h5, List.drop_drop]
theorem DelRel.next {α : Type} {p : α → Bool} {l ys : List α} {i j : Nat} {x : α} (h : DelRel p l i j ys) (hx : l[j]? = some x) : ys[j]? = some x := by
  have : (ys.drop j)[0]? = (l.drop j)[0]? := by rw [h.2.2.2.2]
  simpa [hx] using this
theorem DelRel.done {α : Type} {p : α → Bool} {l ys : List α} {i : Nat} (h : DelRel p l i l.length ys) : ys.take i = l.filter (fun x => !p x) := by
  have := h.2.2.2.1; rwa [List.take_length] at this

end Go.Proofs.YtefoaeamfkbgbaaGreatDoor
namespace Go.Proofs.YtefoaeamfkbgbaaGreatDoor
open Go.RowKit

theorem set_app {α : Type} {A L : List α} {o : Nat} (hA : A.length = o) (j : Nat) (v : α) : (A ++ L).set (o + j) v = A ++ L.set j v := by
  subst hA
  rw [List.set_append, if_neg (by omega)]
  congr 2
  omega
/-- An element of six cells written anew, cell by cell. -/
theorem Own.set6 {e : TypeId} {B : Nat} {w : World} {g n cap i : Nat} {l : List Fl} (h : Own encF e 6 B w (.slice (some ⟨g, 0, none⟩) n cap) l) (hi : i < l.length) (x : Fl) :
    Own encF e 6 B (six w g (i * 6) (S x.path) (S x.part) (.int .i64 x.n) (.int .i64 x.lo) (.int .i64 x.hi) (.int .i64 x.seq)) (.slice (some ⟨g, 0, none⟩) n cap) (l.set i x) := by
  obtain ⟨cur, hB, hg, hl, hc, hm, hs, ht⟩ := h.row
  have hsplit : l = l.take i ++ l[i] :: l.drop (i + 1) := by rw [← List.drop_eq_getElem_cons hi, List.take_append_drop]
  have hset : l.set i x = l.take i ++ x :: l.drop (i + 1) := List.set_eq_take_append_cons_drop.trans (if_pos hi)
  have hA : ((l.take i).flatMap encF).length = i * 6 := by rw [flat_length encF_enc, List.length_take, Nat.min_eq_left (by omega)]
  have hC : ((l.drop (i + 1)).flatMap encF).length = (n - (i + 1)) * 6 := by rw [flat_length encF_enc, List.length_drop, hl]
  have hle : n * 6 ≤ cap * 6 := Nat.mul_le_mul_right _ hc
  have hf : l.flatMap encF = (l.take i).flatMap encF ++ (encF l[i] ++ (l.drop (i + 1)).flatMap encF) := by
    have : l.flatMap encF = (l.take i ++ l[i] :: l.drop (i + 1)).flatMap encF := by rw [← hsplit]
    rw [this]; simp only [List.flatMap_append, List.flatMap_cons]
  have hcur : cur.toList = (l.take i).flatMap encF ++ (encF l[i] ++ ((l.drop (i + 1)).flatMap encF ++ cur.toList.drop (n * 6))) := by
    have h1 : cur.toList = cur.toList.take (n * 6) ++ cur.toList.drop (n * 6) := (List.take_append_drop _ _).symm
    rw [ht, hf] at h1
    simpa using h1
  generalize cur.toList.drop (n * 6) = R at hcur
  refine Own.put encF_enc (by rw [List.length_set]; exact hl) hB (six_row hg (S x.path) (S x.part) (.int .i64 x.n) (.int .i64 x.lo) (.int .i64 x.hi) (.int .i64 x.seq)) hc hm (by simpa using hs) ?_
  simp only [Array.toList_setIfInBounds]
  rw [hcur, hset]
  have s0 : ((l.take i).flatMap encF ++ (encF l[i] ++ ((l.drop (i + 1)).flatMap encF ++ R))).set (i * 6) (S x.path) = (l.take i).flatMap encF ++ (encF l[i] ++ ((l.drop (i + 1)).flatMap encF ++ R)).set 0 (S x.path) := set_app hA 0 (S x.path)
  rw [s0, set_app hA, set_app hA, set_app hA, set_app hA, set_app hA]
  simp only [List.cons_append, List.nil_append, List.set_cons_zero, List.set_cons_succ, List.flatMap_append, List.flatMap_cons]
  have e : ∀ (A C R : List Value) (a b c d f g : Value), A ++ a :: b :: c :: d :: f :: g :: (C ++ R) = (A ++ [a, b, c, d, f, g] ++ C) ++ R := fun A C R a b c d f g => by simp
  rw [e, List.take_left' (by rw [List.length_append, List.length_append, hA, hC]; simp; omega)]
  simp
theorem sizeFl : (Tryz.prog.info? 44).map (·.size) = some 6 := by kernel_rfl
set_option maxHeartbeats 1000000 in
set_option maxRecDepth 20000 in
theorem deleteFuncF_any (f : FuncId) (caps : Array Value) (p : Fl → Bool) (base : Nat) (w0 : World) (v : Value) (l : List Fl) (w : World) (hf : Clo Tryz.prog f) (hp : PredOn Tryz.prog f caps fileV l p base w0)
    (hl : Own encF 44 6 base w v l) (hw : Below base w0 w) (hB : base ≤ w.heap.size) :
    Calls Tryz.prog 105 #[v, .func (.func f) #[] caps] w fun e w' => ∃ v', e = .returned v' ∧ Own encF 44 6 base w' v' (l.filter fun x => !p x) ∧ Below base w w' := by
  have hif := indexFuncF_any f caps p base w0 v l w hf hp (hl.at encF_enc) hw hB
  have Hif := Lib.hid hif; clear hif
  have Hf := Lib.hid hf; clear hf
  have Hp := Lib.hid hp; clear hp
  by_cases hall : ∀ (j : Nat) (x : Fl), l[j]? = some x → p x = false
  · have e1 : idxVal p l = -1 := idxVal_none hall
    have e2 : l.filter (fun x => !p x) = l := List.filter_eq_self.2 fun x hx => by
      obtain ⟨j, hj, he⟩ := List.getElem_of_mem hx
      simp [hall j x (by simp [hj, he])]
    have H1 := Lib.hid e1; have H2 := Lib.hid e2; clear e1 e2 hall
    go_enter Tryz.func105, Tryz.ntmps105
    go_wp2_with fail
    refine Hif.out.mono ?_
    rintro e w1 ⟨rfl, hb⟩
    rw [H1.out]
    go_wp2_with fail
    go_ret
    exact ⟨v, rfl, by rw [H2.out]; exact hl.below hb, hb.mono hB⟩
  · obtain ⟨k, x, hk, hpx, hlow⟩ : ∃ (k : Nat) (x : Fl), l[k]? = some x ∧ p x = true ∧ ∀ (j : Nat) (y : Fl), j < k → l[j]? = some y → p y = false := by
      cases hfi : l.findIdx? p with
      | none =>
        exfalso; refine hall fun j x hj => ?_
        exact List.findIdx?_eq_none_iff.1 hfi x (List.mem_of_getElem? hj)
      | some k =>
        obtain ⟨h1, h2, h3⟩ := List.findIdx?_eq_some_iff_getElem.1 hfi
        refine ⟨k, l[k], by simp, h2, fun j y hj hy => ?_⟩
        have h4 : j < l.length := by omega
        have := h3 j hj
        have hy' : l[j] = y := by rw [List.getElem?_eq_getElem h4] at hy; exact Option.some.inj hy
        rw [hy'] at this; simpa using this
    have hlt : k < l.length := by
      rcases Nat.lt_or_ge k l.length with h' | h'
      · exact h'
      · rw [List.getElem?_eq_none h'] at hk; cases hk
    have e1 : idxVal p l = k := idxVal_some hk hpx hlow
    have hst := DelRel.start hk hpx hlow
    obtain ⟨g, cap, cur, rfl, hBg, _, hcap, hm, _, _⟩ := hl.open (by omega)
    unfold maxLen at hm
    have hne : ((k : Int) == -1) = false := beq_eq_false_iff_ne.2 (by omega)
    have H1 := Lib.hid e1; have Hst := Lib.hid hst; clear e1 hst hall hlow hk
    go_enter Tryz.func105, Tryz.ntmps105
    go_wp2_with fail
    refine Hif.out.mono ?_
    rintro e w1 ⟨rfl, hb⟩
    rw [H1.out]
    have ho1 := hl.below hb
    have hb1 : Below base w w1 := hb.mono hB
    clear hl hb
    go_wp2_with fail
    go_loopw [5, 6] (fun s5 s6 wr => ∃ (i j : Nat) (ys : List Fl), s5 = .int .i64 i ∧ s6 = .int .i64 j ∧ Hid (DelRel p l i j ys) ∧ Own encF 44 6 base wr (.slice (some ⟨g, 0, none⟩) l.length cap) ys ∧ Below base w wr) (fun _ s6 _ => l.length - (intOf s6).toNat)
    case atStart => exact ⟨k, k + 1, l, rfl, by go_num, Hst.out, ho1, hb1⟩
    case round =>
      obtain ⟨i, j, ys, rfl, rfl, hd, ho, hbr⟩ := hrel
      have hij := hd.out.1
      have hjn := hd.out.2.1
      have hysl := hd.out.2.2.1
      have Hysl := Lib.hid hysl; clear hysl
      by_cases hlt' : j < l.length
      · obtain ⟨x', hxj⟩ := get_ex hlt'
        have hyj := hd.out.next hxj
        obtain ⟨_, _, b', o', hv', hga, _, _, hx'⟩ := ho.at encF_enc
        simp only [Value.slice.injEq] at hv'
        have hga' := hv'.1.trans (hga (by rw [Hysl.out]; omega))
        simp only [Option.some.injEq, Addr.mk.injEq, and_true] at hga'
        obtain ⟨rfl, rfl⟩ := hga'
        clear hv' hga
        obtain ⟨c0, c1, c2, c3, c4, c5⟩ := flCells hx' (Below.refl _ _) hyj
        have hk1 : (j : Int) < (l.length : Int) := by omega
        have hba : Below base w (wr.alloc (.cells #[S x'.path, S x'.part, .int .i64 x'.n, .int .i64 x'.lo, .int .i64 x'.hi, .int .i64 x'.seq] 44)) := hbr.alloc (Nat.le_trans hB hbr.size) _
        have hoa := ho.alloc (.cells #[S x'.path, S x'.part, .int .i64 x'.n, .int .i64 x'.lo, .int .i64 x'.hi, .int .i64 x'.seq] 44)
        have CB := Lib.hid (fun w6 (h : Below (wr.alloc (.cells #[S x'.path, S x'.part, .int .i64 x'.n, .int .i64 x'.lo, .int .i64 x'.hi, .int .i64 x'.seq] 44)).heap.size (wr.alloc (.cells #[S x'.path, S x'.part, .int .i64 x'.n, .int .i64 x'.lo, .int .i64 x'.hi, .int .i64 x'.seq] 44)) w6) => fileCells rfl h)
        have hpc := Hp.out (wr.alloc (.cells #[S x'.path, S x'.part, .int .i64 x'.n, .int .i64 x'.lo, .int .i64 x'.hi, .int .i64 x'.seq] 44)) x' (List.mem_of_getElem? hxj) (hw.trans hba) (Nat.le_trans hB hba.size)
        have Hpc := Lib.hid hpc; clear hpc hyj
        have Hxj := Lib.hid hxj; clear hxj
        have hf' := Hf.out
        unfold Clo at hf'
        simp only [Nat.zero_add] at c0 c1 c2 c3 c4 c5
        go_wp2_with fail
        generalize wr.alloc (.cells #[S x'.path, S x'.part, .int .i64 x'.n, .int .i64 x'.lo, .int .i64 x'.hi, .int .i64 x'.seq] 44) = wb at *
        refine Hpc.out.mono ?_
        rintro e w2 ⟨rfl, hb2⟩
        have ho2 := hoa.below hb2
        have hbr2 : Below base w w2 := hba.trans (hb2.mono (Nat.le_trans hB hba.size))
        clear c0 c1 c2 c3 c4 c5
        obtain ⟨c0, c1, c2, c3, c4, c5⟩ := CB.out w2 hb2
        cases hpv : p x' with
        | true =>
          have hd2 := hd.out.skip Hxj.out hpv
          have Hd2 := Lib.hid hd2; clear hd2 hpv
          go_wp2_with fail
          go_roundw
          case rel => exact ⟨i, j + 1, ys, rfl, by go_num, Hd2.out, ho2, hbr2⟩
          case measure => simp [intOf]; omega
        | false =>
          have hd2 := hd.out.keep Hxj.out hpv
          have Hd2 := Lib.hid hd2; clear hd2 hpv
          obtain ⟨y', hyi⟩ := get_ex (l := ys) (k := i) (by rw [Hysl.out]; omega)
          obtain ⟨cur2, _, hg2, _, _, _, _, _⟩ := ho2.row
          have fz : ∀ j, w2.frozen? ⟨g, j, none⟩ = false := fun j => frozen_row hg2
          obtain ⟨a', c', b', o', hv', hga, _, _, hx'⟩ := ho2.at encF_enc
          simp only [Value.slice.injEq] at hv'
          have hga' := hv'.1.trans (hga (by rw [Hysl.out]; omega))
          simp only [Option.some.injEq, Addr.mk.injEq, and_true] at hga'
          obtain ⟨rfl, rfl⟩ := hga'
          clear hv' hga
          obtain ⟨d0, d1, d2, d3, d4, d5⟩ := flCells hx' (Below.refl _ _) hyi
          simp only [Nat.zero_add] at d0 d1 d2 d3 d4 d5
          have f0 := fz (i * 6); have f1 := fz (i * 6 + 1); have f2 := fz (i * 6 + 2); have f3 := fz (i * 6 + 3); have f4 := fz (i * 6 + 4); have f5 := fz (i * 6 + 5)
          have ho3 := Own.set6 ho2 (i := i) (by rw [Hysl.out]; omega) x'
          have hk2 : (i : Int) < (l.length : Int) := by omega
          have Ho3 := Lib.hid ho3; clear ho3 hx' hyi hg2 fz
          go_wp2_with fail
          go_roundw
          case rel => exact ⟨i + 1, j + 1, ys.set i x', by go_num, by go_num, Hd2.out, Ho3.out, six_below hbr2 hBg _ _ _ _ _ _⟩
          case measure => simp [intOf]; omega
      · obtain rfl : j = l.length := by omega
        have hfin := hd.out.done
        have Hfin := Lib.hid hfin; clear hfin
        obtain ⟨cs, hrun, ho2⟩ := run_clear_own (c := cap - i) elFl encF_enc flZero1 ho (k := i) (by rw [Hysl.out]; omega)
        have hci : ¬ cap = i := by omega
        have hcap2 : (i : Int) ≤ (cap : Int) := by omega
        have hil : (i : Int) ≤ (l.length : Int) := by omega
        have Ho2 := Lib.hid ho2; clear ho2
        go_wp2_with fail
        go_ret
        refine ⟨.slice (some ⟨g, 0, none⟩) i cap, rfl, ?_, Bset hbr hBg _⟩
        have := Ho2.out
        rwa [Hfin.out] at this

/-- Is a file left out? -/
def pruneP (lo hi : Int) (f : Fl) : Bool := decide (min f.hi hi < max f.lo lo)
def pruneL (l : List Fl) (lo hi : Int) : List Fl := l.filter fun f => !pruneP lo hi f
theorem prune1_any (x : Fl) (a1 a2 : Addr) (lo hi : Int) (w : World) (h1 : w.cell? a1 = some (.int .i64 lo)) (h2 : w.cell? a2 = some (.int .i64 hi)) :
    Calls Tryz.prog 107 #[fileV x, .pointer (some a1), .pointer (some a2)] w fun e w' => e = .returned (.bool (pruneP lo hi x)) ∧ Below w.heap.size w w' := by
  have hb : Below w.heap.size w (w.alloc (fileO x)) := (Below.refl _ _).alloc (Nat.le_refl _) _
  have h1' : (w.alloc (fileO x)).cell? a1 = some (.int .i64 lo) := (hb.cell (World.block_lt_of_cell? w _ h1)).trans h1
  have h2' : (w.alloc (fileO x)).cell? a2 = some (.int .i64 hi) := (hb.cell (World.block_lt_of_cell? w _ h2)).trans h2
  go_enter Tryz.func107, Tryz.ntmps107
  go_wp2_with fail
  go_ret
  exact ⟨rfl, hb⟩
theorem clo_prune1 : Clo Tryz.prog 107 := fun _ _ => by kernel_rfl
theorem listPrune_any (v : Value) (l : List Fl) (lo hi : Int) (w : World) (hl : FilesAt w v l) (hn : l.length ≤ 100000) :
    Calls Tryz.prog 45 #[v, .int .i64 lo, .int .i64 hi] w fun e w' => ∃ v', e = .returned v' ∧ FilesAt w' v' (pruneL l lo hi) ∧ Below w.heap.size w w' := by
  obtain ⟨a, c, rfl, -, -⟩ := hl.form'
  have hba : Below w.heap.size w ((w.alloc (.cells #[.int .i64 lo] 3)).alloc (.cells #[.int .i64 hi] 3)) := ((Below.refl _ _).alloc (Nat.le_refl _) _).alloc (by simp) _
  have c0 : ((w.alloc (.cells #[.int .i64 lo] 3)).alloc (.cells #[.int .i64 hi] 3)).cell? ⟨w.heap.size, 0, none⟩ = some (.int .i64 lo) := by simp
  have c1 : ((w.alloc (.cells #[.int .i64 lo] 3)).alloc (.cells #[.int .i64 hi] 3)).cell? ⟨w.heap.size + 1, 0, none⟩ = some (.int .i64 hi) := by
    rw [World.cell?_alloc_at _ _ _ _ (by simp)]; rfl
  have Hl := Lib.hid (hl.below hba)
  go_enter Tryz.func45, Tryz.ntmps45
  go_wp2_with fail
  refine (cloneF_any _ l _ Hl.out hn).mono ?_
  rintro e w2 ⟨v2, rfl, hown, hb2⟩
  have hb2' := hba.trans (hb2.mono hba.size)
  have d0 := (hb2.cell (World.block_lt_of_cell? _ _ c0)).trans c0
  have d1 := (hb2.cell (World.block_lt_of_cell? _ _ c1)).trans c1
  go_wp2_with fail
  refine (deleteFuncF_any _ _ (pruneP lo hi) _ w2 v2 l _ clo_prune1 ?_ hown (Below.refl _ _) hb2.size).mono ?_
  · intro W x hx hbW hle
    exact prune1_any x _ _ lo hi W ((hbW.cell (Nat.lt_of_lt_of_le (World.block_lt_of_cell? _ _ c0) (by simp))).trans d0) ((hbW.cell (World.block_lt_of_cell? _ _ c1)).trans d1)
  · rintro e w3 ⟨v3, rfl, hown3, hb3⟩
    go_wp2_with fail
    go_ret
    exact ⟨_, rfl, hown3.at encF_enc, hb2'.trans (hb3.mono hba.size)⟩
end Go.Proofs.YtefoaeamfkbgbaaGreatDoor
namespace Go.Proofs.YtefoaeamfkbgbaaGreatDoor
open Go.RowKit

theorem right_mid' {l : List Fl} (h : RightL l) : ∀ x ∈ l, midF x := fun x hx => by
  have := fileLine_len (h.ok x hx)
  unfold fileLine at this
  simp only [List.length_append, List.length_cons] at this
  exact ⟨by omega, by omega⟩
set_option maxRecDepth 20000 in
theorem findOf_any (v : Value) (l : List Fl) (p : Str) (w : World) (hl : FilesAt w v l) :
    Calls Tryz.prog 36 #[v, S p] w fun e w' => e = .returned (.int .i64 (findV l p)) ∧ w = w' := by
  obtain ⟨a, c, b, o, rfl, ha, hc, hcm, hx⟩ := hl
  unfold maxLen at hcm
  have hfi : findV l p = idxVal (fun f : Fl => f.path == p) l := rfl
  have HFi := Lib.hid hfi; clear hfi
  go_enter Tryz.func36, Tryz.ntmps36
  go_wp2_with fail
  go_loop [5] (fun i => ∃ k : Nat, k ≤ l.length ∧ i = .int .i64 k ∧ Hid (∀ (j : Nat) (y : Fl), j < k → l[j]? = some y → (y.path == p) = false)) (fun i => l.length - (intOf i).toNat)
  case atStart => exact ⟨0, by omega, rfl, Lib.hid fun j y hj => absurd hj (by omega)⟩
  case round =>
    obtain ⟨k, hk, rfl, hj⟩ := hrel
    by_cases hlt : k < l.length
    case neg =>
      have HN : Hid (findV l p = -1) := Lib.hid (by rw [HFi.out]; exact idxVal_none fun j y hy => hj.out j y (by have := (List.getElem?_eq_some_iff.1 hy).1; omega) hy)
      have f : decide ((k : Int) < (l.length : Int)) = false := by simp; omega
      go_wp2_with fail
      go_ret
      exact ⟨by rw [HN.out]; rfl, rfl⟩
    obtain ⟨x, hxk⟩ := get_ex hlt
    obtain ⟨c0, -⟩ := flCells hx (Below.refl _ _) hxk
    have i1 := idx_at (c := c) 6 Tryz.underlying23 szFl ha k hlt
    have hk1 : (k : Int) < (l.length : Int) := by omega
    have Hx := Lib.hid hxk; clear hxk
    by_cases he : x.path = p
    · have g : (x.path == p) = true := by simpa using he
      have HN : Hid (findV l p = k) := Lib.hid (by rw [HFi.out]; exact idxVal_some Hx.out g hj.out)
      clear he
      go_wp2_with fail
      go_ret
      exact ⟨by rw [HN.out]; rfl, rfl⟩
    · have g : (x.path == p) = false := by simpa using he
      have G := Lib.hid g
      clear he
      go_wp2_with fail
      refine ⟨⟨k + 1, by omega, by go_num, Lib.hid fun j y hj' hy => by
        rcases Nat.lt_or_ge j k with h | h
        · exact hj.out j y h hy
        · obtain rfl : j = k := by omega
          rw [Hx.out] at hy; cases hy; exact G.out⟩, ?_⟩
      simp [intOf]; omega

theorem filter_take_snoc {l : List Fl} {k : Nat} {x : Fl} (p : Fl → Bool) (h : l[k]? = some x) : (l.take (k + 1)).filter p = (l.take k).filter p ++ if p x then [x] else [] := by
  rw [take_snoc' h, List.filter_append]
  cases hp : p x <;> simp [hp]
theorem filter_take_len {l : List Fl} {k : Nat} (p : Fl → Bool) (h : k ≤ l.length) : ((l.take k).filter p).length ≤ k := by
  have := List.length_filter_le p (l.take k)
  rw [List.length_take] at this; omega


theorem prune_ways (f : Fl) (lo hi : Int) : (pruneP lo hi f = false ∧ ((f.lo < lo ∧ hi < f.hi ∧ lo ≤ hi) ∨ (f.lo < lo ∧ decide (hi < f.hi) = false ∧ lo ≤ f.hi) ∨ (decide (f.lo < lo) = false ∧ hi < f.hi ∧ f.lo ≤ hi) ∨ (decide (f.lo < lo) = false ∧ decide (hi < f.hi) = false ∧ f.lo ≤ f.hi))) ∨
    (pruneP lo hi f = true ∧ ((f.lo < lo ∧ hi < f.hi ∧ decide (lo ≤ hi) = false) ∨ (f.lo < lo ∧ decide (hi < f.hi) = false ∧ decide (lo ≤ f.hi) = false) ∨ (decide (f.lo < lo) = false ∧ hi < f.hi ∧ decide (f.lo ≤ hi) = false) ∨ (decide (f.lo < lo) = false ∧ decide (hi < f.hi) = false ∧ decide (f.lo ≤ f.hi) = false))) := by
  unfold pruneP
  simp only [decide_eq_true_eq, decide_eq_false_iff_not]
  omega
set_option maxHeartbeats 2000000 in
set_option maxRecDepth 20000 in
theorem pruneOf_any (v : Value) (l : List Fl) (lo hi : Int) (w : World) (hl : FilesAt w v l) (hn : l.length ≤ 100000) :
    Calls Tryz.prog 65 #[v, .int .i64 lo, .int .i64 hi] w fun e w' => ∃ v', e = .returned v' ∧ FilesAt w' v' (pruneL l lo hi) ∧ Below w.heap.size w w' := by
  obtain ⟨a, c, b, o, rfl, ha, hc, hcm, hx⟩ := hl
  unfold maxLen at hcm
  have hd : pruneL l lo hi = l.filter (fun f => !pruneP lo hi f) := rfl
  have HD := Lib.hid hd; clear hd
  go_enter Tryz.func65, Tryz.ntmps65
  go_wp2_with fail
  go_loopw [7, 8, 9, 10] (fun u i _ _ wr => ∃ (k : Nat) (q : List Fl), k ≤ l.length ∧ i = .int .i64 k ∧ Hid (q = (l.take k).filter (fun f => !pruneP lo hi f)) ∧ q.length ≤ k ∧ Own encF 44 6 w.heap.size wr u q ∧ Below w.heap.size w wr) (fun _ i _ _ _ => l.length - (intOf i).toNat)
  case atStart => exact ⟨0, [], by omega, rfl, Lib.hid rfl, by simp, Own.nil _ _ _ _ _, Below.refl _ _⟩
  case round =>
    obtain ⟨k, q, hk, rfl, hq, hql, ho, hb⟩ := hrel
    by_cases hlt : k < l.length
    case neg =>
      obtain rfl : k = l.length := by omega
      have f : decide ((l.length : Int) < (l.length : Int)) = false := by simp
      go_wp2_with fail
      go_ret
      exact ⟨_, rfl, by rw [HD.out, show l.filter (fun f => !pruneP lo hi f) = q by rw [hq.out, List.take_length]]; exact ho.at encF_enc, hb⟩
    obtain ⟨x, hxk⟩ := get_ex hlt
    obtain ⟨c0, c1, c2, c3, c4, c5⟩ := flCells hx hb hxk
    have i1 := idx_at (c := c) 6 Tryz.underlying23 szFl ha k hlt
    have hk1 : (k : Int) < (l.length : Int) := by omega
    have hsn := filter_take_snoc (fun f => !pruneP lo hi f) hxk
    rw [← hq.out] at hsn
    have HSn := Lib.hid hsn; clear hsn hxk
    rcases prune_ways x lo hi with ⟨hp, hw⟩ | ⟨hp, hw⟩
    · have HSn2 : Hid (q ++ [x] = (l.take (k + 1)).filter (fun f => !pruneP lo hi f)) := Lib.hid (by rw [HSn.out, hp]; simp)
      clear hp HSn
      rcases hw with ⟨g1, g2, g3⟩ | ⟨g1, g2, g3⟩ | ⟨g1, g2, g3⟩ | ⟨g1, g2, g3⟩
      all_goals
        go_wp2_with (at_builtin; refine wpList_app rfl _ _ _ rfl w.heap.size elFl _ q.length _ rfl (ho.alloc _) (.slice (some ⟨wr.heap.size, 0, none⟩) 1 1) 1 (encF x) rfl (src_one rfl rfl (by simp [Value.oneCell'])) (by unfold maxLen; omega) (by omega) (by have := hb.size; simp; omega) ?_; intro v' w2 hown hg _)
        go_roundw
        case rel => exact ⟨k + 1, q ++ [x], by omega, by go_num, HSn2, by simp; omega, Own.snoc hown, Bapp (hb.alloc hb.size _) (ho.alloc _) hg (Nat.le_refl _) (by have := hb.size; simp; omega)⟩
        case measure => simp [intOf]; omega
    · have HSn2 : Hid (q = (l.take (k + 1)).filter (fun f => !pruneP lo hi f)) := Lib.hid (by rw [HSn.out, hp]; simp)
      clear hp HSn
      rcases hw with ⟨g1, g2, g3⟩ | ⟨g1, g2, g3⟩ | ⟨g1, g2, g3⟩ | ⟨g1, g2, g3⟩
      all_goals
        go_wp2_with fail
        go_roundw
        case rel => exact ⟨k + 1, q, by omega, by go_num, HSn2, by omega, ho, hb⟩
        case measure => simp [intOf]; omega

/-- s[:k] of a slice. -/
theorem slice_to {P : Program} {t e : TypeId} {sz c n : Nat} (a : Option Addr) (ht : P.underlying t = some (.slice e)) (hsz : ∀ w, (sizeOf e).run P w = .ok sz w) (k : Nat) (hk : k ≤ n) (hc : n ≤ c) :
    ∀ W, (Instr.slice t (.slice a n c) none (some (.int .i64 (k : Int))) none).run P W = .ok (.slice a k c) W := by
  have h2 : (k : Int) ≤ (c : Int) := by omega
  intro W
  cases a with
  | none => simp [Instr.slice, Instr.sliceBounds, run_underlying ht, hsz, go_sem, h2]
  | some ad => simp [Instr.slice, Instr.sliceBounds, run_underlying ht, hsz, go_sem, h2]
theorem placeF_first {f : Fl} : ∀ {l : List Fl} {k : Nat}, k ≤ l.length → (∀ (j : Nat) (g : Fl), j < k → l[j]? = some g → keyP g.path < keyP f.path) → (∀ g, l[k]? = some g → keyP f.path ≤ keyP g.path) → placeF f l = l.take k ++ f :: l.drop k
  | [], k, hk, _, _ => by
    obtain rfl : k = 0 := by simpa using hk
    rfl
  | g :: r, 0, _, _, h2 => by
    have := h2 g rfl
    unfold placeF
    rw [if_pos this]; rfl
  | g :: r, k + 1, hk, h1, h2 => by
    have h0 := h1 0 g (by omega) rfl
    have ih := placeF_first (f := f) (l := r) (k := k) (by simpa using hk) (fun j x hj hx => h1 (j + 1) x (by omega) hx) (fun x hx => h2 x hx)
    unfold placeF
    rw [if_neg (by omega), ih]; rfl
set_option maxHeartbeats 2000000 in
set_option maxRecDepth 20000 in
theorem placed_any (v : Value) (l : List Fl) (f : Fl) (w : World) (hl : FilesAt w v l) (hn : l.length ≤ 10000) (hs : ∀ x ∈ l, midF x) (hf : midF f) :
    Calls Tryz.prog 15 #[v, fileV f] w fun e w' => ∃ v', e = .returned v' ∧ FilesAt w' v' (placeF f l) ∧ Below w.heap.size w w' := by
  obtain ⟨a, c, b, o, rfl, ha, hc, hcm, hx⟩ := hl
  have hcmx : c ≤ maxLen := hcm
  unfold maxLen at hcm
  have hb0 : Below w.heap.size w (w.alloc (.cells #[S f.path, S f.part, .int .i64 f.n, .int .i64 f.lo, .int .i64 f.hi, .int .i64 f.seq] 44)) := (Below.refl _ _).alloc (Nat.le_refl _) _
  have CF := Lib.hid (fun w6 (h : Below (w.alloc (.cells #[S f.path, S f.part, .int .i64 f.n, .int .i64 f.lo, .int .i64 f.hi, .int .i64 f.seq] 44)).heap.size (w.alloc (.cells #[S f.path, S f.part, .int .i64 f.n, .int .i64 f.lo, .int .i64 f.hi, .int .i64 f.seq] 44)) w6) => fileCells (f := f) rfl h)
  have HS := Lib.hid hs; clear hs
  go_enter Tryz.func15, Tryz.ntmps15
  go_wp2_with fail
  generalize w.alloc (.cells #[S f.path, S f.part, .int .i64 f.n, .int .i64 f.lo, .int .i64 f.hi, .int .i64 f.seq] 44) = w0 at *
  go_loopw [5] (fun i wr => ∃ k : Nat, k ≤ l.length ∧ i = .int .i64 k ∧ Hid (∀ (j : Nat) (g : Fl), j < k → l[j]? = some g → keyP g.path < keyP f.path) ∧ Below w0.heap.size w0 wr) (fun i _ => l.length - (intOf i).toNat)
  case atStart => exact ⟨0, by omega, rfl, Lib.hid fun j y hj => absurd hj (by omega), Below.refl _ _⟩
  case round =>
    obtain ⟨k, hk, rfl, hj, hb⟩ := hrel
    have hbw := hb0.trans (hb.mono hb0.size)
    have hstop : (k = l.length ∧ True) ∨ (k < l.length ∧ ∃ x, l[k]? = some x ∧ ((decide (0 < cmpP f.path x.path) = true ∧ keyP x.path < keyP f.path) ∨ (decide (0 < cmpP f.path x.path) = false ∧ keyP f.path ≤ keyP x.path))) := by
      by_cases hlt : k < l.length
      · obtain ⟨x, hxk⟩ := get_ex hlt
        refine .inr ⟨hlt, x, hxk, ?_⟩
        have := @cmpP_le f.path x.path
        simp only [decide_eq_true_eq, decide_eq_false_iff_not]
        omega
      · exact .inl ⟨by omega, trivial⟩
    have hfirst : (k = l.length ∨ ∃ x, l[k]? = some x ∧ keyP f.path ≤ keyP x.path) → placeF f l = l.take k ++ f :: l.drop k := fun h =>
      placeF_first hk hj.out fun g hg => by
        rcases h with h | ⟨x, h1, h2⟩
        · rw [List.getElem?_eq_none (by omega)] at hg; cases hg
        · rw [h1] at hg; cases hg; exact h2
    have HFirst := Lib.hid hfirst; clear hfirst
    have hsl1 := slice_to (P := Tryz.prog) (c := c) (n := l.length) a Tryz.underlying23 szFl k hk hc
    have hlt1 : (l.take k).length = k := by rw [List.length_take]; omega
    have hld1 : (l.drop k).length = l.length - k := List.length_drop
    have hdrop : ∃ a2 c2', (∀ W, (Instr.slice 23 (.slice a l.length c) (some (.int .i64 (k : Int))) none none).run Tryz.prog W = .ok (.slice a2 (l.length - k) c2') W) ∧ FilesAt w (.slice a2 (l.length - k) c2') (l.drop k) := by
      rcases Nat.eq_zero_or_pos l.length with h0 | h0
      · have hk0 : k = 0 := by omega
        subst hk0
        refine ⟨a, c, fun W => ?_, ⟨a, c, b, o, by rw [List.length_drop], fun h => absurd h (by rw [List.length_drop]; omega), by rw [List.length_drop]; omega, hcmx, fun j y hj => absurd (List.getElem?_eq_some_iff.1 hj).1 (by rw [List.length_drop]; omega)⟩⟩
        have h3 : (0 : Int) ≤ (c : Int) := by omega
        cases a with
        | none => simp [Instr.slice, Instr.sliceBounds, run_underlying Tryz.underlying23, go_sem, h0]
        | some ad =>
          have h0' : ad.add 0 = ad := by unfold Addr.add; split <;> simp_all
          simp [Instr.slice, Instr.sliceBounds, run_underlying Tryz.underlying23, go_sem, h0, h0']
      · obtain ⟨b', o', c', h1, h2⟩ := slice_from (enc := encF) (sz := 6) Tryz.underlying23 szFl ha hc hcmx hx k hk h0
        exact ⟨_, c', h1, h2⟩
    have HDrop := Lib.hid hdrop; clear hdrop
    rcases hstop with ⟨h1, -⟩ | ⟨hlt, x, hxk, ⟨hc1, hc2⟩ | ⟨hc1, hc2⟩⟩
    · have HPl := Lib.hid (HFirst.out (.inl h1))
      have fk : decide (k < l.length) = false := by simp; omega
      have hbW := hbw; have hb0W := hb
      clear h1 hj HFirst
      have hat1 : FilesAt wr (.slice a k c) (l.take k) := ⟨a, c, b, o, by rw [hlt1], fun h => ha (by rw [hlt1] at h; omega), by rw [hlt1]; omega, hcmx, fun j y hj u z hz => by
        have hj2 : j < k := by
          rcases Nat.lt_or_ge j k with h | h
          · exact h
          · rw [List.getElem?_eq_none (by rw [hlt1]; omega)] at hj; cases hj
        rw [List.getElem?_take_of_lt hj2] at hj
        have h1 := hx j y hj u z hz
        exact (hbW.cell (World.block_lt_of_cell? w _ h1)).trans h1⟩
      have hsrc1 := hat1.src encF_enc (by decide)
      rw [hlt1] at hsrc1
      obtain ⟨a2, c2', hrun2, hat2⟩ := HDrop.out
      have Hat2 := Lib.hid hat2
      have HRun2 := Lib.hid hrun2
      have HLT := Lib.hid hlt1; have HLD := Lib.hid hld1
      clear hat1 hat2 hrun2 hlt1 hld1
      have hr2 := HRun2.out
      go_wp2_with (first
        | (at_builtin; refine wpList_app rfl _ _ _ rfl w.heap.size elFl (.slice none 0 0) 0 [] rfl (Own.nil encF _ 6 _ _) _ _ _ rfl hsrc1 (by unfold maxLen; omega) (by omega) hbW.size ?_; intro v1 w2 hown1 hg1 _; have hown1' : Own encF 44 6 w.heap.size w2 v1 (l.take k) := (by unfold Own; rw [HLT.out]; simpa using hown1); have hb2 : Below w.heap.size w w2 := hbW.grown hg1 hbW.size (fun k hk => by cases hk); have hb02 : Below w0.heap.size w0 w2 := hb0W.grown hg1 hb0W.size (fun k hk => by cases hk); obtain ⟨c0, c1, c2, c3, c4, c5⟩ := CF.out _ hb02; clear hown1 hg1 hsrc1)
        | (at_builtin; refine wpList_app rfl _ _ _ rfl w.heap.size elFl v1 (l.take k).length _ rfl (hown1'.alloc _) (.slice (some ⟨w2.heap.size, 0, none⟩) 1 1) 1 (encF f) rfl (src_one rfl rfl (by simp [Value.oneCell'])) (by rw [HLT.out]; unfold maxLen; omega) (by rw [HLT.out]; omega) (by have := hb2.size; simp; omega) ?_; intro v2 w3 hown2 hg2 _; have hown2' := Own.snoc hown2; have hb3 : Below w.heap.size w w3 := (Bapp (hb2.alloc hb2.size _) (hown1'.alloc _) hg2 (Nat.le_refl _) (by have := hb2.size; simp; omega)); have hsrc3 := (Hat2.out.below hb3).src encF_enc (by decide); rw [HLD.out] at hsrc3; have hl3 : (l.take k ++ [f]).length = k + 1 := (by rw [List.length_append, HLT.out]; rfl); have HL3 := Lib.hid hl3; clear hown2 hg2 c0 c1 c2 c3 c4 c5 hl3)
        | (at_builtin; refine wpList_app rfl _ _ _ rfl w.heap.size elFl v2 (l.take k ++ [f]).length _ rfl hown2' _ _ _ rfl hsrc3 (by rw [HL3.out]; unfold maxLen; omega) (by rw [HL3.out]; omega) hb3.size ?_; intro v3 w4 hown3 hg3 _))
      have hown3' : Own encF 44 6 w.heap.size w4 v3 (placeF f l) := by
        rw [HPl.out, show l.take k ++ f :: l.drop k = (l.take k ++ [f]) ++ l.drop k by simp]
        unfold Own
        rw [List.length_append, List.flatMap_append, HLD.out]
        exact hown3
      have hb4 := Bapp hb3 hown2' hg3 (Nat.le_refl _) hb3.size
      go_ret
      exact ⟨_, rfl, hown3'.at encF_enc, hb4⟩
    · obtain ⟨c0, -⟩ := flCells hx hbw.drew hxk
      have p0 := (CF.out _ hb.drew).1
      have i1 := idx_at (c := c) 6 Tryz.underlying23 szFl ha k hlt
      have hk1 : (k : Int) < (l.length : Int) := by omega
      have hC := fun W => isBehind_any f.path x.path W hf.1 (HS.out x (List.mem_of_getElem? hxk)).1
      simp only [hc1] at hC
      have HC := Lib.hid hC; have HX := Lib.hid hxk; have HC2 := Lib.hid hc2
      clear hC hc1 hc2 hxk HFirst HDrop hsl1
      go_wp2_with fail
      go_region_held3 (fun w' => w'.cell? ⟨w.heap.size, 0, none⟩ = some (S f.path) ∧ w'.cell? ⟨b, o + k * 6, none⟩ = some (S x.path)) (exact ⟨p0, c0⟩) (first | (go_at_call 57; (with_reducible refine (HC.out _).mono ?_); rintro e w2 ⟨rfl, rfl⟩))
      go_wp2_with fail
      go_roundw
      case rel => exact ⟨k + 1, by omega, by go_num, (Lib.hid fun j g hj' hg => by
        rcases Nat.lt_or_ge j k with h | h
        · exact hj.out j g h hg
        · obtain rfl : j = k := by omega
          rw [HX.out] at hg; cases hg; exact HC2.out), hb.drew⟩
      case measure => simp [intOf]; omega
    · have HPl := Lib.hid (HFirst.out (.inr ⟨x, hxk, hc2⟩))
      obtain ⟨c0, -⟩ := flCells hx hbw.drew hxk
      have p0 := (CF.out _ hb.drew).1
      have i1 := idx_at (c := c) 6 Tryz.underlying23 szFl ha k hlt
      have hk1 : (k : Int) < (l.length : Int) := by omega
      have hC := fun W => isBehind_any f.path x.path W hf.1 (HS.out x (List.mem_of_getElem? hxk)).1
      simp only [hc1] at hC
      have HC := Lib.hid hC
      clear hC hc1 hc2 hxk HFirst
      go_wp2_with fail
      go_region_held3 (fun w' => w'.cell? ⟨w.heap.size, 0, none⟩ = some (S f.path) ∧ w'.cell? ⟨b, o + k * 6, none⟩ = some (S x.path)) (exact ⟨p0, c0⟩) (first | (go_at_call 57; (with_reducible refine (HC.out _).mono ?_); rintro e w2 ⟨rfl, rfl⟩))
      have hbW := hbw.drew; have hb0W := hb.drew
      clear hj p0 c0 i1
      have hat1 : FilesAt wr.drew (.slice a k c) (l.take k) := ⟨a, c, b, o, by rw [hlt1], fun h => ha (by rw [hlt1] at h; omega), by rw [hlt1]; omega, hcmx, fun j y hj u z hz => by
        have hj2 : j < k := by
          rcases Nat.lt_or_ge j k with h | h
          · exact h
          · rw [List.getElem?_eq_none (by rw [hlt1]; omega)] at hj; cases hj
        rw [List.getElem?_take_of_lt hj2] at hj
        have h1 := hx j y hj u z hz
        exact (hbW.cell (World.block_lt_of_cell? w _ h1)).trans h1⟩
      have hsrc1 := hat1.src encF_enc (by decide)
      rw [hlt1] at hsrc1
      obtain ⟨a2, c2', hrun2, hat2⟩ := HDrop.out
      have Hat2 := Lib.hid hat2
      have HRun2 := Lib.hid hrun2
      have HLT := Lib.hid hlt1; have HLD := Lib.hid hld1
      clear hat1 hat2 hrun2 hlt1 hld1
      have hr2 := HRun2.out
      go_wp2_with (first
        | (at_builtin; refine wpList_app rfl _ _ _ rfl w.heap.size elFl (.slice none 0 0) 0 [] rfl (Own.nil encF _ 6 _ _) _ _ _ rfl hsrc1 (by unfold maxLen; omega) (by omega) hbW.size ?_; intro v1 w2 hown1 hg1 _; have hown1' : Own encF 44 6 w.heap.size w2 v1 (l.take k) := (by unfold Own; rw [HLT.out]; simpa using hown1); have hb2 : Below w.heap.size w w2 := hbW.grown hg1 hbW.size (fun k hk => by cases hk); have hb02 : Below w0.heap.size w0 w2 := hb0W.grown hg1 hb0W.size (fun k hk => by cases hk); obtain ⟨c0, c1, c2, c3, c4, c5⟩ := CF.out _ hb02; clear hown1 hg1 hsrc1)
        | (at_builtin; refine wpList_app rfl _ _ _ rfl w.heap.size elFl v1 (l.take k).length _ rfl (hown1'.alloc _) (.slice (some ⟨w2.heap.size, 0, none⟩) 1 1) 1 (encF f) rfl (src_one rfl rfl (by simp [Value.oneCell'])) (by rw [HLT.out]; unfold maxLen; omega) (by rw [HLT.out]; omega) (by have := hb2.size; simp; omega) ?_; intro v2 w3 hown2 hg2 _; have hown2' := Own.snoc hown2; have hb3 : Below w.heap.size w w3 := (Bapp (hb2.alloc hb2.size _) (hown1'.alloc _) hg2 (Nat.le_refl _) (by have := hb2.size; simp; omega)); have hsrc3 := (Hat2.out.below hb3).src encF_enc (by decide); rw [HLD.out] at hsrc3; have hl3 : (l.take k ++ [f]).length = k + 1 := (by rw [List.length_append, HLT.out]; rfl); have HL3 := Lib.hid hl3; clear hown2 hg2 c0 c1 c2 c3 c4 c5 hl3)
        | (at_builtin; refine wpList_app rfl _ _ _ rfl w.heap.size elFl v2 (l.take k ++ [f]).length _ rfl hown2' _ _ _ rfl hsrc3 (by rw [HL3.out]; unfold maxLen; omega) (by rw [HL3.out]; omega) hb3.size ?_; intro v3 w4 hown3 hg3 _))
      have hown3' : Own encF 44 6 w.heap.size w4 v3 (placeF f l) := by
        rw [HPl.out, show l.take k ++ f :: l.drop k = (l.take k ++ [f]) ++ l.drop k by simp]
        unfold Own
        rw [List.length_append, List.flatMap_append, HLD.out]
        exact hown3
      have hb4 := Bapp hb3 hown2' hg3 (Nat.le_refl _) hb3.size
      go_ret
      exact ⟨_, rfl, hown3'.at encF_enc, hb4⟩
end Go.Proofs.YtefoaeamfkbgbaaGreatDoor
namespace Go.Proofs.YtefoaeamfkbgbaaGreatDoor
open Go.RowKit
attribute [local go_sem] bget bapp

theorem drop_cut {s : Str} {f k : Nat} (hf : f ≤ k) (hk : k < s.length) : s.drop f = (s.drop f).take (k - f) ++ s[k] :: s.drop (k + 1) := by
  have h1 : s.drop k = s[k] :: s.drop (k + 1) := List.drop_eq_getElem_cons hk
  have h2 : (s.drop f).drop (k - f) = s.drop k := by rw [List.drop_drop]; congr 1; omega
  rw [← h1, ← h2, List.take_append_drop]
theorem take_cut {s : Str} {f k : Nat} (hf : f ≤ k) (hk : k < s.length) : (s.drop f).take (k + 1 - f) = (s.drop f).take (k - f) ++ [s[k]] := by
  rw [show k + 1 - f = (k - f) + 1 by omega]
  refine take_snoc' ?_
  rw [List.getElem?_drop, show f + (k - f) = k by omega]; simp [hk]

set_option maxRecDepth 20000 in
set_option maxHeartbeats 400000 in
theorem refCut_any (s : Str) (c : UInt8) (w : World) (hs : s.length ≤ 100000) :
    Calls Tryz.prog 167 #[S s, .int .u8 c.toNat] w fun e w' => ∃ v', e = .returned v' ∧ Own encS 9 1 w.heap.size w' v' (cutAt c s) ∧ Below w.heap.size w w' := by
  go_enter Tryz.func167, Tryz.ntmps167
  go_wp2_with fail
  go_loopw [5, 6, 7] (fun o f i wr => ∃ (k m : Nat) (out : List Str), k ≤ s.length ∧ m ≤ k ∧ i = .int .i64 k ∧ f = .int .i64 m ∧ Hid (cutAt c s = out ++ cutAt c (s.drop m)) ∧ Hid (c ∉ (s.drop m).take (k - m)) ∧ out.length ≤ k ∧ Own encS 9 1 w.heap.size wr o out ∧ Below w.heap.size w wr) (fun _ _ i _ => s.length - (intOf i).toNat)
  case atStart => exact ⟨0, 0, [], by omega, by omega, rfl, rfl, rfl, by simp [Hid], by simp, Own.nil _ _ _ _ _, Below.refl _ _⟩
  case round =>
    obtain ⟨k, m, out, hk, hm, rfl, rfl, hcut, hno, hol, ho, hb⟩ := hrel
    have hmk : (m : Int) ≤ k := by omega
    have hks : (k : Int) ≤ s.length := by omega
    by_cases hlt : k < s.length
    · have hk1 : (k : Int) < s.length := by omega
      by_cases he : s[k] = c
      · have g1 : ((s[k].toNat : Int) == c.toNat) = true := by rw [he]; simp
        have hd := drop_cut hm hlt
        have hc2 : cutAt c s = (out ++ [(s.drop m).take (k - m)]) ++ cutAt c (s.drop (k + 1)) := by
          rw [hcut.out]
          have : cutAt c (s.drop m) = (s.drop m).take (k - m) :: cutAt c (s.drop (k + 1)) := by
            conv => lhs; rw [hd, he]
            exact cutAt_app hno.out
          rw [this]; simp
        have Hc := Lib.hid hc2
        clear he hd hc2
        go_wp2_with (at_builtin; refine wpList_app rfl _ _ _ rfl w.heap.size elStr _ out.length _ rfl (ho.alloc _) (.slice (some ⟨wr.heap.size, 0, none⟩) 1 1) 1 [.string ((ByteArray.mk s.toArray).extract m k)] rfl (src_one rfl rfl (by simp [Value.oneCell'])) (by unfold maxLen; omega) (by omega) (by have := hb.size; simp; omega) ?_; intro v' w2 hown hg _)
        rw [ByteArray.extract_mk] at hown
        go_roundw
        case rel => exact ⟨k + 1, k + 1, out ++ [(s.drop m).take (k - m)], by omega, by omega, by go_num, by go_num, Hc.out, by simp [Hid], by simp; omega, Own.snoc hown, Bapp (hb.alloc hb.size _) (ho.alloc _) hg (Nat.le_refl _) (by have := hb.size; simp; omega)⟩
        case measure => simp [intOf]; omega
      · have g1 : ((s[k].toNat : Int) == c.toNat) = false := by
          simp; intro h; apply he; apply UInt8.toNat_inj.1; exact Int.ofNat.inj h
        have hn2 : c ∉ (s.drop m).take (k + 1 - m) := by
          rw [take_cut hm hlt]; intro h
          rcases List.mem_append.1 h with h | h
          · exact hno.out h
          · exact he (List.mem_singleton.1 h).symm
        have Hn := Lib.hid hn2
        clear he hn2
        go_wp2_with fail
        go_roundw
        case rel => exact ⟨k + 1, m, out, by omega, by omega, by go_num, rfl, hcut, Hn, by omega, ho, hb⟩
        case measure => simp [intOf]; omega
    · obtain rfl : k = s.length := by omega
      have hc2 : cutAt c s = out ++ [s.drop m] := by
        have h := hno.out
        rw [List.take_of_length_le (by simp)] at h
        rw [hcut.out, cutAt_none h]
      have Hc := Lib.hid hc2
      clear hc2
      go_wp2_with (at_builtin; refine wpList_app rfl _ _ _ rfl w.heap.size elStr _ out.length _ rfl (ho.alloc _) (.slice (some ⟨wr.heap.size, 0, none⟩) 1 1) 1 [.string ((ByteArray.mk s.toArray).extract m s.length)] rfl (src_one rfl rfl (by simp [Value.oneCell'])) (by unfold maxLen; omega) (by omega) (by have := hb.size; simp; omega) ?_; intro v' w2 hown hg _)
      rw [extract_from] at hown
      go_ret
      exact ⟨_, rfl, by rw [Hc.out]; exact Own.snoc hown, Bapp (hb.alloc hb.size _) (ho.alloc _) hg (Nat.le_refl _) (by have := hb.size; simp; omega)⟩

theorem inInts_any (n : Int) (v : Value) (l : List Int) (w : World) (hl : IntsAt w v l) :
    Calls Tryz.prog 70 #[.int .i64 n, v] w fun e w' => e = .returned (.bool (decide (n ∈ l))) ∧ Below w.heap.size w w' := by
  obtain ⟨a, c, b, o, rfl, ha, hc, hcm, hx⟩ := hl
  unfold maxLen at hcm
  go_enter Tryz.func70, Tryz.ntmps70
  go_wp2_with fail
  go_loopw [5] (fun i wr => ∃ k : Nat, k ≤ l.length ∧ i = .int .i64 k ∧ Hid (∀ j < k, l[j]? ≠ some n) ∧ Below w.heap.size w wr) (fun i _ => l.length - (intOf i).toNat)
  case atStart => exact ⟨0, by omega, rfl, fun j hj => absurd hj (by omega), Below.refl _ _⟩
  case round =>
    obtain ⟨k, hk, rfl, hj, hb⟩ := hrel
    by_cases hlt : k < l.length
    · obtain ⟨x, hxk⟩ := get_ex hlt
      have c1 := hx k x hxk 0 _ rfl
      have c1 := (hb.cell (World.block_lt_of_cell? w _ c1)).trans c1
      have i1 := idx_at (c := c) 1 Tryz.underlying26 szInt ha k hlt
      have hk1 : (k : Int) < (l.length : Int) := by omega
      simp only [Nat.mul_one, Nat.add_zero] at c1 i1
      have Hx := Lib.hid hxk; clear hxk
      go_wp2_with fail
      · have he : x = n := by simpa using ‹(x == n) = true›
        go_ret
        exact ⟨ret_bool (decide_eq_true (by rw [← he]; exact List.mem_of_getElem? Hx.out)).symm, hb⟩
      · have hne' : x ≠ n := by simpa using ‹(x == n) = false›
        go_roundw
        case rel => exact ⟨k + 1, by omega, by go_num, (fun j hj' => by
          rcases Nat.lt_or_ge j k with h | h
          · exact hj.out j h
          · obtain rfl : j = k := by omega
            rw [Hx.out]; exact fun e => hne' (Option.some.inj e)), hb⟩
        case measure => simp [intOf]; omega
    · obtain rfl : k = l.length := by omega
      go_wp2_with fail
      go_ret
      refine ⟨ret_bool (decide_eq_false fun e => ?_).symm, hb⟩
      obtain ⟨j, hjl, hje⟩ := List.getElem_of_mem e
      exact hj.out j hjl (by simp [hjl, hje])

end Go.Proofs.YtefoaeamfkbgbaaGreatDoor
