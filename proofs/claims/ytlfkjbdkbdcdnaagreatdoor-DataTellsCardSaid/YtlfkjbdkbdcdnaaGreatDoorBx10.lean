/- deedboxref2.IDsFault: the walk. The document's answer on files: FileError, FileText, IsBehind, FindOf, ListFault, ListText: the walks. The document's answer on files: FileText: the walk. slices.BinarySearchFunc at []api.File; list.Find, Add, Remove. list.Add, list.Remove. slices.DeleteFunc, in plain words. Of no program. slices.DeleteFunc at []api.File; list.Prune. The document's answer on lists: FindOf, Without, PruneOf, Placed: the walks. deedboxref1.Cut, InInts; deedboxref2.IDsText: the walks. The document's answer on rows: RowError, RowText, IsLess, SameRows, DropRows, WithinRows: the walks. -/
import Derived.Test.YtlfkjbdkbdcdnaaGreatDoorBx9
import Derived.Laws.Rows
import Derived.Laws.Tables
import Derived.Test.YtlfkjbdkbdcdnaaGreatDoorBx7
import Derived.Deep.RegionHeld3
import Derived.Test.YtlfkjbdkbdcdnaaGreatDoorBx6
import Derived.Deep.LoopGhost
import Derived.Test.YtlfkjbdkbdcdnaaGreatDoorBx5
import Derived.Test.YtlfkjbdkbdcdnaaGreatDoorBx8
import Derived.Test.YtlfkjbdkbdcdnaaGreatDoorBx3
import Derived.Laws.StructEq
namespace Go.Proofs.YtlfkjbdkbdcdnaaGreatDoor
open Go.RowKit

def faultOf (er : Er) : Value := faultV er.code er.place

theorem results_tmp_cell {P : Program} {fn : Func} {u p : Tmp} {ty : TypeId} (h : fn.results = #[.tmp u, .cell p ty]) (tmps : Array Value) (w : World) (g : Nat) (t : TypeId) (cs : Array Value) (fr : Nat × Nat) (d : TypeDesc)
    (hp : tmps.getD p undef = .pointer (some ⟨g, 0, none⟩)) (hg : w.heap[g]? = some (.cells cs t fr))
    (hu : P.underlying ty = some d) (hd : (match d with | .struct _ | .array _ _ => true | _ => false) = true) (hi : (P.info? ty).map (·.size) = some cs.size) {v : Value} (hv : tmps.getD u undef = v) :
    (results fn tmps).run P w = .ok (.tuple #[v, .agg cs]) w := by
  have hp' : tmps[p]?.getD undef = .pointer (some ⟨g, 0, none⟩) := by simpa using hp
  have hv' : tmps[u]?.getD undef = v := by simpa using hv
  simp [results, h, hp', hv', asAddr, run_loadVar_row w g t ty cs fr d hg hu hd hi]

theorem firstFrom_code {f : Nat → Nat} : ∀ {m i : Nat}, firstFrom f i m ≠ .nil → 0 < (firstFrom f i m).code
  | 0, _, h => absurd rfl h
  | m + 1, i, h => by
    rw [firstFrom] at h ⊢
    split
    · rename_i h0; rw [if_pos h0] at h; exact firstFrom_code h
    · rename_i h0; exact Nat.pos_of_ne_zero h0
theorem set_two {w : World} {g : Nat} {a b : Value} {t : TypeId} (hg : w.heap[g]? = some (.cells #[a, b] t (0, 0))) (x y : Value) : ((w.setCell ⟨g, 0, none⟩ x).setCell ⟨g, 1, none⟩ y).heap[g]? = some (.cells #[x, y] t (0, 0)) := by
  have h1 := heap_setCell_same w g 0 #[a, b] t x hg
  have h2 := heap_setCell_same _ g 1 _ t y h1
  simpa using h2

end Go.Proofs.YtlfkjbdkbdcdnaaGreatDoor
namespace Go.Proofs.YtlfkjbdkbdcdnaaGreatDoor
open Go.RowKit

/-- A file's fault, by its ways. -/
theorem fileErr_ways (f : Fl) : (pathF f.path = none ∧ checkF f = 5) ∨ (∃ n, pathF f.path = some (kGone, n) ∧ ((f.part ≠ [45] ∧ checkF f = 4) ∨ (f.part = [45] ∧ checkF f = if boundF f then 2 else 0))) ∨
    (∃ n, pathF f.path = some (kData, n) ∧ ((nameB f.part 12 = false ∧ checkF f = 4) ∨ (nameB f.part 12 = true ∧ checkF f = if boundF f then 2 else 0))) := by
  cases hp : pathF f.path with
  | none => exact .inl ⟨rfl, by unfold checkF; rw [if_pos hp]⟩
  | some kn =>
    obtain ⟨k, n⟩ := kn
    have hkf : kindF f.path = k := by unfold kindF; rw [hp]; rfl
    have hc : checkF f = if partOk k f.part = false then 4 else if boundF f then 2 else 0 := by
      unfold checkF; rw [hp, hkf, if_neg (by simp)]
    rcases (pathF_some hp).1 with rfl | rfl
    · refine .inr (.inr ⟨n, rfl, ?_⟩)
      rw [nameB_part (by decide)] at hc
      cases hb : nameB f.part 12 with
      | false => exact .inl ⟨rfl, by rw [hc, hb, if_pos rfl]⟩
      | true => exact .inr ⟨rfl, by rw [hc, hb, if_neg (by simp)]⟩
    · refine .inr (.inl ⟨n, rfl, ?_⟩)
      by_cases h : f.part = [45]
      · exact .inr ⟨h, by rw [hc, if_neg (by unfold partOk; rw [if_pos rfl, h]; decide)]⟩
      · exact .inl ⟨h, by rw [hc, if_pos (by unfold partOk; rw [if_pos rfl]; simpa using h)]⟩
theorem bound_ways (f : Fl) : (boundF f ∧ (f.n < 1 ∨ (decide (f.n < 1) = false ∧ (40 < f.n ∨ (decide (40 < f.n) = false ∧ (decide (farN f.lo) = true ∨ (decide (farN f.lo) = false ∧ (decide (farN f.hi) = true ∨ (decide (farN f.hi) = false ∧ (f.hi < f.lo ∨ (decide (f.hi < f.lo) = false ∧ (f.seq < 1 ∨ (decide (f.seq < 1) = false ∧ 1073741824 < f.seq))))))))))))) ∨
    (¬ boundF f ∧ decide (f.n < 1) = false ∧ decide (40 < f.n) = false ∧ decide (farN f.lo) = false ∧ decide (farN f.hi) = false ∧ decide (f.hi < f.lo) = false ∧ decide (f.seq < 1) = false ∧ decide (1073741824 < f.seq) = false) := by
  simp only [decide_eq_true_eq, decide_eq_false_iff_not]
  unfold boundF
  by_cases h1 : farN f.lo <;> by_cases h2 : farN f.hi <;> simp only [h1, h2, true_or, or_true, false_or, or_false, true_and, and_true, false_and, and_false, not_true_eq_false, not_false_eq_true] <;> omega

set_option maxHeartbeats 4000000 in
set_option maxRecDepth 20000 in
theorem fileError_any (f : Fl) (w : World) (hs : midF f) :
    Calls Tryz.prog 47 #[fileV f] w fun e w' => e = .returned (.int .i64 (checkF f : Nat)) ∧ Below w.heap.size w w' := by
  have hb0 : Below w.heap.size w (w.alloc (.cells #[S f.path, S f.part, .int .i64 f.n, .int .i64 f.lo, .int .i64 f.hi, .int .i64 f.seq] 79)) := (Below.refl _ _).alloc (Nat.le_refl _) _
  obtain ⟨c0, c1, c2, c3, c4, c5⟩ := fileCells (f := f) (w := w) rfl (Below.refl _ (w.alloc (.cells #[S f.path, S f.part, .int .i64 f.n, .int .i64 f.lo, .int .i64 f.hi, .int .i64 f.seq] 79)))
  have hP := fun W => pathOf_any f.path W hs.1
  have hNm := fun W => isName_any f.part 12 W hs.2
  have HNm := Lib.hid hNm
  clear hNm
  rcases fileErr_ways f with ⟨hp, hc⟩ | ⟨n, hp, hw⟩ | ⟨n, hp, hw⟩
  · rw [show pathE f.path = 5 by unfold pathE; rw [hp]; rfl, show kindF f.path = [] by unfold kindF; rw [hp]; rfl, show numF f.path = 0 by unfold numF; rw [hp]; rfl] at hP
    rw [hc]
    have HP := Lib.hid hP
    clear hP hc hp
    go_enter Tryz.func47, Tryz.ntmps47
    go_wp2_with (go_at_call 45; refine (HP.out _).mono ?_; rintro e w' ⟨rfl, rfl⟩)
    go_ret
    exact ⟨rfl, hb0⟩
  · rw [show pathE f.path = 0 by unfold pathE; rw [hp]; rfl, show kindF f.path = kGone by unfold kindF; rw [hp]; rfl] at hP
    generalize numF f.path = nf at *
    have HP := Lib.hid hP
    clear hP hp
    rcases hw with ⟨h1, hc⟩ | ⟨h1, hc⟩
    · have g1 : (f.part == [45]) = false := by simpa using h1
      rw [hc]
      clear h1 hc
      go_enter Tryz.func47, Tryz.ntmps47
      go_wp2_with (first | (go_at_call 45; refine (HP.out _).mono ?_; rintro e w' ⟨rfl, rfl⟩) | (go_at_call 76; refine (HNm.out _).mono ?_; rintro e w' ⟨rfl, rfl⟩))
      go_ret
      exact ⟨rfl, hb0⟩
    · have g1 : (f.part == [45]) = true := by simpa using h1
      clear h1
      generalize nameB f.part 12 = nb at *
      rcases bound_ways f with ⟨hb, hw⟩ | ⟨hb, b1, b2, b3, b4, b5, b6, b7⟩
      · rw [hc, if_pos hb]
        clear hc hb
        rcases hw with b1 | ⟨b1, b2 | ⟨b2, b3 | ⟨b3, b4 | ⟨b4, b5 | ⟨b5, b6 | ⟨b6, b7⟩⟩⟩⟩⟩⟩
        all_goals
          go_enter Tryz.func47, Tryz.ntmps47
          go_wp2_with (first | (go_at_call 45; refine (HP.out _).mono ?_; rintro e w' ⟨rfl, rfl⟩) | (go_at_call 76; refine (HNm.out _).mono ?_; rintro e w' ⟨rfl, rfl⟩) | (go_at_call 77; refine (isFar_any _ _).mono ?_; rintro e w' ⟨rfl, rfl⟩))
          all_goals
            go_ret
            exact ⟨rfl, hb0⟩
      · rw [hc, if_neg hb]
        clear hc hb
        go_enter Tryz.func47, Tryz.ntmps47
        go_wp2_with (first | (go_at_call 45; refine (HP.out _).mono ?_; rintro e w' ⟨rfl, rfl⟩) | (go_at_call 76; refine (HNm.out _).mono ?_; rintro e w' ⟨rfl, rfl⟩) | (go_at_call 77; refine (isFar_any _ _).mono ?_; rintro e w' ⟨rfl, rfl⟩))
        go_ret
        exact ⟨rfl, hb0⟩
  · rw [show pathE f.path = 0 by unfold pathE; rw [hp]; rfl, show kindF f.path = kData by unfold kindF; rw [hp]; rfl] at hP
    generalize numF f.path = nf at *
    have HP := Lib.hid hP
    clear hP hp
    rcases hw with ⟨h1, hc⟩ | ⟨h1, hc⟩
    · rw [h1] at HNm
      rw [hc]
      clear h1 hc
      go_enter Tryz.func47, Tryz.ntmps47
      go_wp2_with (first | (go_at_call 45; refine (HP.out _).mono ?_; rintro e w' ⟨rfl, rfl⟩) | (go_at_call 76; refine (HNm.out _).mono ?_; rintro e w' ⟨rfl, rfl⟩))
      go_ret
      exact ⟨rfl, hb0⟩
    · rw [h1] at HNm
      clear h1
      rcases bound_ways f with ⟨hb, hw⟩ | ⟨hb, b1, b2, b3, b4, b5, b6, b7⟩
      · rw [hc, if_pos hb]
        clear hc hb
        rcases hw with b1 | ⟨b1, b2 | ⟨b2, b3 | ⟨b3, b4 | ⟨b4, b5 | ⟨b5, b6 | ⟨b6, b7⟩⟩⟩⟩⟩⟩
        all_goals
          go_enter Tryz.func47, Tryz.ntmps47
          go_wp2_with (first | (go_at_call 45; refine (HP.out _).mono ?_; rintro e w' ⟨rfl, rfl⟩) | (go_at_call 76; refine (HNm.out _).mono ?_; rintro e w' ⟨rfl, rfl⟩) | (go_at_call 77; refine (isFar_any _ _).mono ?_; rintro e w' ⟨rfl, rfl⟩))
          all_goals
            go_ret
            exact ⟨rfl, hb0⟩
      · rw [hc, if_neg hb]
        clear hc hb
        go_enter Tryz.func47, Tryz.ntmps47
        go_wp2_with (first | (go_at_call 45; refine (HP.out _).mono ?_; rintro e w' ⟨rfl, rfl⟩) | (go_at_call 76; refine (HNm.out _).mono ?_; rintro e w' ⟨rfl, rfl⟩) | (go_at_call 77; refine (isFar_any _ _).mono ?_; rintro e w' ⟨rfl, rfl⟩))
        go_ret
        exact ⟨rfl, hb0⟩

end Go.Proofs.YtlfkjbdkbdcdnaaGreatDoor
namespace Go.Proofs.YtlfkjbdkbdcdnaaGreatDoor
open Go.RowKit

set_option maxHeartbeats 1000000 in
set_option maxRecDepth 20000 in
theorem refFileText_any (f : Fl) (w : World) (hs : midF f) (hc : checkF f = 0) :
    Calls Tryz.prog 49 #[fileV f] w fun e w' => e = .returned (S (fileLine f)) ∧ Below w.heap.size w w' := by
  have hb0 : Below w.heap.size w (w.alloc (.cells #[S f.path, S f.part, .int .i64 f.n, .int .i64 f.lo, .int .i64 f.hi, .int .i64 f.seq] 79)) := (Below.refl _ _).alloc (Nat.le_refl _) _
  have CF := Lib.hid (fun w6 (h : Below (w.alloc (.cells #[S f.path, S f.part, .int .i64 f.n, .int .i64 f.lo, .int .i64 f.hi, .int .i64 f.seq] 79)).heap.size (w.alloc (.cells #[S f.path, S f.part, .int .i64 f.n, .int .i64 f.lo, .int .i64 f.hi, .int .i64 f.seq] 79)) w6) => fileCells (f := f) rfl h)
  obtain ⟨c0, c1, c2, c3, c4, c5⟩ := CF.out _ (Below.refl _ _)
  have hfe := fileError_any f (w.alloc (.cells #[S f.path, S f.part, .int .i64 f.n, .int .i64 f.lo, .int .i64 f.hi, .int .i64 f.seq] 79)) hs
  rw [hc] at hfe
  have HFe := Lib.hid hfe
  have hbd : -1073741824 ≤ f.lo ∧ f.lo ≤ 1073741824 ∧ -1073741824 ≤ f.hi ∧ f.hi ≤ 1073741824 ∧ 1 ≤ f.n ∧ f.n ≤ 40 ∧ 1 ≤ f.seq ∧ f.seq ≤ 1073741824 := by
    obtain ⟨-, -, -, -, h⟩ := checkF_zero hc
    unfold boundF farN at h
    omega
  obtain ⟨q1, q2, q3, q4, q5, q6, q7, q8⟩ := hbd
  have l1 := itoa_len f.n (by omega) (by omega)
  have l2 := itoa_len f.lo (by omega) (by omega)
  have l3 := itoa_len f.hi (by omega) (by omega)
  have l4 := itoa_len f.seq (by omega) (by omega)
  have d1 := fun W => decimal_any f.n W (by omega) (by omega)
  have d2 := fun W => decimal_any f.lo W (by omega) (by omega)
  have d3 := fun W => decimal_any f.hi W (by omega) (by omega)
  have d4 := fun W => decimal_any f.seq W (by omega) (by omega)
  have hp1 := hs.1
  have hp2 := hs.2
  have hfl : fileLine f = f.path ++ 32 :: f.part ++ numsTail [f.n, f.lo, f.hi, f.seq] := rfl
  have HFl := Lib.hid hfl
  clear hfe hfl hc q1 q2 q3 q4 q5 q6 q7 q8
  generalize ht1 : Lib.itoa f.n = t1 at *
  generalize ht2 : Lib.itoa f.lo = t2 at *
  generalize ht3 : Lib.itoa f.hi = t3 at *
  generalize ht4 : Lib.itoa f.seq = t4 at *
  have D1 := Lib.hid d1; have D2 := Lib.hid d2; have D3 := Lib.hid d3; have D4 := Lib.hid d4
  clear d1 d2 d3 d4
  have r1 := cat_run ⟨f.path.toArray⟩ ⟨#[32]⟩ (f.path.length) (1) rfl rfl (by omega)
  have r2 := cat_run (⟨f.path.toArray⟩ ++ ⟨#[32]⟩) ⟨f.part.toArray⟩ (f.path.length + 1) (f.part.length) (by simp only [ByteArray.size_append]; rfl) rfl (by omega)
  have r3 := cat_run (⟨f.path.toArray⟩ ++ ⟨#[32]⟩ ++ ⟨f.part.toArray⟩) ⟨#[32]⟩ (f.path.length + 1 + f.part.length) (1) (by simp only [ByteArray.size_append]; rfl) rfl (by omega)
  have r4 := cat_run (⟨f.path.toArray⟩ ++ ⟨#[32]⟩ ++ ⟨f.part.toArray⟩ ++ ⟨#[32]⟩) ⟨t1.toArray⟩ (f.path.length + 1 + f.part.length + 1) (t1.length) (by simp only [ByteArray.size_append]; rfl) rfl (by omega)
  have r5 := cat_run (⟨f.path.toArray⟩ ++ ⟨#[32]⟩ ++ ⟨f.part.toArray⟩ ++ ⟨#[32]⟩ ++ ⟨t1.toArray⟩) ⟨#[32]⟩ (f.path.length + 1 + f.part.length + 1 + t1.length) (1) (by simp only [ByteArray.size_append]; rfl) rfl (by omega)
  have r6 := cat_run (⟨f.path.toArray⟩ ++ ⟨#[32]⟩ ++ ⟨f.part.toArray⟩ ++ ⟨#[32]⟩ ++ ⟨t1.toArray⟩ ++ ⟨#[32]⟩) ⟨t2.toArray⟩ (f.path.length + 1 + f.part.length + 1 + t1.length + 1) (t2.length) (by simp only [ByteArray.size_append]; rfl) rfl (by omega)
  have r7 := cat_run (⟨f.path.toArray⟩ ++ ⟨#[32]⟩ ++ ⟨f.part.toArray⟩ ++ ⟨#[32]⟩ ++ ⟨t1.toArray⟩ ++ ⟨#[32]⟩ ++ ⟨t2.toArray⟩) ⟨#[32]⟩ (f.path.length + 1 + f.part.length + 1 + t1.length + 1 + t2.length) (1) (by simp only [ByteArray.size_append]; rfl) rfl (by omega)
  have r8 := cat_run (⟨f.path.toArray⟩ ++ ⟨#[32]⟩ ++ ⟨f.part.toArray⟩ ++ ⟨#[32]⟩ ++ ⟨t1.toArray⟩ ++ ⟨#[32]⟩ ++ ⟨t2.toArray⟩ ++ ⟨#[32]⟩) ⟨t3.toArray⟩ (f.path.length + 1 + f.part.length + 1 + t1.length + 1 + t2.length + 1) (t3.length) (by simp only [ByteArray.size_append]; rfl) rfl (by omega)
  have r9 := cat_run (⟨f.path.toArray⟩ ++ ⟨#[32]⟩ ++ ⟨f.part.toArray⟩ ++ ⟨#[32]⟩ ++ ⟨t1.toArray⟩ ++ ⟨#[32]⟩ ++ ⟨t2.toArray⟩ ++ ⟨#[32]⟩ ++ ⟨t3.toArray⟩) ⟨#[32]⟩ (f.path.length + 1 + f.part.length + 1 + t1.length + 1 + t2.length + 1 + t3.length) (1) (by simp only [ByteArray.size_append]; rfl) rfl (by omega)
  have r10 := cat_run (⟨f.path.toArray⟩ ++ ⟨#[32]⟩ ++ ⟨f.part.toArray⟩ ++ ⟨#[32]⟩ ++ ⟨t1.toArray⟩ ++ ⟨#[32]⟩ ++ ⟨t2.toArray⟩ ++ ⟨#[32]⟩ ++ ⟨t3.toArray⟩ ++ ⟨#[32]⟩) ⟨t4.toArray⟩ (f.path.length + 1 + f.part.length + 1 + t1.length + 1 + t2.length + 1 + t3.length + 1) (t4.length) (by simp only [ByteArray.size_append]; rfl) rfl (by omega)
  have HAll : Hid ((⟨f.path.toArray⟩ : ByteArray) ++ ⟨#[32]⟩ ++ ⟨f.part.toArray⟩ ++ ⟨#[32]⟩ ++ ⟨t1.toArray⟩ ++ ⟨#[32]⟩ ++ ⟨t2.toArray⟩ ++ ⟨#[32]⟩ ++ ⟨t3.toArray⟩ ++ ⟨#[32]⟩ ++ ⟨t4.toArray⟩ = ⟨(fileLine f).toArray⟩) := Lib.hid (by
    rw [HFl.out]
    simp only [numsTail, List.flatMap_cons, List.flatMap_nil, ht1, ht2, ht3, ht4]
    apply ByteArray.ext
    simp)
  clear ht1 ht2 ht3 ht4
  go_enter Tryz.func49, Tryz.ntmps49
  go_wp2_with fail
  generalize w.alloc (.cells #[S f.path, S f.part, .int .i64 f.n, .int .i64 f.lo, .int .i64 f.hi, .int .i64 f.seq] 79) = w0 at *
  refine HFe.out.mono ?_
  rintro e w1 ⟨rfl, hb1⟩
  have hb1d := hb1.drew
  clear c0 c1 c2 c3 c4 c5
  obtain ⟨c0, c1, c2, c3, c4, c5⟩ := CF.out _ hb1d
  go_wp2_with fail
  go_region_held3 (fun w' => w'.cell? ⟨w.heap.size, 0, none⟩ = some (S f.path) ∧ w'.cell? ⟨w.heap.size, 1, none⟩ = some (S f.part) ∧ w'.cell? ⟨w.heap.size, 2, none⟩ = some (.int .i64 f.n) ∧ w'.cell? ⟨w.heap.size, 3, none⟩ = some (.int .i64 f.lo) ∧ w'.cell? ⟨w.heap.size, 4, none⟩ = some (.int .i64 f.hi) ∧ w'.cell? ⟨w.heap.size, 5, none⟩ = some (.int .i64 f.seq)) (exact ⟨c0, c1, c2, c3, c4, c5⟩) (first | (go_at_call 78; (with_reducible refine (D1.out _).mono ?_); rintro e v1 ⟨rfl, hd1⟩; have c0 := (hd1.cell (World.block_lt_of_cell? _ _ c0)).trans c0; have c1 := (hd1.cell (World.block_lt_of_cell? _ _ c1)).trans c1; have c2 := (hd1.cell (World.block_lt_of_cell? _ _ c2)).trans c2; have c3 := (hd1.cell (World.block_lt_of_cell? _ _ c3)).trans c3; have c4 := (hd1.cell (World.block_lt_of_cell? _ _ c4)).trans c4; have c5 := (hd1.cell (World.block_lt_of_cell? _ _ c5)).trans c5) | (go_at_call 78; (with_reducible refine (D2.out _).mono ?_); rintro e v2 ⟨rfl, hd2⟩; have c0 := (hd2.cell (World.block_lt_of_cell? _ _ c0)).trans c0; have c1 := (hd2.cell (World.block_lt_of_cell? _ _ c1)).trans c1; have c2 := (hd2.cell (World.block_lt_of_cell? _ _ c2)).trans c2; have c3 := (hd2.cell (World.block_lt_of_cell? _ _ c3)).trans c3; have c4 := (hd2.cell (World.block_lt_of_cell? _ _ c4)).trans c4; have c5 := (hd2.cell (World.block_lt_of_cell? _ _ c5)).trans c5) | (go_at_call 78; (with_reducible refine (D3.out _).mono ?_); rintro e v3 ⟨rfl, hd3⟩; have c0 := (hd3.cell (World.block_lt_of_cell? _ _ c0)).trans c0; have c1 := (hd3.cell (World.block_lt_of_cell? _ _ c1)).trans c1; have c2 := (hd3.cell (World.block_lt_of_cell? _ _ c2)).trans c2; have c3 := (hd3.cell (World.block_lt_of_cell? _ _ c3)).trans c3; have c4 := (hd3.cell (World.block_lt_of_cell? _ _ c4)).trans c4; have c5 := (hd3.cell (World.block_lt_of_cell? _ _ c5)).trans c5) | (go_at_call 78; (with_reducible refine (D4.out _).mono ?_); rintro e v4 ⟨rfl, hd4⟩; have c0 := (hd4.cell (World.block_lt_of_cell? _ _ c0)).trans c0; have c1 := (hd4.cell (World.block_lt_of_cell? _ _ c1)).trans c1; have c2 := (hd4.cell (World.block_lt_of_cell? _ _ c2)).trans c2; have c3 := (hd4.cell (World.block_lt_of_cell? _ _ c3)).trans c3; have c4 := (hd4.cell (World.block_lt_of_cell? _ _ c4)).trans c4; have c5 := (hd4.cell (World.block_lt_of_cell? _ _ c5)).trans c5))
  go_wp2_with fail
  go_ret
  refine ⟨?_, ?_⟩
  · show Ending.returned (.string ((⟨f.path.toArray⟩ : ByteArray) ++ ⟨#[32]⟩ ++ ⟨f.part.toArray⟩ ++ ⟨#[32]⟩ ++ ⟨t1.toArray⟩ ++ ⟨#[32]⟩ ++ ⟨t2.toArray⟩ ++ ⟨#[32]⟩ ++ ⟨t3.toArray⟩ ++ ⟨#[32]⟩ ++ ⟨t4.toArray⟩)) = _
    rw [HAll.out]
  · have hbw1 := hb0.trans (hb1d.mono hb0.size)
    have h1 := hbw1.trans (hd1.mono hbw1.size)
    have h2 := h1.trans (hd2.mono h1.size)
    have h3 := h2.trans (hd3.mono h2.size)
    exact h3.trans (hd4.mono h3.size)
end Go.Proofs.YtlfkjbdkbdcdnaaGreatDoor
namespace Go.Proofs.YtlfkjbdkbdcdnaaGreatDoor
open Go.RowKit


def findV (l : List Fl) (p : Str) : Int := idxVal (fun f => f.path == p) l

end Go.Proofs.YtlfkjbdkbdcdnaaGreatDoor
namespace Go.Proofs.YtlfkjbdkbdcdnaaGreatDoor
open Go.RowKit

theorem addE_bad {l : List Fl} {f : Fl} (h : listCheck l ≠ .nil) : addE l f = listCheck l := if_pos h
theorem addE_file {l : List Fl} {f : Fl} (h : listCheck l = .nil) (h1 : checkF f ≠ 0) : addE l f = .bare (checkF f) := by unfold addE; rw [if_neg (by simp [h]), if_pos h1]
theorem addE_there {l : List Fl} {f : Fl} (h : listCheck l = .nil) (h1 : checkF f = 0) (h2 : thereF l f) : addE l f = .bare 7 := by unfold addE; rw [if_neg (by simp [h]), if_neg (by simp [h1]), if_pos h2]
theorem addE_full {l : List Fl} {f : Fl} (h : listCheck l = .nil) (h1 : checkF f = 0) (h2 : ¬ thereF l f) (h3 : 60 ≤ l.length) : addE l f = .bare 8 := by unfold addE; rw [if_neg (by simp [h]), if_neg (by simp [h1]), if_neg h2, if_pos h3]
theorem addE_nil {l : List Fl} {f : Fl} (h : listCheck l = .nil) (h1 : checkF f = 0) (h2 : ¬ thereF l f) (h3 : ¬ 60 ≤ l.length) : addE l f = .nil := by unfold addE; rw [if_neg (by simp [h]), if_neg (by simp [h1]), if_neg h2, if_neg h3]
theorem addL_bad {l : List Fl} {f : Fl} (h : addE l f ≠ .nil) : addL l f = [] := if_neg h


theorem removeE_bad {l : List Fl} {p : Str} (h : listCheck l ≠ .nil) : removeE l p = listCheck l := if_pos h
theorem removeE_none {l : List Fl} {p : Str} (h : listCheck l = .nil) (h1 : findF l p = none) : removeE l p = .bare 6 := by unfold removeE; rw [if_neg (by simp [h]), if_pos (by rw [h1]; rfl)]
theorem removeE_nil {l : List Fl} {p : Str} {k : Nat} (h : listCheck l = .nil) (h1 : findF l p = some k) : removeE l p = .nil := by unfold removeE; rw [if_neg (by simp [h]), if_neg (by rw [h1]; simp)]
theorem removeL_bad {l : List Fl} {p : Str} (h : removeE l p ≠ .nil) : removeL l p = [] := if_neg h
theorem findF_some {l : List Fl} {p : Str} {k : Nat} (h : findF l p = some k) : ∃ x, l[k]? = some x ∧ x.path = p := by
  unfold findF at h
  obtain ⟨hk, h1, -⟩ := List.findIdx?_eq_some_iff_getElem.1 h
  exact ⟨l[k], List.getElem?_eq_getElem hk, by simpa using h1⟩
theorem findV_some {l : List Fl} {p : Str} {k : Nat} (h : findF l p = some k) : findV l p = k := by
  unfold findF at h; unfold findV idxVal; rw [h]
theorem findV_none {l : List Fl} {p : Str} (h : findF l p = none) : findV l p = -1 := by
  unfold findF at h; unfold findV idxVal; rw [h]
theorem find_mem {l : List Fl} {p : Str} : 0 ≤ findV l p ↔ ∃ f ∈ l, f.path = p := by
  cases hf : findF l p with
  | none =>
    rw [findV_none hf]
    have := findF_none.1 hf
    constructor
    · intro h; omega
    · rintro ⟨f, h1, h2⟩; exact absurd h2 (this f h1)
  | some k =>
    rw [findV_some hf]
    obtain ⟨x, h1, h2⟩ := findF_some hf
    exact ⟨fun _ => ⟨x, List.mem_of_getElem? h1, h2⟩, fun _ => by omega⟩
end Go.Proofs.YtlfkjbdkbdcdnaaGreatDoor
namespace Go.Proofs.YtlfkjbdkbdcdnaaGreatDoor

/-- How far the list is, and what it holds by then. -/
def DelRel {α : Type} (p : α → Bool) (l : List α) (i j : Nat) (ys : List α) : Prop :=
  i < j ∧ j ≤ l.length ∧ ys.length = l.length ∧ ys.take i = (l.take j).filter (fun x => !p x) ∧ ys.drop j = l.drop j

theorem filter_take_none {α : Type} {p : α → Bool} {l : List α} {k : Nat} (h : ∀ (j : Nat) (y : α), j < k → l[j]? = some y → p y = false) : (l.take k).filter (fun x => !p x) = l.take k := by
  refine List.filter_eq_self.2 fun x hx => ?_
  obtain ⟨j, hj, he⟩ := List.getElem_of_mem hx
  rw [List.length_take] at hj
  have : l[j]? = some x := by rw [List.getElem_take] at he; simp [he, show j < l.length by omega]
  simp [h j x (by omega) this]
theorem DelRel.start {α : Type} {p : α → Bool} {l : List α} {k : Nat} {x : α} (hk : l[k]? = some x) (hp : p x = true) (h : ∀ (j : Nat) (y : α), j < k → l[j]? = some y → p y = false) : DelRel p l k (k + 1) l := by
  have hlt : k < l.length := by
    rcases Nat.lt_or_ge k l.length with h' | h'
    · exact h'
    · rw [List.getElem?_eq_none h'] at hk; cases hk
  refine ⟨by omega, by omega, rfl, ?_, rfl⟩
  rw [List.take_add_one, hk, List.filter_append, filter_take_none h]
  simp [hp]
theorem DelRel.skip {α : Type} {p : α → Bool} {l ys : List α} {i j : Nat} {x : α} (h : DelRel p l i j ys) (hx : l[j]? = some x) (hp : p x = true) : DelRel p l i (j + 1) ys := by
  obtain ⟨h1, h2, h3, h4, h5⟩ := h
  have hlt : j < l.length := by
    rcases Nat.lt_or_ge j l.length with h' | h'
    · exact h'
    · rw [List.getElem?_eq_none h'] at hx; cases hx
  refine ⟨by omega, by omega, h3, ?_, ?_⟩
  · rw [h4, List.take_add_one, hx, List.filter_append]; simp [hp]
  · rw [← List.drop_drop, h5, List.drop_drop]
theorem DelRel.keep {α : Type} {p : α → Bool} {l ys : List α} {i j : Nat} {x : α} (h : DelRel p l i j ys) (hx : l[j]? = some x) (hp : p x = false) : DelRel p l (i + 1) (j + 1) (ys.set i x) := by
  obtain ⟨h1, h2, h3, h4, h5⟩ := h
  have hlt : j < l.length := by
    rcases Nat.lt_or_ge j l.length with h' | h'
    · exact h'
    · rw [List.getElem?_eq_none h'] at hx; cases hx
  refine ⟨by omega, by omega, by simpa using h3, ?_, ?_⟩
  · rw [List.take_add_one (l := l), hx, List.filter_append, ← h4, List.take_add_one, List.take_set_of_le (Nat.le_refl _), List.getElem?_set_self (by omega)]
    simp [hp]
  · rw [List.drop_set_of_lt (by omega), ← List.drop_drop, h5, List.drop_drop]
theorem DelRel.next {α : Type} {p : α → Bool} {l ys : List α} {i j : Nat} {x : α} (h : DelRel p l i j ys) (hx : l[j]? = some x) : ys[j]? = some x := by
  have : (ys.drop j)[0]? = (l.drop j)[0]? := by rw [h.2.2.2.2]
  simpa [hx] using this
theorem DelRel.done {α : Type} {p : α → Bool} {l ys : List α} {i : Nat} (h : DelRel p l i l.length ys) : ys.take i = l.filter (fun x => !p x) := by
  have := h.2.2.2.1; rwa [List.take_length] at this

end Go.Proofs.YtlfkjbdkbdcdnaaGreatDoor
namespace Go.Proofs.YtlfkjbdkbdcdnaaGreatDoor
open Go.RowKit

theorem set_app {α : Type} {A L : List α} {o : Nat} (hA : A.length = o) (j : Nat) (v : α) : (A ++ L).set (o + j) v = A ++ L.set j v := by
  subst hA
  rw [List.set_append, if_neg (by omega)]
  congr 2
  omega
/-- An element of six cells written anew, cell by cell. -/
theorem Own.set6 {e : TypeId} {B : Nat} {w : World} {g n cap i : Nat} {l : List Fl} (h : Own encF e 6 B w (.slice (some ⟨g, 0, none⟩) n cap) l) (hi : i < l.length) (x : Fl) :
    Own encF e 6 B (six w g (i * 6) (S x.path) (S x.part) (.int .i64 x.n) (.int .i64 x.lo) (.int .i64 x.hi) (.int .i64 x.seq)) (.slice (some ⟨g, 0, none⟩) n cap) (l.set i x) := by
  obtain ⟨cur, hB, hg, hl, hc, hm, hs, ht⟩ := h.row
  have hsplit : l = l.take i ++ l[i] :: l.drop (i + 1) := by rw [← List.drop_eq_getElem_cons hi, List.take_append_drop]
  have hset : l.set i x = l.take i ++ x :: l.drop (i + 1) := List.set_eq_take_append_cons_drop.trans (if_pos hi)
  have hA : ((l.take i).flatMap encF).length = i * 6 := by rw [flat_length encF_enc, List.length_take, Nat.min_eq_left (by omega)]
  have hC : ((l.drop (i + 1)).flatMap encF).length = (n - (i + 1)) * 6 := by rw [flat_length encF_enc, List.length_drop, hl]
  have hle : n * 6 ≤ cap * 6 := Nat.mul_le_mul_right _ hc
  have hf : l.flatMap encF = (l.take i).flatMap encF ++ (encF l[i] ++ (l.drop (i + 1)).flatMap encF) := by
    have : l.flatMap encF = (l.take i ++ l[i] :: l.drop (i + 1)).flatMap encF := by rw [← hsplit]
    rw [this]; simp only [List.flatMap_append, List.flatMap_cons]
  have hcur : cur.toList = (l.take i).flatMap encF ++ (encF l[i] ++ ((l.drop (i + 1)).flatMap encF ++ cur.toList.drop (n * 6))) := by
    have h1 : cur.toList = cur.toList.take (n * 6) ++ cur.toList.drop (n * 6) := (List.take_append_drop _ _).symm
    rw [ht, hf] at h1
    simpa using h1
  generalize cur.toList.drop (n * 6) = R at hcur
  refine Own.put encF_enc (by rw [List.length_set]; exact hl) hB (six_row hg (S x.path) (S x.part) (.int .i64 x.n) (.int .i64 x.lo) (.int .i64 x.hi) (.int .i64 x.seq)) hc hm (by simpa using hs) ?_
  simp only [Array.toList_setIfInBounds]
  rw [hcur, hset]
  have s0 : ((l.take i).flatMap encF ++ (encF l[i] ++ ((l.drop (i + 1)).flatMap encF ++ R))).set (i * 6) (S x.path) = (l.take i).flatMap encF ++ (encF l[i] ++ ((l.drop (i + 1)).flatMap encF ++ R)).set 0 (S x.path) := set_app hA 0 (S x.path)
  rw [s0, set_app hA, set_app hA, set_app hA, set_app hA, set_app hA]
  simp only [List.cons_append, List.nil_append, List.set_cons_zero, List.set_cons_succ, List.flatMap_append, List.flatMap_cons]
  have e : ∀ (A C R : List Value) (a b c d f g : Value), A ++ a :: b :: c :: d :: f :: g :: (C ++ R) = (A ++ [a, b, c, d, f, g] ++ C) ++ R := fun A C R a b c d f g => by simp
  rw [e, List.take_left' (by rw [List.length_append, List.length_append, hA, hC]; simp; omega)]
  simp

end Go.Proofs.YtlfkjbdkbdcdnaaGreatDoor
namespace Go.Proofs.YtlfkjbdkbdcdnaaGreatDoor
open Go.RowKit

theorem right_mid' {l : List Fl} (h : RightL l) : ∀ x ∈ l, midF x := fun x hx => by
  have := fileLine_len (h.ok x hx)
  unfold fileLine at this
  simp only [List.length_append, List.length_cons] at this
  exact ⟨by omega, by omega⟩

theorem filter_take_snoc {l : List Fl} {k : Nat} {x : Fl} (p : Fl → Bool) (h : l[k]? = some x) : (l.take (k + 1)).filter p = (l.take k).filter p ++ if p x then [x] else [] := by
  rw [take_snoc' h, List.filter_append]
  cases hp : p x <;> simp [hp]
theorem filter_take_len {l : List Fl} {k : Nat} (p : Fl → Bool) (h : k ≤ l.length) : ((l.take k).filter p).length ≤ k := by
  have := List.length_filter_le p (l.take k)
  rw [List.length_take] at this; omega



/-- s[:k] of a slice. -/
theorem slice_to {P : Program} {t e : TypeId} {sz c n : Nat} (a : Option Addr) (ht : P.underlying t = some (.slice e)) (hsz : ∀ w, (sizeOf e).run P w = .ok sz w) (k : Nat) (hk : k ≤ n) (hc : n ≤ c) :
    ∀ W, (Instr.slice t (.slice a n c) none (some (.int .i64 (k : Int))) none).run P W = .ok (.slice a k c) W := by
  have h2 : (k : Int) ≤ (c : Int) := by omega
  intro W
  cases a with
  | none => simp [Instr.slice, Instr.sliceBounds, run_underlying ht, hsz, go_sem, h2]
  | some ad => simp [Instr.slice, Instr.sliceBounds, run_underlying ht, hsz, go_sem, h2]
end Go.Proofs.YtlfkjbdkbdcdnaaGreatDoor
namespace Go.Proofs.YtlfkjbdkbdcdnaaGreatDoor
open Go.RowKit
attribute [local go_sem] bget bapp

theorem drop_cut {s : Str} {f k : Nat} (hf : f ≤ k) (hk : k < s.length) : s.drop f = (s.drop f).take (k - f) ++ s[k] :: s.drop (k + 1) := by
  have h1 : s.drop k = s[k] :: s.drop (k + 1) := List.drop_eq_getElem_cons hk
  have h2 : (s.drop f).drop (k - f) = s.drop k := by rw [List.drop_drop]; congr 1; omega
  rw [← h1, ← h2, List.take_append_drop]
theorem take_cut {s : Str} {f k : Nat} (hf : f ≤ k) (hk : k < s.length) : (s.drop f).take (k + 1 - f) = (s.drop f).take (k - f) ++ [s[k]] := by
  rw [show k + 1 - f = (k - f) + 1 by omega]
  refine take_snoc' ?_
  rw [List.getElem?_drop, show f + (k - f) = k by omega]; simp [hk]

set_option maxRecDepth 20000 in
set_option maxHeartbeats 400000 in
theorem refCut_any (s : Str) (c : UInt8) (w : World) (hs : s.length ≤ 100000) :
    Calls Tryz.prog 73 #[S s, .int .u8 c.toNat] w fun e w' => ∃ v', e = .returned v' ∧ Own encS 9 1 w.heap.size w' v' (cutAt c s) ∧ Below w.heap.size w w' := by
  go_enter Tryz.func73, Tryz.ntmps73
  go_wp2_with fail
  go_loopw [5, 6, 7] (fun o f i wr => ∃ (k m : Nat) (out : List Str), k ≤ s.length ∧ m ≤ k ∧ i = .int .i64 k ∧ f = .int .i64 m ∧ Hid (cutAt c s = out ++ cutAt c (s.drop m)) ∧ Hid (c ∉ (s.drop m).take (k - m)) ∧ out.length ≤ k ∧ Own encS 9 1 w.heap.size wr o out ∧ Below w.heap.size w wr) (fun _ _ i _ => s.length - (intOf i).toNat)
  case atStart => exact ⟨0, 0, [], by omega, by omega, rfl, rfl, rfl, by simp [Hid], by simp, Own.nil _ _ _ _ _, Below.refl _ _⟩
  case round =>
    obtain ⟨k, m, out, hk, hm, rfl, rfl, hcut, hno, hol, ho, hb⟩ := hrel
    have hmk : (m : Int) ≤ k := by omega
    have hks : (k : Int) ≤ s.length := by omega
    by_cases hlt : k < s.length
    · have hk1 : (k : Int) < s.length := by omega
      by_cases he : s[k] = c
      · have g1 : ((s[k].toNat : Int) == c.toNat) = true := by rw [he]; simp
        have hd := drop_cut hm hlt
        have hc2 : cutAt c s = (out ++ [(s.drop m).take (k - m)]) ++ cutAt c (s.drop (k + 1)) := by
          rw [hcut.out]
          have : cutAt c (s.drop m) = (s.drop m).take (k - m) :: cutAt c (s.drop (k + 1)) := by
            conv => lhs; rw [hd, he]
            exact cutAt_app hno.out
          rw [this]; simp
        have Hc := Lib.hid hc2
        clear he hd hc2
        go_wp2_with (at_builtin; refine wpList_app rfl _ _ _ rfl w.heap.size elStr _ out.length _ rfl (ho.alloc _) (.slice (some ⟨wr.heap.size, 0, none⟩) 1 1) 1 [.string ((ByteArray.mk s.toArray).extract m k)] rfl (src_one rfl rfl (by simp [Value.oneCell'])) (by unfold maxLen; omega) (by omega) (by have := hb.size; simp; omega) ?_; intro v' w2 hown hg _)
        rw [ByteArray.extract_mk] at hown
        go_roundw
        case rel => exact ⟨k + 1, k + 1, out ++ [(s.drop m).take (k - m)], by omega, by omega, by go_num, by go_num, Hc.out, by simp [Hid], by simp; omega, Own.snoc hown, Bapp (hb.alloc hb.size _) (ho.alloc _) hg (Nat.le_refl _) (by have := hb.size; simp; omega)⟩
        case measure => simp [intOf]; omega
      · have g1 : ((s[k].toNat : Int) == c.toNat) = false := by
          simp; intro h; apply he; apply UInt8.toNat_inj.1; exact Int.ofNat.inj h
        have hn2 : c ∉ (s.drop m).take (k + 1 - m) := by
          rw [take_cut hm hlt]; intro h
          rcases List.mem_append.1 h with h | h
          · exact hno.out h
          · exact he (List.mem_singleton.1 h).symm
        have Hn := Lib.hid hn2
        clear he hn2
        go_wp2_with fail
        go_roundw
        case rel => exact ⟨k + 1, m, out, by omega, by omega, by go_num, rfl, hcut, Hn, by omega, ho, hb⟩
        case measure => simp [intOf]; omega
    · obtain rfl : k = s.length := by omega
      have hc2 : cutAt c s = out ++ [s.drop m] := by
        have h := hno.out
        rw [List.take_of_length_le (by simp)] at h
        rw [hcut.out, cutAt_none h]
      have Hc := Lib.hid hc2
      clear hc2
      go_wp2_with (at_builtin; refine wpList_app rfl _ _ _ rfl w.heap.size elStr _ out.length _ rfl (ho.alloc _) (.slice (some ⟨wr.heap.size, 0, none⟩) 1 1) 1 [.string ((ByteArray.mk s.toArray).extract m s.length)] rfl (src_one rfl rfl (by simp [Value.oneCell'])) (by unfold maxLen; omega) (by omega) (by have := hb.size; simp; omega) ?_; intro v' w2 hown hg _)
      rw [extract_from] at hown
      go_ret
      exact ⟨_, rfl, by rw [Hc.out]; exact Own.snoc hown, Bapp (hb.alloc hb.size _) (ho.alloc _) hg (Nat.le_refl _) (by have := hb.size; simp; omega)⟩

theorem inInts_any (n : Int) (v : Value) (l : List Int) (w : World) (hl : IntsAt w v l) :
    Calls Tryz.prog 33 #[.int .i64 n, v] w fun e w' => e = .returned (.bool (decide (n ∈ l))) ∧ Below w.heap.size w w' := by
  obtain ⟨a, c, b, o, rfl, ha, hc, hcm, hx⟩ := hl
  unfold maxLen at hcm
  go_enter Tryz.func33, Tryz.ntmps33
  go_wp2_with fail
  go_loopw [5] (fun i wr => ∃ k : Nat, k ≤ l.length ∧ i = .int .i64 k ∧ Hid (∀ j < k, l[j]? ≠ some n) ∧ Below w.heap.size w wr) (fun i _ => l.length - (intOf i).toNat)
  case atStart => exact ⟨0, by omega, rfl, fun j hj => absurd hj (by omega), Below.refl _ _⟩
  case round =>
    obtain ⟨k, hk, rfl, hj, hb⟩ := hrel
    by_cases hlt : k < l.length
    · obtain ⟨x, hxk⟩ := get_ex hlt
      have c1 := hx k x hxk 0 _ rfl
      have c1 := (hb.cell (World.block_lt_of_cell? w _ c1)).trans c1
      have i1 := idx_at (c := c) 1 Tryz.underlying39 szInt ha k hlt
      have hk1 : (k : Int) < (l.length : Int) := by omega
      simp only [Nat.mul_one, Nat.add_zero] at c1 i1
      have Hx := Lib.hid hxk; clear hxk
      go_wp2_with fail
      · have he : x = n := by simpa using ‹(x == n) = true›
        go_ret
        exact ⟨ret_bool (decide_eq_true (by rw [← he]; exact List.mem_of_getElem? Hx.out)).symm, hb⟩
      · have hne' : x ≠ n := by simpa using ‹(x == n) = false›
        go_roundw
        case rel => exact ⟨k + 1, by omega, by go_num, (fun j hj' => by
          rcases Nat.lt_or_ge j k with h | h
          · exact hj.out j h
          · obtain rfl : j = k := by omega
            rw [Hx.out]; exact fun e => hne' (Option.some.inj e)), hb⟩
        case measure => simp [intOf]; omega
    · obtain rfl : k = l.length := by omega
      go_wp2_with fail
      go_ret
      refine ⟨ret_bool (decide_eq_false fun e => ?_).symm, hb⟩
      obtain ⟨j, hjl, hje⟩ := List.getElem_of_mem e
      exact hj.out j hjl (by simp [hjl, hje])

end Go.Proofs.YtlfkjbdkbdcdnaaGreatDoor
namespace Go.Proofs.YtlfkjbdkbdcdnaaGreatDoor
open Go.RowKit

theorem nameOk_eq (s : Str) : nameOk s = nameB s 8 := by
  unfold nameOk nameB
  have e : (s.all fun b => partSigns.contains b) = s.all signB := by congr 1; funext b; exact signB_eq b
  rw [e, Bool.eq_iff_iff]
  have hn : s ≠ [] ↔ 1 ≤ s.length := by cases s <;> simp
  simp only [Bool.and_eq_true, decide_eq_true_eq, hn]
  exact ⟨fun ⟨h1, h2, h3⟩ => ⟨h3, h1, by omega⟩, fun ⟨h1, h2, h3⟩ => ⟨h2, by omega, h1⟩⟩
theorem rowErr_ways (r : Rw) : (nameB r.part 8 = false ∧ rowCheck r = 5) ∨ (nameB r.part 8 = true ∧ ((decide (farN r.key) = true ∧ rowCheck r = 2) ∨ (decide (farN r.key) = false ∧ ((decide (farN r.val) = true ∧ rowCheck r = 2) ∨ (decide (farN r.val) = false ∧ rowCheck r = 0))))) := by
  rw [← nameOk_eq]
  cases h : nameOk r.part with
  | false => exact .inl ⟨rfl, rowCheck_name h⟩
  | true =>
    refine .inr ⟨rfl, ?_⟩
    by_cases h1 : farN r.key
    · exact .inl ⟨decide_eq_true h1, rowCheck_far h (.inl h1)⟩
    · refine .inr ⟨decide_eq_false h1, ?_⟩
      by_cases h2 : farN r.val
      · exact .inl ⟨decide_eq_true h2, rowCheck_far h (.inr h2)⟩
      · exact .inr ⟨decide_eq_false h2, rowCheck_right h h1 h2⟩
set_option maxHeartbeats 1000000 in
set_option maxRecDepth 20000 in
theorem rowError_any (r : Rw) (w : World) (hs : r.part.length ≤ 100000) :
    Calls Tryz.prog 26 #[rowV r] w fun e w' => e = .returned (.int .i64 (rowCheck r : Nat)) ∧ Below w.heap.size w w' := by
  have hb0 : Below w.heap.size w (w.alloc (.cells #[S r.part, .int .i64 r.key, .int .i64 r.val] 36)) := (Below.refl _ _).alloc (Nat.le_refl _) _
  obtain ⟨c0, c1, c2⟩ := rowCells (r := r) (w := w) rfl (Below.refl _ (w.alloc (.cells #[S r.part, .int .i64 r.key, .int .i64 r.val] 36)))
  have hNm := fun W => isName_any r.part 8 W hs
  have hF1 := fun W => isFar_any r.key W
  have hF2 := fun W => isFar_any r.val W
  rcases rowErr_ways r with ⟨h1, hc⟩ | ⟨h1, ⟨h2, hc⟩ | ⟨h2, ⟨h3, hc⟩ | ⟨h3, hc⟩⟩⟩
  case' inl => rw [h1] at hNm
  case' inr.inl => rw [h1] at hNm; rw [h2] at hF1; generalize decide (farN r.val) = fv at hF2
  case' inr.inr.inl => rw [h1] at hNm; rw [h2] at hF1; rw [h3] at hF2
  case' inr.inr.inr => rw [h1] at hNm; rw [h2] at hF1; rw [h3] at hF2
  all_goals
    rw [hc]
    have HNm := Lib.hid hNm; have HF1 := Lib.hid hF1; have HF2 := Lib.hid hF2
    clear hNm hF1 hF2 hc
    try clear h1
    try clear h2
    try clear h3
    go_enter Tryz.func26, Tryz.ntmps26
    go_wp2_with fail
    refine (HNm.out _).mono ?_
    rintro e w' ⟨rfl, rfl⟩
    go_wp2_with fail
    first
    | (go_ret; exact ⟨rfl, hb0⟩)
    | (refine (HF1.out _).mono ?_; rintro e w' ⟨rfl, rfl⟩; go_wp2_with fail; refine (HF2.out _).mono ?_; rintro e w' ⟨rfl, rfl⟩; go_wp2_with fail; go_ret; exact ⟨rfl, hb0⟩)
set_option maxHeartbeats 2000000 in
set_option maxRecDepth 20000 in
theorem refRowText_any (r : Rw) (w : World) (hs : r.part.length ≤ 100000) :
    Calls Tryz.prog 93 #[rowV r] w fun e w' => e = .returned (S (rowText r)) ∧ Below w.heap.size w w' := by
  have hb0 : Below w.heap.size w (w.alloc (.cells #[S r.part, .int .i64 r.key, .int .i64 r.val] 36)) := (Below.refl _ _).alloc (Nat.le_refl _) _
  have CF := Lib.hid (fun w6 (h : Below (w.alloc (.cells #[S r.part, .int .i64 r.key, .int .i64 r.val] 36)).heap.size (w.alloc (.cells #[S r.part, .int .i64 r.key, .int .i64 r.val] 36)) w6) => rowCells (r := r) rfl h)
  obtain ⟨c0, c1, c2⟩ := CF.out _ (Below.refl _ _)
  have hfe := rowError_any r (w.alloc (.cells #[S r.part, .int .i64 r.key, .int .i64 r.val] 36)) hs
  by_cases hc : rowCheck r = 0
  case neg =>
    have HF : Hid (rowText r = []) := Lib.hid (if_neg hc)
    have hpos : (0 : Int) < ((rowCheck r : Nat) : Int) := by omega
    generalize rowCheck r = k at *
    have HFe := Lib.hid hfe
    clear hfe hc
    go_enter Tryz.func93, Tryz.ntmps93
    go_wp2_with fail
    refine HFe.out.mono ?_
    rintro e w1 ⟨rfl, hb1⟩
    go_wp2_with fail
    go_ret
    exact ⟨by rw [HF.out]; rfl, hb0.trans (hb1.mono hb0.size)⟩
  rw [hc] at hfe
  have HFe := Lib.hid hfe
  have HF : Hid (rowText r = rowLine r) := Lib.hid (if_pos hc)
  obtain ⟨q0, q1, q2, q3, q4⟩ := name_len hc
  clear hfe hc
  have l1 := itoa_len r.key (by omega) (by omega)
  have l2 := itoa_len r.val (by omega) (by omega)
  have d1 := fun W => decimal_any r.key W (by omega) (by omega)
  have d2 := fun W => decimal_any r.val W (by omega) (by omega)
  have hfl : rowLine r = r.part ++ numsTail [r.key, r.val] := rfl
  have HFl := Lib.hid hfl
  clear hfl q1 q2 q3 q4
  generalize ht1 : Lib.itoa r.key = t1 at *
  generalize ht2 : Lib.itoa r.val = t2 at *
  have D1 := Lib.hid d1; have D2 := Lib.hid d2
  clear d1 d2
  have r1 := cat_run ⟨r.part.toArray⟩ ⟨#[32]⟩ (r.part.length) (1) rfl rfl (by omega)
  have r2 := cat_run (⟨r.part.toArray⟩ ++ ⟨#[32]⟩) ⟨t1.toArray⟩ (r.part.length + 1) (t1.length) (by simp only [ByteArray.size_append]; rfl) rfl (by omega)
  have r3 := cat_run (⟨r.part.toArray⟩ ++ ⟨#[32]⟩ ++ ⟨t1.toArray⟩) ⟨#[32]⟩ (r.part.length + 1 + t1.length) (1) (by simp only [ByteArray.size_append]; rfl) rfl (by omega)
  have r4 := cat_run (⟨r.part.toArray⟩ ++ ⟨#[32]⟩ ++ ⟨t1.toArray⟩ ++ ⟨#[32]⟩) ⟨t2.toArray⟩ (r.part.length + 1 + t1.length + 1) (t2.length) (by simp only [ByteArray.size_append]; rfl) rfl (by omega)
  have HAll : Hid ((⟨r.part.toArray⟩ : ByteArray) ++ ⟨#[32]⟩ ++ ⟨t1.toArray⟩ ++ ⟨#[32]⟩ ++ ⟨t2.toArray⟩ = ⟨(rowLine r).toArray⟩) := Lib.hid (by
    rw [HFl.out]
    simp only [numsTail, List.flatMap_cons, List.flatMap_nil, ht1, ht2]
    apply ByteArray.ext
    simp)
  clear ht1 ht2
  go_enter Tryz.func93, Tryz.ntmps93
  go_wp2_with fail
  generalize w.alloc (.cells #[S r.part, .int .i64 r.key, .int .i64 r.val] 36) = w0 at *
  refine HFe.out.mono ?_
  rintro e w1 ⟨rfl, hb1⟩
  have hb1d := hb1.drew
  clear c0 c1 c2
  obtain ⟨c0, c1, c2⟩ := CF.out _ hb1d
  go_wp2_with fail
  go_region_held3 (fun w' => w'.cell? ⟨w.heap.size, 0, none⟩ = some (S r.part) ∧ w'.cell? ⟨w.heap.size, 1, none⟩ = some (.int .i64 r.key) ∧ w'.cell? ⟨w.heap.size, 2, none⟩ = some (.int .i64 r.val)) (exact ⟨c0, c1, c2⟩) (first | (go_at_call 78; (with_reducible refine (D1.out _).mono ?_); rintro e v1 ⟨rfl, hd1⟩; have c0 := (hd1.cell (World.block_lt_of_cell? _ _ c0)).trans c0; have c1 := (hd1.cell (World.block_lt_of_cell? _ _ c1)).trans c1; have c2 := (hd1.cell (World.block_lt_of_cell? _ _ c2)).trans c2) | (go_at_call 78; (with_reducible refine (D2.out _).mono ?_); rintro e v2 ⟨rfl, hd2⟩; have c0 := (hd2.cell (World.block_lt_of_cell? _ _ c0)).trans c0; have c1 := (hd2.cell (World.block_lt_of_cell? _ _ c1)).trans c1; have c2 := (hd2.cell (World.block_lt_of_cell? _ _ c2)).trans c2))
  go_wp2_with fail
  go_ret
  refine ⟨?_, ?_⟩
  · show Ending.returned (.string ((⟨r.part.toArray⟩ : ByteArray) ++ ⟨#[32]⟩ ++ ⟨t1.toArray⟩ ++ ⟨#[32]⟩ ++ ⟨t2.toArray⟩)) = _
    rw [HAll.out, HF.out]
  · have hbw1 := hb0.trans (hb1d.mono hb0.size)
    have h1 := hbw1.trans (hd1.mono hbw1.size)
    exact h1.trans (hd2.mono h1.size)
theorem less_ways (a b : Rw) : ((a.part == b.part) = false ∧ Op.bytesLess a.part b.part = lessR a b) ∨ ((a.part == b.part) = true ∧ (((a.key != b.key) = true ∧ decide (a.key < b.key) = lessR a b) ∨ ((a.key != b.key) = false ∧ decide (a.val < b.val) = lessR a b))) := by
  unfold lessR
  by_cases h1 : a.part = b.part
  · refine .inr ⟨by simp [h1], ?_⟩
    rw [if_neg (fun h : a.part ≠ b.part => h h1)]
    by_cases h2 : a.key = b.key
    · refine .inr ⟨by simp [h2], ?_⟩
      rw [if_neg (fun h : a.key ≠ b.key => h h2)]
    · refine .inl ⟨by simpa using h2, ?_⟩
      rw [if_pos (show a.key ≠ b.key from h2)]
  · refine .inl ⟨by simpa using h1, ?_⟩
    rw [if_pos (show a.part ≠ b.part from h1)]
    exact less_befR a.part b.part
set_option maxHeartbeats 1000000 in
set_option maxRecDepth 20000 in
theorem isLess_any (a b : Rw) (w : World) :
    Calls Tryz.prog 97 #[rowV a, rowV b] w fun e w' => e = .returned (.bool (lessR a b)) ∧ Below w.heap.size w w' := by
  have hb0 : Below w.heap.size w (w.alloc (.cells #[S a.part, .int .i64 a.key, .int .i64 a.val] 36)) := (Below.refl _ _).alloc (Nat.le_refl _) _
  obtain ⟨w0, hw0⟩ : ∃ w0, w0 = w.alloc (.cells #[S a.part, .int .i64 a.key, .int .i64 a.val] 36) := ⟨_, rfl⟩
  have hb1 : Below w0.heap.size w0 (w0.alloc (.cells #[S b.part, .int .i64 b.key, .int .i64 b.val] 36)) := (Below.refl _ _).alloc (Nat.le_refl _) _
  obtain ⟨c0, c1, c2⟩ := rowCells (r := a) hw0 hb1
  obtain ⟨d0, d1, d2⟩ := rowCells (r := b) (w := w0) rfl (Below.refl _ _)
  have hsz : w0.heap.size = w.heap.size + 1 := by rw [hw0]; simp
  have hb2 := (hw0 ▸ hb0).trans (hb1.mono (hw0 ▸ hb0).size)
  rw [hw0] at c0 c1 c2
  rw [hsz] at d0 d1 d2
  rw [hw0] at d0 d1 d2 hb2
  have HB2 := Lib.hid hb2
  clear hb0 hb1 hb2 hsz hw0 w0
  rcases less_ways a b with ⟨g1, hl⟩ | ⟨g1, ⟨g2, hl⟩ | ⟨g2, hl⟩⟩
  all_goals
    have HL := Lib.hid hl
    clear hl
    go_enter Tryz.func97, Tryz.ntmps97
    go_wp2_with fail
    go_ret
    exact ⟨ret_bool HL.out, HB2.out⟩
theorem rw_equalIn (x y : Rw) (w : World) : (Op.equalIn 10000 36 (rowV x) (rowV y)).run Tryz.prog w = .ok (decide (x = y)) w := by
  have uS := Tryz.underlying9
  have uI := Tryz.underlying3
  have aS := Tryz.isAgg9
  have aI := Tryz.isAgg3
  have zS := Tryz.sizeOf9
  have zI := Tryz.sizeOf3
  have hS : Tryz.prog.underlying 36 = some (.struct (Tryz.prog.fieldsOf 36)) := by kernel_rfl
  have hp : Tryz.prog.stoodInHeld 36 = false := by kernel_rfl
  rw [show (10000 : Nat) = 9999 + 1 from rfl, run_equalIn_agg w 9999 36 _ _ hS hp]
  simp only [Program.fieldsOf, Tryz.underlying36]
  go_simp
  cases x with
  | mk p1 n1 a1 =>
  cases y with
  | mk p2 n2 a2 =>
  by_cases h1 : p1 = p2 <;> by_cases h3 : n1 = n2 <;> by_cases h4 : a1 = a2 <;> simp [h1, h3, h4]
theorem rw_neq (x y : Rw) (w : World) : (binOp .neq 36 (rowV x) (rowV y)).run Tryz.prog w = .ok (.bool (!decide (x = y))) w := by
  rw [run_neq_struct, rw_equalIn]; rfl
theorem rw_eql (x y : Rw) (w : World) : (binOp .eql 36 (rowV x) (rowV y)).run Tryz.prog w = .ok (.bool (decide (x = y))) w := by
  rw [run_eql_struct, rw_equalIn]; rfl
theorem rw_guard : Tryz.prog.eqGuardType Tryz.prog.depth 36 = false := by kernel_rfl
set_option maxRecDepth 20000 in
theorem sameRows_any (v u : Value) (l m : List Rw) (w : World) (hl : RowsAt w v l) (hm : RowsAt w u m) :
    Calls Tryz.prog 30 #[v, u] w fun e w' => e = .returned (.bool (decide (l = m))) ∧ Below w.heap.size w w' := by
  obtain ⟨a, c, b, o, rfl, ha, hc, hcm, hx⟩ := hl
  obtain ⟨a', c', b', o', rfl, ha', hc', hcm', hx'⟩ := hm
  unfold maxLen at hcm hcm'
  by_cases hlen : l.length = m.length
  case neg =>
    have hne : ((l.length : Int) != (m.length : Int)) = true := by simp; omega
    go_enter Tryz.func30, Tryz.ntmps30
    go_wp2_with fail
    go_ret
    exact ⟨ret_bool (decide_eq_false fun e => hlen (by rw [e])).symm, Below.refl _ _⟩
  have hne : ((l.length : Int) != (m.length : Int)) = false := by simp [hlen]
  have Hl := Lib.hid hlen; clear hlen
  go_enter Tryz.func30, Tryz.ntmps30
  go_wp2_with fail
  go_loopw [5] (fun i wr => ∃ k : Nat, k ≤ l.length ∧ i = .int .i64 k ∧ Hid (∀ j < k, l[j]? = m[j]?) ∧ Below w.heap.size w wr) (fun i _ => l.length - (intOf i).toNat)
  case atStart => exact ⟨0, by omega, rfl, Lib.hid fun j hj => absurd hj (by omega), Below.refl _ _⟩
  case round =>
    obtain ⟨k, hk, rfl, hj, hb⟩ := hrel
    by_cases hlt : k < l.length
    case neg =>
      obtain rfl : k = l.length := by omega
      go_wp2_with fail
      go_ret
      exact ⟨ret_bool (decide_eq_true (list_ext_upto Hl.out hj.out)).symm, hb⟩
    obtain ⟨x, hxk⟩ := get_ex hlt
    obtain ⟨y, hyk⟩ := get_ex (l := m) (k := k) (by rw [← Hl.out]; exact hlt)
    obtain ⟨c0, c1, c2⟩ := rwCells hx hb hxk
    obtain ⟨d0, d1, d2⟩ := rwCells hx' hb hyk
    have i1 := idx_at (c := c) 3 Tryz.underlying22 szRw ha k hlt
    have i2 := idx_at (c := c') 3 Tryz.underlying22 szRw ha' k (by rw [← Hl.out]; exact hlt)
    have hk1 : (k : Int) < (l.length : Int) := by omega
    have hn := rw_neq x y
    have hgd := rw_guard
    have Hx := Lib.hid hxk; clear hxk
    have Hy := Lib.hid hyk; clear hyk
    go_wp2_with fail
    go_quiet (fail)
    by_cases he : x = y
    · rw [decide_eq_true he]
      have He := Lib.hid he; clear he
      go_wp2_with fail
      go_roundw
      case rel => exact ⟨k + 1, by omega, by go_num, (Lib.hid fun j hj' => by
        rcases Nat.lt_or_ge j k with h | h
        · exact hj.out j h
        · obtain rfl : j = k := by omega
          rw [Hx.out, Hy.out, He.out]), Bdn hb _⟩
      case measure => simp [intOf]; omega
    · rw [decide_eq_false he]
      have He := Lib.hid he; clear he
      go_wp2_with fail
      go_ret
      refine ⟨ret_bool (decide_eq_false fun e => He.out ?_).symm, Bdn hb _⟩
      have := Hx.out; rw [e, Hy.out] at this; exact (Option.some.inj this).symm
theorem filter_take_snocR {l : List Rw} {k : Nat} {x : Rw} (p : Rw → Bool) (h : l[k]? = some x) : (l.take (k + 1)).filter p = (l.take k).filter p ++ if p x then [x] else [] := by
  rw [List.take_add_one, h]
  simp [List.filter_append, List.filter_cons]
end Go.Proofs.YtlfkjbdkbdcdnaaGreatDoor
