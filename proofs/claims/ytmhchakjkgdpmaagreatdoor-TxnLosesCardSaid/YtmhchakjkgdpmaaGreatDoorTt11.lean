/- row.Compare, row.Less: the walks; what they call of package cmp. DERIVED: THE SHELF's CONTRACTS AT THIS DUMP, IN PLAIN WORDS (tools/lay-plain.mjs out of 'TryzSortF.lean', which tools/lay-shelf.mjs wrote): THE SAME DECLARATIONS UNDER THE SAME NAMES: 'import', 'namespace', 'open', 'def', 'theorem' AND NOTHING ELSE: no command of the shelf's: FOR A HAND-IN. Each laying: the table of numbers ('.._ren') and one theorem, a field a fact of the dump's own or the kernel's comparison; each contract: ONE APPLICATION. The document's answer on rows: RowError, RowText, IsLess, SameRows, DropRows, WithinRows: the walks. slices.SortFunc at rows; row.Sort, row.Same. -/
import Derived.Test.YtmhchakjkgdpmaaGreatDoorTt10
import Derived.Deep.RegionHeld3
import Derived.Deep.CutBlock
import Derived.Deep.DeepCutAuto
import Derived.Shelf.SlSortCmp.WholeK
import Derived.Test.YtmhchakjkgdpmaaGreatDoorProg
import Derived.Test.YtmhchakjkgdpmaaGreatDoorTt7
import Derived.Test.YtmhchakjkgdpmaaGreatDoorTt8
import Derived.Laws.StructEq
import Derived.Shelf.SlSortCmp.NoneTotal
namespace Go.Proofs.YtmhchakjkgdpmaaGreatDoor
open Go.RowKit

theorem isNaNI_any (n : Int) (w : World) : Calls Tryz.prog 260 #[.int .i64 n] w fun e w' => e = .returned (.bool false) ∧ w = w' := by
  have g : (n != n) = false := by simp
  go_enter Tryz.func260, Tryz.ntmps260
  go_wp2_with fail
  go_ret
  exact ⟨rfl, rfl⟩
theorem isNaNS_any (s : Str) (w : World) : Calls Tryz.prog 263 #[S s] w fun e w' => e = .returned (.bool false) ∧ w = w' := by
  have g : (s != s) = false := by simp
  go_enter Tryz.func263, Tryz.ntmps263
  go_wp2_with fail
  go_ret
  exact ⟨rfl, rfl⟩
theorem cmpI_ways (a b : Int) : (a < b ∧ cmpI a b = -1) ∨ (decide (a < b) = false ∧ ((b < a ∧ cmpI a b = 1) ∨ (decide (b < a) = false ∧ cmpI a b = 0))) := by
  unfold cmpI
  by_cases h1 : a < b
  · exact .inl ⟨h1, if_pos h1⟩
  · refine .inr ⟨decide_eq_false h1, ?_⟩
    rw [if_neg h1]
    by_cases h2 : b < a
    · exact .inl ⟨h2, if_pos h2⟩
    · exact .inr ⟨decide_eq_false h2, if_neg h2⟩
theorem cmpS_ways (a b : Str) : (Op.bytesLess a b = true ∧ cmpS a b = -1) ∨ (Op.bytesLess a b = false ∧ (((a == b) = false ∧ cmpS a b = 1) ∨ ((a == b) = true ∧ cmpS a b = 0))) := by
  unfold cmpS
  rw [less_befR]
  cases h1 : bef a b with
  | true => exact .inl ⟨rfl, if_pos rfl⟩
  | false =>
    refine .inr ⟨rfl, ?_⟩
    rw [if_neg (by decide)]
    by_cases he : a = b
    · refine .inr ⟨by simpa using he, ?_⟩
      rw [if_neg (by rw [he, bef_irrefl]; decide)]
    · refine .inl ⟨by simpa using he, ?_⟩
      rcases bef_or he with h2 | h2
      · rw [h1] at h2; cases h2
      · exact if_pos h2
theorem cmpInt_any (a b : Int) (w : World) : Calls Tryz.prog 213 #[.int .i64 a, .int .i64 b] w fun e w' => e = .returned (.int .i64 (cmpI a b)) ∧ w = w' := by
  rcases cmpI_ways a b with ⟨h1, hc⟩ | ⟨h1, ⟨h2, hc⟩ | ⟨h2, hc⟩⟩
  all_goals
    rw [hc]
    clear hc
    go_enter Tryz.func213, Tryz.ntmps213
    go_wp2_with (go_at_call 260; refine (isNaNI_any _ _).mono ?_; rintro e w' ⟨rfl, rfl⟩)
    go_ret
    exact ⟨rfl, rfl⟩
theorem cmpStr_any (a b : Str) (w : World) : Calls Tryz.prog 212 #[S a, S b] w fun e w' => e = .returned (.int .i64 (cmpS a b)) ∧ w = w' := by
  rcases cmpS_ways a b with ⟨h1, hc⟩ | ⟨h1, ⟨h2, hc⟩ | ⟨h2, hc⟩⟩
  all_goals
    rw [hc]
    clear hc
    go_enter Tryz.func212, Tryz.ntmps212
    go_wp2_with (go_at_call 263; refine (isNaNS_any _ _).mono ?_; rintro e w' ⟨rfl, rfl⟩)
    go_ret
    exact ⟨rfl, rfl⟩
def orL : List Int → Int
  | [] => 0
  | x :: r => if x ≠ 0 then x else orL r
theorem orL_at : ∀ {l : List Int} {k : Nat} {x : Int}, (∀ j < k, l[j]? = some 0) → l[k]? = some x → x ≠ 0 → orL l = x
  | [], k, x, _, h, _ => by simp at h
  | y :: r, 0, x, _, h, hx => by
    obtain rfl : y = x := by simpa using h
    exact if_pos hx
  | y :: r, k + 1, x, h0, h, hx => by
    obtain rfl : y = 0 := by simpa using h0 0 (by omega)
    show (if (0 : Int) ≠ 0 then 0 else orL r) = x
    rw [if_neg (by simp)]
    exact orL_at (k := k) (fun j hj => by simpa using h0 (j + 1) (by omega)) (by simpa using h) hx
theorem orL_all : ∀ {l : List Int}, (∀ j < l.length, l[j]? = some 0) → orL l = 0
  | [], _ => rfl
  | y :: r, h0 => by
    obtain rfl : y = 0 := by simpa using h0 0 (by simp)
    show (if (0 : Int) ≠ 0 then 0 else orL r) = 0
    rw [if_neg (by simp)]
    exact orL_all (fun j hj => by simpa using h0 (j + 1) (by simpa using hj))
theorem orI_any (v : Value) (l : List Int) (w : World) (hl : IntsAt w v l) :
    Calls Tryz.prog 186 #[v] w fun e w' => e = .returned (.int .i64 (orL l)) ∧ w = w' := by
  obtain ⟨a, c, b, o, rfl, ha, hc, hcm, hx⟩ := hl
  unfold maxLen at hcm
  go_enter Tryz.func186, Tryz.ntmps186
  go_wp2_with fail
  go_loop [8] (fun i => ∃ k : Nat, k ≤ l.length ∧ i = .int .i64 k ∧ Hid (∀ j < k, l[j]? = some 0)) (fun i => l.length - (intOf i).toNat)
  case atStart => exact ⟨0, by omega, rfl, Lib.hid fun j hj => absurd hj (by omega)⟩
  case round =>
    obtain ⟨k, hk, rfl, hj⟩ := hrel
    by_cases hlt : k < l.length
    case neg =>
      obtain rfl : k = l.length := by omega
      have f : decide ((l.length : Int) < (l.length : Int)) = false := by simp
      have HE := Lib.hid (orL_all hj.out)
      go_wp2_with fail
      go_ret
      exact ⟨by rw [HE.out]; rfl, rfl⟩
    obtain ⟨x, hxk⟩ := get_ex hlt
    have q0 := hx k x hxk 0 _ rfl
    have i1 := idx_at (c := c) 1 Tryz.underlying92 szInt ha k hlt
    simp only [Nat.add_zero, Nat.mul_one] at q0 i1
    have hk1 : (k : Int) < (l.length : Int) := by omega
    have HX := Lib.hid hxk
    clear hxk
    by_cases h0 : x = 0
    · have g : (x != 0) = false := by simp [h0]
      have H0 := Lib.hid h0
      clear h0
      go_wp2_with fail
      go_round
      case rel => exact ⟨k + 1, by omega, by go_num, Lib.hid fun j hj' => by
        rcases Nat.lt_or_ge j k with h | h
        · exact hj.out j h
        · obtain rfl : j = k := by omega
          rw [HX.out, H0.out]⟩
      case measure => simp [intOf]; omega
    · have g : (x != 0) = true := by simpa using h0
      have HE := Lib.hid (orL_at hj.out HX.out h0)
      clear h0
      go_wp2_with fail
      go_ret
      exact ⟨by rw [HE.out]; rfl, rfl⟩
theorem cmpR_or (a b : Rw) : cmpR a b = orL [cmpS a.part b.part, cmpI a.key b.key, cmpI a.val b.val] := by
  unfold cmpR
  show _ = (if cmpS a.part b.part ≠ 0 then cmpS a.part b.part else if cmpI a.key b.key ≠ 0 then cmpI a.key b.key else if cmpI a.val b.val ≠ 0 then cmpI a.val b.val else 0)
  split
  · rfl
  · split
    · rfl
    · split
      · rfl
      · rename_i h; simpa using h
theorem drewN_grow (w : World) (n : Nat) (os : Array Obj) : (Go.Sort.grow w os).drewN n = Go.Sort.grow (w.drewN n) os := rfl
theorem drew_drewN (w : World) : w.drew = w.drewN 1 := rfl
set_option maxHeartbeats 1000000 in
set_option maxRecDepth 20000 in
theorem rowCompareG_any (a b : Rw) (w : World) :
    Calls Tryz.prog 163 #[rowV a, rowV b] w fun e w' => e = .returned (.int .i64 (cmpR a b)) ∧ ∃ q os', w' = Go.Sort.grow (w.drewN q) os' := by
  obtain ⟨w0, hw0⟩ : ∃ w0, w0 = w.alloc (.cells #[S a.part, .int .i64 a.key, .int .i64 a.val] 110) := ⟨_, rfl⟩
  obtain ⟨w1, hw1⟩ : ∃ w1, w1 = w0.alloc (.cells #[S b.part, .int .i64 b.key, .int .i64 b.val] 110) := ⟨_, rfl⟩
  have hb1 : Below w0.heap.size w0 w1 := hw1 ▸ (Below.refl _ _).alloc (Nat.le_refl _) _
  have hsz : w0.heap.size = w.heap.size + 1 := by rw [hw0]; simp
  have KS := Lib.hid (fun W (h : Below w1.heap.size w1 W) => (⟨rowCells (r := a) hw0 (hb1.trans (h.mono hb1.size)), rowCells (r := b) hw1 h⟩ : _ ∧ _))
  rw [hsz] at KS
  have HW : Hid (w1 = (w.alloc (.cells #[S a.part, .int .i64 a.key, .int .i64 a.val] 110)).alloc (.cells #[S b.part, .int .i64 b.key, .int .i64 b.val] 110)) := Lib.hid (by rw [hw1, hw0])
  have hG : ∃ os, w1 = Go.Sort.grow w os := ⟨_, by rw [HW.out, Go.Sort.alloc_eq_grow, Go.Sort.alloc_eq_grow, Go.Sort.grow_grow]⟩
  have HG := Lib.hid hG
  have HOr := Lib.hid (cmpR_or a b)
  clear hw0 hw1 hb1 hsz hG
  obtain ⟨⟨c0, c1, c2⟩, ⟨d0, d1, d2⟩⟩ := KS.out _ (Bdn (Below.refl w1.heap.size w1) 1)
  obtain ⟨x, hx⟩ : ∃ x, cmpS a.part b.part = x := ⟨_, rfl⟩
  obtain ⟨y, hy⟩ : ∃ y, cmpI a.key b.key = y := ⟨_, rfl⟩
  obtain ⟨z, hz⟩ : ∃ z, cmpI a.val b.val = z := ⟨_, rfl⟩
  have h1 := fun W => cmpStr_any a.part b.part W
  have h2 := fun W => cmpInt_any a.key b.key W
  have h3 := fun W => cmpInt_any a.val b.val W
  rw [hx] at h1; rw [hy] at h2; rw [hz] at h3
  rw [hx, hy, hz] at HOr
  have H1 := Lib.hid h1; have H2 := Lib.hid h2; have H3 := Lib.hid h3
  clear h1 h2 h3 hx hy hz
  go_enter Tryz.func163, Tryz.ntmps163
  go_upto_region 1 with fail
  rw [← HW.out]
  clear w0 HW
  go_wp2_with fail
  go_region_held3 (fun w' => w'.cell? ⟨w.heap.size, 0, none⟩ = some (S a.part) ∧ w'.cell? ⟨w.heap.size, 1, none⟩ = some (.int .i64 a.key) ∧ w'.cell? ⟨w.heap.size, 2, none⟩ = some (.int .i64 a.val) ∧ w'.cell? ⟨w.heap.size + 1, 0, none⟩ = some (S b.part) ∧ w'.cell? ⟨w.heap.size + 1, 1, none⟩ = some (.int .i64 b.key) ∧ w'.cell? ⟨w.heap.size + 1, 2, none⟩ = some (.int .i64 b.val)) (first | exact ⟨c0, c1, c2, d0, d1, d2⟩ | (obtain ⟨⟨q0, q1, q2⟩, q3, q4, q5⟩ := KS.out _ (((Below.refl _ _).alloc (Nat.le_refl _) _).drew); exact ⟨q0, q1, q2, q3, q4, q5⟩) | (obtain ⟨⟨q0, q1, q2⟩, q3, q4, q5⟩ := KS.out _ ((Below.refl _ _).drew.alloc (Nat.le_refl _) _); exact ⟨q0, q1, q2, q3, q4, q5⟩)) (first
    | (go_at_call 212; (with_reducible refine (H1.out _).mono ?_); rintro e w' ⟨rfl, rfl⟩)
    | (go_at_call 213; (with_reducible refine (H2.out _).mono ?_); rintro e w' ⟨rfl, rfl⟩)
    | (go_at_call 213; (with_reducible refine (H3.out _).mono ?_); rintro e w' ⟨rfl, rfl⟩)
    | (go_at_call 186; (with_reducible refine (orI_any _ [x, y, z] _ (by first | exact ints_new [x, y, z] _ _ _ 3 _ rfl rfl rfl (by decide) | exact (ints_new [x, y, z] _ _ _ 3 _ rfl rfl rfl (by decide)).below (Bdn (Below.refl _ _) 1))).mono ?_); rintro e w' ⟨rfl, rfl⟩))
  all_goals
    go_wp2_with fail
    go_ret
    refine ⟨by rw [HOr.out]; rfl, ?_⟩
    obtain ⟨os, ho⟩ := HG.out
    refine ⟨1, os ++ #[.cells #[.int .i64 x, .int .i64 y, .int .i64 z] 3], ?_⟩
    rw [Go.Sort.alloc_eq_grow, ho, Go.Sort.grow_grow]
    rfl
theorem rowCompare_any (a b : Rw) (w : World) :
    Calls Tryz.prog 163 #[rowV a, rowV b] w fun e w' => e = .returned (.int .i64 (cmpR a b)) ∧ Below w.heap.size w w' :=
  (rowCompareG_any a b w).mono fun _ _ ⟨h, q, os, hw⟩ => ⟨h, hw ▸ Bgrow w q os⟩
set_option maxRecDepth 20000 in
theorem rowLess_any (a b : Rw) (w : World) :
    Calls Tryz.prog 205 #[rowV a, rowV b] w fun e w' => e = .returned (.bool (lessR a b)) ∧ Below w.heap.size w w' := by
  obtain ⟨w0, hw0⟩ : ∃ w0, w0 = w.alloc (.cells #[S a.part, .int .i64 a.key, .int .i64 a.val] 110) := ⟨_, rfl⟩
  have hb0 : Below w.heap.size w w0 := hw0 ▸ (Below.refl _ _).alloc (Nat.le_refl _) _
  have hb1 : Below w0.heap.size w0 (w0.alloc (.cells #[S b.part, .int .i64 b.key, .int .i64 b.val] 110)) := (Below.refl _ _).alloc (Nat.le_refl _) _
  obtain ⟨c0, c1, c2⟩ := rowCells (r := a) hw0 hb1
  obtain ⟨d0, d1, d2⟩ := rowCells (r := b) (w := w0) rfl (Below.refl _ _)
  have hsz : w0.heap.size = w.heap.size + 1 := by rw [hw0]; simp
  have hb2 := hb0.trans (hb1.mono hb0.size)
  rw [hsz] at d0 d1 d2
  rw [hw0] at c0 c1 c2 d0 d1 d2 hb2
  have HB2 := Lib.hid hb2
  have HL := Lib.hid (cmpR_less a b)
  have hC := fun W => rowCompare_any a b W
  generalize cmpR a b = k at *
  have HC := Lib.hid hC
  clear hb0 hb1 hb2 hsz hw0 w0 hC
  go_enter Tryz.func205, Tryz.ntmps205
  go_wp2_with fail
  refine (HC.out _).mono ?_
  rintro e w3 ⟨rfl, hb3⟩
  go_wp2_with fail
  go_ret
  exact ⟨ret_bool HL.out, HB2.out.trans (hb3.mono HB2.out.size)⟩
end Go.Proofs.YtmhchakjkgdpmaaGreatDoor
namespace Go.Proofs
open Go.Shelf
def Tryz.sortR_ren : Go.Shelf.Ren := ⟨fun | 6 => 210 | 15 => 181 | 14 => 262 | 28 => 234 | 29 => 235 | 20 => 291 | 21 => 292 | 22 => 293 | 23 => 294 | 24 => 295 | 25 => 296 | 26 => 297 | 27 => 298 | 46 => 322 | 47 => 275 | 48 => 276 | 49 => 323 | 50 => 324 | 57 => 336 | n => n, fun | 22 => 72 | 24 => 110 | 25 => 229 | 3 => 3 | 39 => 249 | 0 => 0 | 53 => 294 | 55 => 293 | 4 => 4 | 46 => 301 | 45 => 300 | 50 => 223 | 5 => 5 | 9 => 9 | 66 => 347 | 70 => 351 | 76 => 371 | 77 => 131 | n => n, fun | n => n⟩
theorem Tryz.sortR : Go.Proofs.SlLaysF0.n6 Tryz.prog Tryz.sortR_ren := {
  mixed := by kernel_rfl
  f6 := ⟨Tryz.f210.name, by decide, Tryz.func210.trans (congrArg some (by kernel_rfl))⟩
  f14 := ⟨Tryz.f262.name, by decide, Tryz.func262.trans (congrArg some (by kernel_rfl))⟩
  f15 := Tryz.func181.trans (congrArg some (by kernel_rfl))
  f20 := ⟨Tryz.f291.name, by decide, Tryz.func291.trans (congrArg some (by kernel_rfl))⟩
  f21 := ⟨Tryz.f292.name, by decide, Tryz.func292.trans (congrArg some (by kernel_rfl))⟩
  f22 := ⟨Tryz.f293.name, by decide, Tryz.func293.trans (congrArg some (by kernel_rfl))⟩
  f23 := ⟨Tryz.f294.name, by decide, Tryz.func294.trans (congrArg some (by kernel_rfl))⟩
  f24 := ⟨Tryz.f295.name, by decide, Tryz.func295.trans (congrArg some (by kernel_rfl))⟩
  f25 := ⟨Tryz.f296.name, by decide, Tryz.func296.trans (congrArg some (by kernel_rfl))⟩
  f26 := ⟨Tryz.f297.name, by decide, Tryz.func297.trans (congrArg some (by kernel_rfl))⟩
  f27 := ⟨Tryz.f298.name, by decide, Tryz.func298.trans (congrArg some (by kernel_rfl))⟩
  f28 := Tryz.func234.trans (congrArg some (by kernel_rfl))
  f29 := Tryz.func235.trans (congrArg some (by kernel_rfl))
  f46 := ⟨Tryz.f322.name, by decide, Tryz.func322.trans (congrArg some (by kernel_rfl))⟩
  f47 := Tryz.func275.trans (congrArg some (by kernel_rfl))
  f48 := Tryz.func276.trans (congrArg some (by kernel_rfl))
  f49 := ⟨Tryz.f323.name, by decide, Tryz.func323.trans (congrArg some (by kernel_rfl))⟩
  f50 := ⟨Tryz.f324.name, by decide, Tryz.func324.trans (congrArg some (by kernel_rfl))⟩
  f57 := ⟨Tryz.f336.name, by decide, Tryz.func336.trans (congrArg some (by kernel_rfl))⟩
  t0 := Tryz.underlying0
  a0 := Tryz.isAgg0
  z0 := Tryz.sizeOf0
  v0 := Tryz.zeroValue0
  t3 := Tryz.underlying3
  a3 := Tryz.isAgg3
  z3 := Tryz.sizeOf3
  v3 := Tryz.zeroValue3
  t4 := Tryz.underlying4
  a4 := Tryz.isAgg4
  z4 := Tryz.sizeOf4
  v4 := Tryz.zeroValue4
  t5 := Tryz.underlying5
  a5 := Tryz.isAgg5
  z5 := Tryz.sizeOf5
  v5 := Tryz.zeroValue5
  t9 := Tryz.underlying9
  a9 := Tryz.isAgg9
  z9 := Tryz.sizeOf9
  v9 := Tryz.zeroValue9
  t22 := Tryz.underlying72
  a22 := Tryz.isAgg72
  z22 := Tryz.sizeOf72
  v22 := Tryz.zeroValue72
  t25 := Tryz.underlying229
  a25 := Tryz.isAgg229
  z25 := Tryz.sizeOf229
  v25 := Tryz.zeroValue229
  t39 := Tryz.underlying249
  a39 := Tryz.isAgg249
  z39 := Tryz.sizeOf249
  v39 := Tryz.zeroValue249
  t45 := Tryz.underlying300
  a45 := Tryz.isAgg300
  z45 := Tryz.sizeOf300
  v45 := Tryz.zeroValue300
  t46 := Tryz.underlying301
  a46 := Tryz.isAgg301
  z46 := Tryz.sizeOf301
  v46 := Tryz.zeroValue301
  t50 := Tryz.underlying223
  a50 := Tryz.isAgg223
  z50 := Tryz.sizeOf223
  v50 := Tryz.zeroValue223
  t53 := Tryz.underlying294
  a53 := Tryz.isAgg294
  z53 := Tryz.sizeOf294
  v53 := Tryz.zeroValue294
  t55 := Tryz.underlying293
  a55 := Tryz.isAgg293
  z55 := Tryz.sizeOf293
  v55 := Tryz.zeroValue293
  t66 := Tryz.underlying347
  a66 := Tryz.isAgg347
  z66 := Tryz.sizeOf347
  v66 := Tryz.zeroValue347
  t70 := Tryz.underlying351
  a70 := Tryz.isAgg351
  z70 := Tryz.sizeOf351
  v70 := Tryz.zeroValue351
  t76 := Tryz.underlying371
  a76 := Tryz.isAgg371
  z76 := Tryz.sizeOf371
  v76 := Tryz.zeroValue371
  t77 := Tryz.underlying131
  a77 := Tryz.isAgg131
  z77 := Tryz.sizeOf131
  v77 := Tryz.zeroValue131 }
def Tryz.sortF_ren : Go.Shelf.Ren := ⟨fun | 6 => 132 | 15 => 181 | 14 => 185 | 28 => 234 | 29 => 235 | 20 => 245 | 21 => 246 | 22 => 247 | 23 => 248 | 24 => 249 | 25 => 250 | 26 => 251 | 27 => 252 | 46 => 286 | 47 => 275 | 48 => 276 | 49 => 287 | 50 => 288 | 57 => 318 | n => n, fun | 22 => 22 | 24 => 37 | 25 => 191 | 3 => 3 | 39 => 249 | 0 => 0 | 53 => 294 | 55 => 293 | 4 => 4 | 46 => 301 | 45 => 300 | 50 => 223 | 5 => 5 | 9 => 9 | 66 => 347 | 70 => 351 | 76 => 371 | 77 => 131 | n => n, fun | n => n⟩
theorem Tryz.sortF : Go.Proofs.SlLaysF0.n6 Tryz.prog Tryz.sortF_ren := {
  mixed := by kernel_rfl
  f6 := ⟨Tryz.f132.name, by decide, Tryz.func132.trans (congrArg some (by kernel_rfl))⟩
  f14 := ⟨Tryz.f185.name, by decide, Tryz.func185.trans (congrArg some (by kernel_rfl))⟩
  f15 := Tryz.func181.trans (congrArg some (by kernel_rfl))
  f20 := ⟨Tryz.f245.name, by decide, Tryz.func245.trans (congrArg some (by kernel_rfl))⟩
  f21 := ⟨Tryz.f246.name, by decide, Tryz.func246.trans (congrArg some (by kernel_rfl))⟩
  f22 := ⟨Tryz.f247.name, by decide, Tryz.func247.trans (congrArg some (by kernel_rfl))⟩
  f23 := ⟨Tryz.f248.name, by decide, Tryz.func248.trans (congrArg some (by kernel_rfl))⟩
  f24 := ⟨Tryz.f249.name, by decide, Tryz.func249.trans (congrArg some (by kernel_rfl))⟩
  f25 := ⟨Tryz.f250.name, by decide, Tryz.func250.trans (congrArg some (by kernel_rfl))⟩
  f26 := ⟨Tryz.f251.name, by decide, Tryz.func251.trans (congrArg some (by kernel_rfl))⟩
  f27 := ⟨Tryz.f252.name, by decide, Tryz.func252.trans (congrArg some (by kernel_rfl))⟩
  f28 := Tryz.func234.trans (congrArg some (by kernel_rfl))
  f29 := Tryz.func235.trans (congrArg some (by kernel_rfl))
  f46 := ⟨Tryz.f286.name, by decide, Tryz.func286.trans (congrArg some (by kernel_rfl))⟩
  f47 := Tryz.func275.trans (congrArg some (by kernel_rfl))
  f48 := Tryz.func276.trans (congrArg some (by kernel_rfl))
  f49 := ⟨Tryz.f287.name, by decide, Tryz.func287.trans (congrArg some (by kernel_rfl))⟩
  f50 := ⟨Tryz.f288.name, by decide, Tryz.func288.trans (congrArg some (by kernel_rfl))⟩
  f57 := ⟨Tryz.f318.name, by decide, Tryz.func318.trans (congrArg some (by kernel_rfl))⟩
  t0 := Tryz.underlying0
  a0 := Tryz.isAgg0
  z0 := Tryz.sizeOf0
  v0 := Tryz.zeroValue0
  t3 := Tryz.underlying3
  a3 := Tryz.isAgg3
  z3 := Tryz.sizeOf3
  v3 := Tryz.zeroValue3
  t4 := Tryz.underlying4
  a4 := Tryz.isAgg4
  z4 := Tryz.sizeOf4
  v4 := Tryz.zeroValue4
  t5 := Tryz.underlying5
  a5 := Tryz.isAgg5
  z5 := Tryz.sizeOf5
  v5 := Tryz.zeroValue5
  t9 := Tryz.underlying9
  a9 := Tryz.isAgg9
  z9 := Tryz.sizeOf9
  v9 := Tryz.zeroValue9
  t22 := Tryz.underlying22
  a22 := Tryz.isAgg22
  z22 := Tryz.sizeOf22
  v22 := Tryz.zeroValue22
  t25 := Tryz.underlying191
  a25 := Tryz.isAgg191
  z25 := Tryz.sizeOf191
  v25 := Tryz.zeroValue191
  t39 := Tryz.underlying249
  a39 := Tryz.isAgg249
  z39 := Tryz.sizeOf249
  v39 := Tryz.zeroValue249
  t45 := Tryz.underlying300
  a45 := Tryz.isAgg300
  z45 := Tryz.sizeOf300
  v45 := Tryz.zeroValue300
  t46 := Tryz.underlying301
  a46 := Tryz.isAgg301
  z46 := Tryz.sizeOf301
  v46 := Tryz.zeroValue301
  t50 := Tryz.underlying223
  a50 := Tryz.isAgg223
  z50 := Tryz.sizeOf223
  v50 := Tryz.zeroValue223
  t53 := Tryz.underlying294
  a53 := Tryz.isAgg294
  z53 := Tryz.sizeOf294
  v53 := Tryz.zeroValue294
  t55 := Tryz.underlying293
  a55 := Tryz.isAgg293
  z55 := Tryz.sizeOf293
  v55 := Tryz.zeroValue293
  t66 := Tryz.underlying347
  a66 := Tryz.isAgg347
  z66 := Tryz.sizeOf347
  v66 := Tryz.zeroValue347
  t70 := Tryz.underlying351
  a70 := Tryz.isAgg351
  z70 := Tryz.sizeOf351
  v70 := Tryz.zeroValue351
  t76 := Tryz.underlying371
  a76 := Tryz.isAgg371
  z76 := Tryz.sizeOf371
  v76 := Tryz.zeroValue371
  t77 := Tryz.underlying131
  a77 := Tryz.isAgg131
  z77 := Tryz.sizeOf131
  v77 := Tryz.zeroValue131 }
end Go.Proofs
namespace Go.Proofs.YtmhchakjkgdpmaaGreatDoor
open Go.RowKit

theorem nameOk_eq (s : Str) : nameOk s = nameB s 8 := by
  unfold nameOk nameB
  have e : (s.all fun b => partSigns.contains b) = s.all signB := by congr 1; funext b; exact signB_eq b
  rw [e, Bool.eq_iff_iff]
  have hn : s ≠ [] ↔ 1 ≤ s.length := by cases s <;> simp
  simp only [Bool.and_eq_true, decide_eq_true_eq, hn]
  exact ⟨fun ⟨h1, h2, h3⟩ => ⟨h3, h1, by omega⟩, fun ⟨h1, h2, h3⟩ => ⟨h2, by omega, h1⟩⟩
theorem rowErr_ways (r : Rw) : (nameB r.part 8 = false ∧ rowCheck r = 5) ∨ (nameB r.part 8 = true ∧ ((decide (farN r.key) = true ∧ rowCheck r = 2) ∨ (decide (farN r.key) = false ∧ ((decide (farN r.val) = true ∧ rowCheck r = 2) ∨ (decide (farN r.val) = false ∧ rowCheck r = 0))))) := by
  rw [← nameOk_eq]
  cases h : nameOk r.part with
  | false => exact .inl ⟨rfl, rowCheck_name h⟩
  | true =>
    refine .inr ⟨rfl, ?_⟩
    by_cases h1 : farN r.key
    · exact .inl ⟨decide_eq_true h1, rowCheck_far h (.inl h1)⟩
    · refine .inr ⟨decide_eq_false h1, ?_⟩
      by_cases h2 : farN r.val
      · exact .inl ⟨decide_eq_true h2, rowCheck_far h (.inr h2)⟩
      · exact .inr ⟨decide_eq_false h2, rowCheck_right h h1 h2⟩
set_option maxHeartbeats 1000000 in
set_option maxRecDepth 20000 in
theorem rowError_any (r : Rw) (w : World) (hs : r.part.length ≤ 100000) :
    Calls Tryz.prog 140 #[rowV r] w fun e w' => e = .returned (.int .i64 (rowCheck r : Nat)) ∧ Below w.heap.size w w' := by
  have hb0 : Below w.heap.size w (w.alloc (.cells #[S r.part, .int .i64 r.key, .int .i64 r.val] 110)) := (Below.refl _ _).alloc (Nat.le_refl _) _
  obtain ⟨c0, c1, c2⟩ := rowCells (r := r) (w := w) rfl (Below.refl _ (w.alloc (.cells #[S r.part, .int .i64 r.key, .int .i64 r.val] 110)))
  have hNm := fun W => isName_any r.part 8 W hs
  have hF1 := fun W => isFar_any r.key W
  have hF2 := fun W => isFar_any r.val W
  rcases rowErr_ways r with ⟨h1, hc⟩ | ⟨h1, ⟨h2, hc⟩ | ⟨h2, ⟨h3, hc⟩ | ⟨h3, hc⟩⟩⟩
  case' inl => rw [h1] at hNm
  case' inr.inl => rw [h1] at hNm; rw [h2] at hF1; generalize decide (farN r.val) = fv at hF2
  case' inr.inr.inl => rw [h1] at hNm; rw [h2] at hF1; rw [h3] at hF2
  case' inr.inr.inr => rw [h1] at hNm; rw [h2] at hF1; rw [h3] at hF2
  all_goals
    rw [hc]
    have HNm := Lib.hid hNm; have HF1 := Lib.hid hF1; have HF2 := Lib.hid hF2
    clear hNm hF1 hF2 hc
    try clear h1
    try clear h2
    try clear h3
    go_enter Tryz.func140, Tryz.ntmps140
    go_wp2_with fail
    refine (HNm.out _).mono ?_
    rintro e w' ⟨rfl, rfl⟩
    go_wp2_with fail
    first
    | (go_ret; exact ⟨rfl, hb0⟩)
    | (refine (HF1.out _).mono ?_; rintro e w' ⟨rfl, rfl⟩; go_wp2_with fail; refine (HF2.out _).mono ?_; rintro e w' ⟨rfl, rfl⟩; go_wp2_with fail; go_ret; exact ⟨rfl, hb0⟩)
set_option maxHeartbeats 2000000 in
set_option maxRecDepth 20000 in
theorem refRowText_any (r : Rw) (w : World) (hs : r.part.length ≤ 100000) :
    Calls Tryz.prog 141 #[rowV r] w fun e w' => e = .returned (S (rowText r)) ∧ Below w.heap.size w w' := by
  have hb0 : Below w.heap.size w (w.alloc (.cells #[S r.part, .int .i64 r.key, .int .i64 r.val] 110)) := (Below.refl _ _).alloc (Nat.le_refl _) _
  have CF := Lib.hid (fun w6 (h : Below (w.alloc (.cells #[S r.part, .int .i64 r.key, .int .i64 r.val] 110)).heap.size (w.alloc (.cells #[S r.part, .int .i64 r.key, .int .i64 r.val] 110)) w6) => rowCells (r := r) rfl h)
  obtain ⟨c0, c1, c2⟩ := CF.out _ (Below.refl _ _)
  have hfe := rowError_any r (w.alloc (.cells #[S r.part, .int .i64 r.key, .int .i64 r.val] 110)) hs
  by_cases hc : rowCheck r = 0
  case neg =>
    have HF : Hid (rowText r = []) := Lib.hid (if_neg hc)
    have hpos : (0 : Int) < ((rowCheck r : Nat) : Int) := by omega
    generalize rowCheck r = k at *
    have HFe := Lib.hid hfe
    clear hfe hc
    go_enter Tryz.func141, Tryz.ntmps141
    go_wp2_with fail
    refine HFe.out.mono ?_
    rintro e w1 ⟨rfl, hb1⟩
    go_wp2_with fail
    go_ret
    exact ⟨by rw [HF.out]; rfl, hb0.trans (hb1.mono hb0.size)⟩
  rw [hc] at hfe
  have HFe := Lib.hid hfe
  have HF : Hid (rowText r = rowLine r) := Lib.hid (if_pos hc)
  obtain ⟨q0, q1, q2, q3, q4⟩ := name_len hc
  clear hfe hc
  have l1 := itoa_len r.key (by omega) (by omega)
  have l2 := itoa_len r.val (by omega) (by omega)
  have d1 := fun W => decimal_any r.key W (by omega) (by omega)
  have d2 := fun W => decimal_any r.val W (by omega) (by omega)
  have hfl : rowLine r = r.part ++ numsTail [r.key, r.val] := rfl
  have HFl := Lib.hid hfl
  clear hfl q1 q2 q3 q4
  generalize ht1 : Lib.itoa r.key = t1 at *
  generalize ht2 : Lib.itoa r.val = t2 at *
  have D1 := Lib.hid d1; have D2 := Lib.hid d2
  clear d1 d2
  have r1 := cat_run ⟨r.part.toArray⟩ ⟨#[32]⟩ (r.part.length) (1) rfl rfl (by omega)
  have r2 := cat_run (⟨r.part.toArray⟩ ++ ⟨#[32]⟩) ⟨t1.toArray⟩ (r.part.length + 1) (t1.length) (by simp only [ByteArray.size_append]; rfl) rfl (by omega)
  have r3 := cat_run (⟨r.part.toArray⟩ ++ ⟨#[32]⟩ ++ ⟨t1.toArray⟩) ⟨#[32]⟩ (r.part.length + 1 + t1.length) (1) (by simp only [ByteArray.size_append]; rfl) rfl (by omega)
  have r4 := cat_run (⟨r.part.toArray⟩ ++ ⟨#[32]⟩ ++ ⟨t1.toArray⟩ ++ ⟨#[32]⟩) ⟨t2.toArray⟩ (r.part.length + 1 + t1.length + 1) (t2.length) (by simp only [ByteArray.size_append]; rfl) rfl (by omega)
  have HAll : Hid ((⟨r.part.toArray⟩ : ByteArray) ++ ⟨#[32]⟩ ++ ⟨t1.toArray⟩ ++ ⟨#[32]⟩ ++ ⟨t2.toArray⟩ = ⟨(rowLine r).toArray⟩) := Lib.hid (by
    rw [HFl.out]
    simp only [numsTail, List.flatMap_cons, List.flatMap_nil, ht1, ht2]
    apply ByteArray.ext
    simp)
  clear ht1 ht2
  go_enter Tryz.func141, Tryz.ntmps141
  go_wp2_with fail
  generalize w.alloc (.cells #[S r.part, .int .i64 r.key, .int .i64 r.val] 110) = w0 at *
  refine HFe.out.mono ?_
  rintro e w1 ⟨rfl, hb1⟩
  have hb1d := hb1.drew
  clear c0 c1 c2
  obtain ⟨c0, c1, c2⟩ := CF.out _ hb1d
  go_wp2_with fail
  go_region_held3 (fun w' => w'.cell? ⟨w.heap.size, 0, none⟩ = some (S r.part) ∧ w'.cell? ⟨w.heap.size, 1, none⟩ = some (.int .i64 r.key) ∧ w'.cell? ⟨w.heap.size, 2, none⟩ = some (.int .i64 r.val)) (exact ⟨c0, c1, c2⟩) (first | (go_at_call 145; (with_reducible refine (D1.out _).mono ?_); rintro e v1 ⟨rfl, hd1⟩; have c0 := (hd1.cell (World.block_lt_of_cell? _ _ c0)).trans c0; have c1 := (hd1.cell (World.block_lt_of_cell? _ _ c1)).trans c1; have c2 := (hd1.cell (World.block_lt_of_cell? _ _ c2)).trans c2) | (go_at_call 145; (with_reducible refine (D2.out _).mono ?_); rintro e v2 ⟨rfl, hd2⟩; have c0 := (hd2.cell (World.block_lt_of_cell? _ _ c0)).trans c0; have c1 := (hd2.cell (World.block_lt_of_cell? _ _ c1)).trans c1; have c2 := (hd2.cell (World.block_lt_of_cell? _ _ c2)).trans c2))
  go_wp2_with fail
  go_ret
  refine ⟨?_, ?_⟩
  · show Ending.returned (.string ((⟨r.part.toArray⟩ : ByteArray) ++ ⟨#[32]⟩ ++ ⟨t1.toArray⟩ ++ ⟨#[32]⟩ ++ ⟨t2.toArray⟩)) = _
    rw [HAll.out, HF.out]
  · have hbw1 := hb0.trans (hb1d.mono hb0.size)
    have h1 := hbw1.trans (hd1.mono hbw1.size)
    exact h1.trans (hd2.mono h1.size)
theorem less_ways (a b : Rw) : ((a.part == b.part) = false ∧ Op.bytesLess a.part b.part = lessR a b) ∨ ((a.part == b.part) = true ∧ (((a.key != b.key) = true ∧ decide (a.key < b.key) = lessR a b) ∨ ((a.key != b.key) = false ∧ decide (a.val < b.val) = lessR a b))) := by
  unfold lessR
  by_cases h1 : a.part = b.part
  · refine .inr ⟨by simp [h1], ?_⟩
    rw [if_neg (fun h : a.part ≠ b.part => h h1)]
    by_cases h2 : a.key = b.key
    · refine .inr ⟨by simp [h2], ?_⟩
      rw [if_neg (fun h : a.key ≠ b.key => h h2)]
    · refine .inl ⟨by simpa using h2, ?_⟩
      rw [if_pos (show a.key ≠ b.key from h2)]
  · refine .inl ⟨by simpa using h1, ?_⟩
    rw [if_pos (show a.part ≠ b.part from h1)]
    exact less_befR a.part b.part
set_option maxHeartbeats 1000000 in
set_option maxRecDepth 20000 in
theorem isLess_any (a b : Rw) (w : World) :
    Calls Tryz.prog 177 #[rowV a, rowV b] w fun e w' => e = .returned (.bool (lessR a b)) ∧ Below w.heap.size w w' := by
  have hb0 : Below w.heap.size w (w.alloc (.cells #[S a.part, .int .i64 a.key, .int .i64 a.val] 110)) := (Below.refl _ _).alloc (Nat.le_refl _) _
  obtain ⟨w0, hw0⟩ : ∃ w0, w0 = w.alloc (.cells #[S a.part, .int .i64 a.key, .int .i64 a.val] 110) := ⟨_, rfl⟩
  have hb1 : Below w0.heap.size w0 (w0.alloc (.cells #[S b.part, .int .i64 b.key, .int .i64 b.val] 110)) := (Below.refl _ _).alloc (Nat.le_refl _) _
  obtain ⟨c0, c1, c2⟩ := rowCells (r := a) hw0 hb1
  obtain ⟨d0, d1, d2⟩ := rowCells (r := b) (w := w0) rfl (Below.refl _ _)
  have hsz : w0.heap.size = w.heap.size + 1 := by rw [hw0]; simp
  have hb2 := (hw0 ▸ hb0).trans (hb1.mono (hw0 ▸ hb0).size)
  rw [hw0] at c0 c1 c2
  rw [hsz] at d0 d1 d2
  rw [hw0] at d0 d1 d2 hb2
  have HB2 := Lib.hid hb2
  clear hb0 hb1 hb2 hsz hw0 w0
  rcases less_ways a b with ⟨g1, hl⟩ | ⟨g1, ⟨g2, hl⟩ | ⟨g2, hl⟩⟩
  all_goals
    have HL := Lib.hid hl
    clear hl
    go_enter Tryz.func177, Tryz.ntmps177
    go_wp2_with fail
    go_ret
    exact ⟨ret_bool HL.out, HB2.out⟩
theorem rw_equalIn (x y : Rw) (w : World) : (Op.equalIn 10000 110 (rowV x) (rowV y)).run Tryz.prog w = .ok (decide (x = y)) w := by
  have uS := Tryz.underlying9
  have uI := Tryz.underlying3
  have aS := Tryz.isAgg9
  have aI := Tryz.isAgg3
  have zS := Tryz.sizeOf9
  have zI := Tryz.sizeOf3
  have hS : Tryz.prog.underlying 110 = some (.struct (Tryz.prog.fieldsOf 110)) := by kernel_rfl
  have hp : Tryz.prog.stoodInHeld 110 = false := by kernel_rfl
  rw [show (10000 : Nat) = 9999 + 1 from rfl, run_equalIn_agg w 9999 110 _ _ hS hp]
  simp only [Program.fieldsOf, Tryz.underlying110]
  go_simp
  cases x with
  | mk p1 n1 a1 =>
  cases y with
  | mk p2 n2 a2 =>
  by_cases h1 : p1 = p2 <;> by_cases h3 : n1 = n2 <;> by_cases h4 : a1 = a2 <;> simp [h1, h3, h4]
theorem rw_neq (x y : Rw) (w : World) : (binOp .neq 110 (rowV x) (rowV y)).run Tryz.prog w = .ok (.bool (!decide (x = y))) w := by
  rw [run_neq_struct, rw_equalIn]; rfl
theorem rw_eql (x y : Rw) (w : World) : (binOp .eql 110 (rowV x) (rowV y)).run Tryz.prog w = .ok (.bool (decide (x = y))) w := by
  rw [run_eql_struct, rw_equalIn]; rfl
theorem rw_guard : Tryz.prog.eqGuardType Tryz.prog.depth 110 = false := by kernel_rfl
set_option maxRecDepth 20000 in
theorem sameRows_any (v u : Value) (l m : List Rw) (w : World) (hl : RowsAt w v l) (hm : RowsAt w u m) :
    Calls Tryz.prog 39 #[v, u] w fun e w' => e = .returned (.bool (decide (l = m))) ∧ Below w.heap.size w w' := by
  obtain ⟨a, c, b, o, rfl, ha, hc, hcm, hx⟩ := hl
  obtain ⟨a', c', b', o', rfl, ha', hc', hcm', hx'⟩ := hm
  unfold maxLen at hcm hcm'
  by_cases hlen : l.length = m.length
  case neg =>
    have hne : ((l.length : Int) != (m.length : Int)) = true := by simp; omega
    go_enter Tryz.func39, Tryz.ntmps39
    go_wp2_with fail
    go_ret
    exact ⟨ret_bool (decide_eq_false fun e => hlen (by rw [e])).symm, Below.refl _ _⟩
  have hne : ((l.length : Int) != (m.length : Int)) = false := by simp [hlen]
  have Hl := Lib.hid hlen; clear hlen
  go_enter Tryz.func39, Tryz.ntmps39
  go_wp2_with fail
  go_loopw [5] (fun i wr => ∃ k : Nat, k ≤ l.length ∧ i = .int .i64 k ∧ Hid (∀ j < k, l[j]? = m[j]?) ∧ Below w.heap.size w wr) (fun i _ => l.length - (intOf i).toNat)
  case atStart => exact ⟨0, by omega, rfl, Lib.hid fun j hj => absurd hj (by omega), Below.refl _ _⟩
  case round =>
    obtain ⟨k, hk, rfl, hj, hb⟩ := hrel
    by_cases hlt : k < l.length
    case neg =>
      obtain rfl : k = l.length := by omega
      go_wp2_with fail
      go_ret
      exact ⟨ret_bool (decide_eq_true (list_ext_upto Hl.out hj.out)).symm, hb⟩
    obtain ⟨x, hxk⟩ := get_ex hlt
    obtain ⟨y, hyk⟩ := get_ex (l := m) (k := k) (by rw [← Hl.out]; exact hlt)
    obtain ⟨c0, c1, c2⟩ := rwCells hx hb hxk
    obtain ⟨d0, d1, d2⟩ := rwCells hx' hb hyk
    have i1 := idx_at (c := c) 3 Tryz.underlying72 szRw ha k hlt
    have i2 := idx_at (c := c') 3 Tryz.underlying72 szRw ha' k (by rw [← Hl.out]; exact hlt)
    have hk1 : (k : Int) < (l.length : Int) := by omega
    have hn := rw_neq x y
    have hgd := rw_guard
    have Hx := Lib.hid hxk; clear hxk
    have Hy := Lib.hid hyk; clear hyk
    go_wp2_with fail
    go_quiet (fail)
    by_cases he : x = y
    · rw [decide_eq_true he]
      have He := Lib.hid he; clear he
      go_wp2_with fail
      go_roundw
      case rel => exact ⟨k + 1, by omega, by go_num, (Lib.hid fun j hj' => by
        rcases Nat.lt_or_ge j k with h | h
        · exact hj.out j h
        · obtain rfl : j = k := by omega
          rw [Hx.out, Hy.out, He.out]), Bdn hb _⟩
      case measure => simp [intOf]; omega
    · rw [decide_eq_false he]
      have He := Lib.hid he; clear he
      go_wp2_with fail
      go_ret
      refine ⟨ret_bool (decide_eq_false fun e => He.out ?_).symm, Bdn hb _⟩
      have := Hx.out; rw [e, Hy.out] at this; exact (Option.some.inj this).symm
theorem filter_take_snocR {l : List Rw} {k : Nat} {x : Rw} (p : Rw → Bool) (h : l[k]? = some x) : (l.take (k + 1)).filter p = (l.take k).filter p ++ if p x then [x] else [] := by
  rw [List.take_add_one, h]
  simp [List.filter_append, List.filter_cons]
theorem within_ways (x : Rw) (lo hi : Int) : (withinP lo hi x = false ∧ lo ≤ x.key ∧ x.key ≤ hi) ∨ (withinP lo hi x = true ∧ (decide (lo ≤ x.key) = false ∨ (lo ≤ x.key ∧ decide (x.key ≤ hi) = false))) := by
  simp only [withinP, Bool.or_eq_true, decide_eq_true_eq, decide_eq_false_iff_not, Bool.or_eq_false_iff]
  omega
set_option maxHeartbeats 1000000 in
set_option maxRecDepth 20000 in
theorem withinRows_any (v : Value) (l : List Rw) (lo hi : Int) (w : World) (hl : RowsAt w v l) (hn : l.length ≤ 100000) :
    Calls Tryz.prog 121 #[v, .int .i64 lo, .int .i64 hi] w fun e w' => ∃ v', e = .returned v' ∧ Own encR 110 3 w.heap.size w' v' (withinR l lo hi) ∧ Below w.heap.size w w' := by
  obtain ⟨a, c, b, o, rfl, ha, hc, hcm, hx⟩ := hl
  unfold maxLen at hcm
  have hd : withinR l lo hi = l.filter (fun r => !withinP lo hi r) := rfl
  have HD := Lib.hid hd; clear hd
  go_enter Tryz.func121, Tryz.ntmps121
  go_wp2_with fail
  go_loopw [7, 8] (fun u i wr => ∃ (k : Nat) (q : List Rw), k ≤ l.length ∧ i = .int .i64 k ∧ Hid (q = (l.take k).filter (fun r => !withinP lo hi r)) ∧ q.length ≤ k ∧ Own encR 110 3 w.heap.size wr u q ∧ Below w.heap.size w wr) (fun _ i _ => l.length - (intOf i).toNat)
  case atStart => exact ⟨0, [], by omega, rfl, Lib.hid rfl, by simp, Own.nil _ _ _ _ _, Below.refl _ _⟩
  case round =>
    obtain ⟨k, q, hk, rfl, hq, hql, ho, hb⟩ := hrel
    by_cases hlt : k < l.length
    case neg =>
      obtain rfl : k = l.length := by omega
      have f : decide ((l.length : Int) < (l.length : Int)) = false := by simp
      go_wp2_with fail
      go_ret
      exact ⟨_, rfl, by rw [HD.out, show l.filter (fun r => !withinP lo hi r) = q by rw [hq.out, List.take_length]]; exact ho, hb⟩
    obtain ⟨x, hxk⟩ := get_ex hlt
    obtain ⟨c0, c1, c2⟩ := rwCells hx hb hxk
    have i1 := idx_at (c := c) 3 Tryz.underlying72 szRw ha k hlt
    have hk1 : (k : Int) < (l.length : Int) := by omega
    have hsn := filter_take_snocR (fun r => !withinP lo hi r) hxk
    rw [← hq.out] at hsn
    have HSn := Lib.hid hsn; clear hsn hxk
    rcases within_ways x lo hi with ⟨he, g, g2⟩ | ⟨he, g | ⟨g, g2⟩⟩
    · have HSn2 : Hid (q ++ [x] = (l.take (k + 1)).filter (fun r => !withinP lo hi r)) := Lib.hid (by rw [HSn.out]; simp [he])
      clear he HSn
      go_wp2_with (at_builtin; refine wpList_app rfl _ _ _ rfl w.heap.size elRw _ q.length _ rfl (ho.alloc _) (.slice (some ⟨wr.heap.size, 0, none⟩) 1 1) 1 (encR x) rfl (src_one rfl rfl (by simp [Value.oneCell'])) (by unfold maxLen; omega) (by omega) (by have := hb.size; simp; omega) ?_; intro v' w2 hown hg _)
      go_roundw
      case rel => exact ⟨k + 1, q ++ [x], by omega, by go_num, HSn2, by simp; omega, Own.snoc hown, Bapp (hb.alloc hb.size _) (ho.alloc _) hg (Nat.le_refl _) (by have := hb.size; simp; omega)⟩
      case measure => simp [intOf]; omega
    all_goals
      have HSn2 : Hid (q = (l.take (k + 1)).filter (fun r => !withinP lo hi r)) := Lib.hid (by rw [HSn.out]; simp [he])
      clear he HSn
      go_wp2_with fail
      go_roundw
      case rel => exact ⟨k + 1, q, by omega, by go_num, HSn2, by omega, ho, hb⟩
      case measure => simp [intOf]; omega
end Go.Proofs.YtmhchakjkgdpmaaGreatDoor
namespace Go.Proofs.YtmhchakjkgdpmaaGreatDoor
open Go.RowKit Go.Sort Go.Lib Go.Shelf

theorem flatK_list {α : Type} [Inhabited α] {enc : α → List Value} {k : Nat} (hen : Enc enc k) (hk : 0 < k) (l : List α) : (flatK enc k l.toArray).toList = l.flatMap enc := by
  apply List.ext_getElem?
  intro i
  by_cases hi : i < l.length * k
  · have hd : i / k < l.length := Nat.div_lt_of_lt_mul (by rw [Nat.mul_comm]; exact hi)
    have hm : i % k < (enc l[i / k]).length := by rw [(hen _).1]; exact Nat.mod_lt _ hk
    have h1 := flat_get hen l (i / k) l[i / k] (by simp [hd]) (i % k) _ (List.getElem?_eq_getElem hm)
    rw [show i / k * k + i % k = i by have := Nat.div_add_mod i k; rw [Nat.mul_comm] at this; omega] at h1
    rw [h1]
    simp [flatK, hi, hd, hm]
  · rw [List.getElem?_eq_none (by simp; omega), List.getElem?_eq_none (by rw [flat_length hen]; omega)]
theorem heap_sortedK {w : World} {g n : Nat} {os : Array Obj} {cur : Array Value} {e : TypeId} {fr : Nat × Nat} (F : Array Value) (hb : w.heap[g]? = some (.cells cur e fr)) :
    (grow (putRow id (Sort.ahead w n) g 0 F) os).heap[g]? = some (.cells (putCells id 0 F cur) e fr) := by
  have hg : g < w.heap.size := (Array.getElem?_eq_some_iff.1 hb).1
  rw [heap_grow_old _ _ (by simpa using hg)]
  simp [putRow, mapBlock, Sort.ahead, Array.getElem?_modify, hb, onCells]
theorem grownBy_sortedK {w : World} {g n : Nat} {os : Array Obj} (F : Array Value) : w.grownBy (grow (putRow id (Sort.ahead w n) g 0 F) os) (some g) := by
  refine ⟨rfl, rfl, rfl, by simp, fun k hk hne => ?_⟩
  rw [heap_grow_old _ _ (by simpa using hk)]
  have : g ≠ k := fun e => hne (by rw [e])
  simp [putRow, mapBlock, Sort.ahead, Array.getElem?_modify, this]
theorem take_putK (cur : Array Value) (ts : List Value) (h : ts.length ≤ cur.size) : (putCells id 0 ts.toArray cur).toList.take ts.length = ts := by
  apply List.ext_getElem?
  intro j
  by_cases hj : j < ts.length
  · rw [List.getElem?_take_of_lt hj, Array.getElem?_toList]
    simp [putCells, hj, show j < cur.size by omega]
  · rw [List.getElem?_take_eq_none (by omega), List.getElem?_eq_none (by omega)]
/-- What the call owns, held as the sort wants it. -/
theorem Own.holdsK {α : Type} [Inhabited α] {enc : α → List Value} {e : TypeId} {k B : Nat} {w : World} {g n cap : Nat} {l : List α} (hen : Enc enc k) (hk : 0 < k) (h : Own enc e k B w (.slice (some ⟨g, 0, none⟩) n cap) l) : HoldsK enc k w g 0 l.toArray := by
  obtain ⟨cur, hB, hg, hl, hc, hm, hs, ht⟩ := h.row
  intro j hj
  have hj' : j < l.length * k := by simpa using hj
  refine ⟨?_, by simp [World.frozen?, hg]⟩
  have hf := flatK_list hen hk l
  rw [cell_of_row w g _ cur e (0, 0) hg, Nat.zero_add]
  have h1 : (cur.toList.take (n * k))[j]? = (flatK enc k l.toArray).toList[j]? := by rw [ht, hf]
  rw [List.getElem?_take_of_lt (by rw [← hl]; exact hj')] at h1
  have h2 : (flatK enc k l.toArray).toList[j]? = some (flatK enc k l.toArray)[j]! := by
    rw [Array.getElem?_toList, getElem!_pos _ j hj]; simp
  rw [← Array.getElem?_toList, h1, h2]; rfl
/-- Behind the sort the same slice owns what was sorted. -/
theorem Own.sorted {α : Type} [Inhabited α] {enc : α → List Value} {e : TypeId} {k B n' : Nat} {os : Array Obj} {w : World} {g n cap : Nat} {l m : List α} (hen : Enc enc k) (hk : 0 < k) (h : Own enc e k B w (.slice (some ⟨g, 0, none⟩) n cap) l) (hml : m.length = l.length) :
    Own enc e k B (sortWorldK enc k w g 0 n' m.toArray os) (.slice (some ⟨g, 0, none⟩) n cap) m := by
  obtain ⟨cur, hB, hg, hl, hc, hm, hs, ht⟩ := h.row
  have hf := flatK_list hen hk m
  have hF : flatK enc k m.toArray = (m.flatMap enc).toArray := by rw [← hf]
  unfold sortWorldK putRowK
  rw [hF]
  refine Own.put hen (by omega) hB (heap_sortedK _ hg) hc hm (by simp [putCells, hs]) ?_
  have hlen : (m.flatMap enc).length = n * k := by rw [flat_length hen, hml, hl]
  have := take_putK cur (m.flatMap enc) (by rw [hlen, hs]; exact Nat.mul_le_mul_right _ hc)
  rwa [hlen] at this
theorem swo_less : SWO (ltOf cmpR) where
  irrefl x := by unfold ltOf; rw [cmpR_less]; exact less_irrefl x
  trans x y z h1 h2 := by unfold ltOf at *; rw [cmpR_less] at *; exact less_trans h1 h2
  ntrans x y z h1 h2 := by unfold ltOf at *; rw [cmpR_less] at *; exact le_trans' h2 h1
theorem clo_compare : ∀ args w, (callFunc 163 args).run Tryz.prog w = .ok (.enter 163 args) w := enters_of Tryz.func163 (by kernel_rfl) rfl
theorem sortFuncR_any (B : Nat) (v : Value) (l : List Rw) (w : World) (ho : Own encR 110 3 B w v l) (hB : B ≤ w.heap.size) (hn : l.length ≤ 100000) :
    Calls Tryz.prog 210 #[v, .func (.func 163) #[] #[]] w fun e w' => e = .returned (.tuple #[]) ∧ Own encR 110 3 B w' v (sortR l) ∧ Below B w w' := by
  have hol := ho
  rcases ho.2 with ⟨rfl, h0⟩ | ⟨g, cap, cur, rfl, hbase, hb, h1, h2, h3, h4⟩
  · obtain rfl := List.eq_nil_of_length_eq_zero h0
    have h := AnyF.slices_SortFunc_none Tryz.sortR none 0 (.func (.func 163) #[] #[]) w
    refine (show Calls Tryz.prog 210 _ w _ from h).mono ?_
    rintro e w' ⟨rfl, rfl⟩
    exact ⟨rfl, ho, Below.refl _ _⟩
  · have h := AnyQ.slices_SortFunc Tryz.sortR 3 Tryz.isAgg110 Tryz.sizeOf110 encR (fun x => (encR_enc x).1) (fun x => (encR_enc x).2) cmpR swo_less 163 #[] g 0 cap l.toArray w clo_compare (fun _ _ _ _ x y => rowCompareG_any x y _) (hol.holdsK encR_enc (by decide)) (Array.getElem?_eq_some_iff.1 hb).1 (by simp; omega)
    refine (show Calls Tryz.prog 210 #[.slice (some ⟨g, 0, none⟩) l.toArray.size cap, .func (.func 163) #[] #[]] w _ from h).mono ?_
    rintro e w' ⟨rfl, d', n, os, hp, hs, rfl⟩
    have hsz : d'.size = l.length := by simpa using hp.1
    have hd : d'.toList = sortR l := by
      refine sort_of ?_ ?_
      · refine List.pairwise_iff_getElem.2 fun i j hi hj hij => ?_
        have := hs i j (Nat.zero_le _) hij (by simpa [hsz] using hj)
        unfold ltOf at this
        rw [cmpR_less] at this
        simpa [getElem!_pos, show i < d'.size by simpa using hi, show j < d'.size by simpa using hj] using this
      · have := hp.2.2
        simpa [hsz, Array.extract_eq_self_of_le] using this
    refine ⟨rfl, ?_, (Below.refl B w).grown (grownBy_sortedK _) hB (fun k hk => by cases hk; exact hbase)⟩
    have h5 := hol.sorted (n' := n) (os := os) encR_enc (by decide) (m := d'.toList) (by simpa using hsz)
    rw [hd] at h5
    rw [show d' = (sortR l).toArray by rw [← hd]]
    exact h5
theorem valuesR_any (a : Option Addr) (len cap : Nat) (w : World) :
    Calls Tryz.prog 162 #[.slice a len cap] w fun e w' => e = .returned (.func (.func 211) #[] #[.pointer (some ⟨w.heap.size, 0, none⟩)]) ∧ w' = w.alloc (.cells #[.slice a len cap] 72) :=
  callsIn_wide.1 (valuesR_in Fence.wide 6 trivial rfl a len cap w)
theorem collectR_any (Bs : Nat) (v : Value) (l : List Rw) (w0 w : World) (hBs : Bs < w.heap.size) (hc : w.cell? ⟨Bs, 0, none⟩ = some v) (hl : RowsAt w0 v l) (hb0 : Below w0.heap.size w0 w) (hn : l.length ≤ 100000) :
    Calls Tryz.prog 209 #[.func (.func 211) #[] #[.pointer (some ⟨Bs, 0, none⟩)]] w fun e w' => ∃ u, e = .returned u ∧ Own encR 110 3 w.heap.size w' u l ∧ Below w.heap.size w w' :=
  callsIn_wide.1 (collectR_in Fence.wide 6 trivial trivial rfl (by omega) 211 #[.pointer (some ⟨Bs, 0, none⟩)] trivial (enters_of Tryz.func211 (by kernel_rfl) rfl) l hn w.heap.size w (Nat.le_refl _)
    (valuesR_stops Fence.wide 4 trivial rfl (by omega) Bs w.heap.size v l w0 w hBs (Nat.le_refl _) hc hl hb0.size hb0))
theorem sortedFuncR_any (Bs : Nat) (v : Value) (l : List Rw) (w0 w : World) (hBs : Bs < w.heap.size) (hc : w.cell? ⟨Bs, 0, none⟩ = some v) (hl : RowsAt w0 v l) (hb0 : Below w0.heap.size w0 w) (hn : l.length ≤ 100000) :
    Calls Tryz.prog 161 #[.func (.func 211) #[] #[.pointer (some ⟨Bs, 0, none⟩)], .func (.func 163) #[] #[]] w fun e w' => ∃ u, e = .returned u ∧ Own encR 110 3 w.heap.size w' u (sortR l) ∧ Below w.heap.size w w' := by
  have HC := Lib.hid (collectR_any Bs v l w0 w hBs hc hl hb0 hn)
  clear hc
  go_enter Tryz.func161, Tryz.ntmps161
  go_wp2_with fail
  refine HC.out.mono ?_
  rintro e w1 ⟨u, rfl, hown, hb1⟩
  have HS := Lib.hid (sortFuncR_any w.heap.size u l w1 hown hb1.size hn)
  go_wp2_with fail
  refine HS.out.mono ?_
  rintro e w2 ⟨rfl, hown2, hb2⟩
  go_wp2_with fail
  go_ret
  exact ⟨_, rfl, hown2, hb1.trans hb2⟩
theorem rowSort_any (v : Value) (l : List Rw) (w : World) (hl : RowsAt w v l) (hn : l.length ≤ 100000) :
    Calls Tryz.prog 98 #[v] w fun e w' => ∃ u, e = .returned u ∧ Own encR 110 3 w.heap.size w' u (sortR l) ∧ Below w.heap.size w w' := by
  obtain ⟨a, c, rfl, -, -⟩ := hl.form'
  have hba : Below w.heap.size w (w.alloc (.cells #[.slice a l.length c] 72)) := (Below.refl _ _).alloc (Nat.le_refl _) _
  have c0 : (w.alloc (.cells #[.slice a l.length c] 72)).cell? ⟨w.heap.size, 0, none⟩ = some (.slice a l.length c) := by simp
  have HS := Lib.hid (sortedFuncR_any w.heap.size _ l w _ (by simp) c0 hl hba hn)
  clear c0
  go_enter Tryz.func98, Tryz.ntmps98
  go_wp2_with fail
  refine (valuesR_any a l.length c w).mono ?_
  rintro e w1 ⟨rfl, rfl⟩
  go_wp2_with fail
  refine HS.out.mono ?_
  rintro e w2 ⟨u, rfl, hown, hb2⟩
  go_wp2_with fail
  go_ret
  exact ⟨_, rfl, hown.base (by simp), hba.trans (hb2.mono hba.size)⟩
set_option maxRecDepth 20000 in
theorem equalR_any (v u : Value) (l m : List Rw) (w : World) (hl : RowsAt w v l) (hm : RowsAt w u m) :
    Calls Tryz.prog 101 #[v, u] w fun e w' => e = .returned (.bool (decide (l = m))) ∧ Below w.heap.size w w' := by
  obtain ⟨a, c, b, o, rfl, ha, hc, hcm, hx⟩ := hl
  obtain ⟨a', c', b', o', rfl, ha', hc', hcm', hx'⟩ := hm
  unfold maxLen at hcm hcm'
  by_cases hlen : l.length = m.length
  case neg =>
    have hne : ((l.length : Int) != (m.length : Int)) = true := by simp; omega
    go_enter Tryz.func101, Tryz.ntmps101
    go_wp2_with fail
    go_ret
    exact ⟨ret_bool (decide_eq_false fun e => hlen (by rw [e])).symm, Below.refl _ _⟩
  have hne : ((l.length : Int) != (m.length : Int)) = false := by simp [hlen]
  have Hl := Lib.hid hlen; clear hlen
  go_enter Tryz.func101, Tryz.ntmps101
  go_wp2_with fail
  go_loopw [13] (fun i wr => ∃ k : Nat, k ≤ l.length ∧ i = .int .i64 k ∧ Hid (∀ j < k, l[j]? = m[j]?) ∧ Below w.heap.size w wr) (fun i _ => l.length - (intOf i).toNat)
  case atStart => exact ⟨0, by omega, rfl, Lib.hid fun j hj => absurd hj (by omega), Below.refl _ _⟩
  case round =>
    obtain ⟨k, hk, rfl, hj, hb⟩ := hrel
    by_cases hlt : k < l.length
    case neg =>
      obtain rfl : k = l.length := by omega
      go_wp2_with fail
      go_ret
      exact ⟨ret_bool (decide_eq_true (list_ext_upto Hl.out hj.out)).symm, hb⟩
    obtain ⟨x, hxk⟩ := get_ex hlt
    obtain ⟨y, hyk⟩ := get_ex (l := m) (k := k) (by rw [← Hl.out]; exact hlt)
    obtain ⟨c0, c1, c2⟩ := rwCells hx hb hxk
    obtain ⟨d0, d1, d2⟩ := rwCells hx' hb hyk
    have i1 := idx_at (c := c) 3 Tryz.underlying72 szRw ha k hlt
    have i2 := idx_at (c := c') 3 Tryz.underlying72 szRw ha' k (by rw [← Hl.out]; exact hlt)
    have hk1 : (k : Int) < (l.length : Int) := by omega
    have hn := rw_neq x y
    have hgd := rw_guard
    have Hx := Lib.hid hxk; clear hxk
    have Hy := Lib.hid hyk; clear hyk
    go_wp2_with fail
    go_quiet (fail)
    by_cases he : x = y
    · rw [decide_eq_true he]
      have He := Lib.hid he; clear he
      go_wp2_with fail
      go_roundw
      case rel => exact ⟨k + 1, by omega, by go_num, (Lib.hid fun j hj' => by
        rcases Nat.lt_or_ge j k with h | h
        · exact hj.out j h
        · obtain rfl : j = k := by omega
          rw [Hx.out, Hy.out, He.out]), Bdn hb _⟩
      case measure => simp [intOf]; omega
    · rw [decide_eq_false he]
      have He := Lib.hid he; clear he
      go_wp2_with fail
      go_ret
      refine ⟨ret_bool (decide_eq_false fun e => He.out ?_).symm, Bdn hb _⟩
      have := Hx.out; rw [e, Hy.out] at this; exact (Option.some.inj this).symm
theorem rowSame_any (v u : Value) (l m : List Rw) (w : World) (hl : RowsAt w v l) (hm : RowsAt w u m) (hn : l.length ≤ 100000) (hn2 : m.length ≤ 100000) :
    Calls Tryz.prog 36 #[v, u] w fun e w' => e = .returned (.bool (decide (sortR l = sortR m))) ∧ Below w.heap.size w w' := by
  obtain ⟨a, c, rfl, -, -⟩ := hl.form'
  obtain ⟨a', c', rfl, -, -⟩ := hm.form'
  have H1 := Lib.hid (rowSort_any _ l w hl hn)
  have HM := Lib.hid hm
  clear hm hl
  go_enter Tryz.func36, Tryz.ntmps36
  go_wp2_with fail
  refine H1.out.mono ?_
  rintro e w1 ⟨v1, rfl, hown1, hb1⟩
  have H2 := Lib.hid (rowSort_any _ m w1 (HM.out.below hb1) hn2)
  go_wp2_with fail
  refine H2.out.mono ?_
  rintro e w2 ⟨v2, rfl, hown2, hb2⟩
  have H3 := Lib.hid (equalR_any v1 v2 (sortR l) (sortR m) w2 ((hown1.below hb2).at encR_enc) (hown2.at encR_enc))
  go_wp2_with fail
  refine H3.out.mono ?_
  rintro e w3 ⟨rfl, hb3⟩
  have hb12 := hb1.trans (hb2.mono hb1.size)
  go_wp2_with fail
  go_ret
  exact ⟨rfl, hb12.trans (hb3.mono hb12.size)⟩
end Go.Proofs.YtmhchakjkgdpmaaGreatDoor
