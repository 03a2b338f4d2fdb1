/- The document's answer on rows: RowError, RowText, IsLess, SameRows, DropRows, WithinRows: the walks. slices.SortFunc at rows; row.Sort, row.Same. row.Read: the walk. slices.IndexFunc and DeleteFunc at []int, at whatever function value that answers by a plain predicate. slices.DeleteFunc at []int. slices.Clone and slices.Contains at []int, as the walks use them. -/
import Derived.Test.YtefoaeamfkbgbaaGreatDoorP10
import Derived.Test.YtefoaeamfkbgbaaGreatDoorP12
import Derived.Laws.StructEq
import Derived.Test.YtefoaeamfkbgbaaGreatDoorP11
import Derived.Shelf.SlSortCmp.NoneTotal
import Derived.Test.YtefoaeamfkbgbaaGreatDoorP2
import Derived.Test.YtefoaeamfkbgbaaGreatDoorP9
import Derived.Outline
import Derived.Test.YtefoaeamfkbgbaaGreatDoorP3
namespace Go.Proofs.YtefoaeamfkbgbaaGreatDoor
open Go.RowKit

theorem nameOk_eq (s : Str) : nameOk s = nameB s 8 := by
  unfold nameOk nameB
  have e : (s.all fun b => partSigns.contains b) = s.all signB := by congr 1; funext b; exact signB_eq b
  rw [e, Bool.eq_iff_iff]
  have hn : s ≠ [] ↔ 1 ≤ s.length := by cases s <;> simp
  simp only [Bool.and_eq_true, decide_eq_true_eq, hn]
  exact ⟨fun ⟨h1, h2, h3⟩ => ⟨h3, h1, by omega⟩, fun ⟨h1, h2, h3⟩ => ⟨h2, by omega, h1⟩⟩
theorem rowErr_ways (r : Rw) : (nameB r.part 8 = false ∧ rowCheck r = 5) ∨ (nameB r.part 8 = true ∧ ((decide (farN r.key) = true ∧ rowCheck r = 2) ∨ (decide (farN r.key) = false ∧ ((decide (farN r.val) = true ∧ rowCheck r = 2) ∨ (decide (farN r.val) = false ∧ rowCheck r = 0))))) := by
  rw [← nameOk_eq]
  cases h : nameOk r.part with
  | false => exact .inl ⟨rfl, rowCheck_name h⟩
  | true =>
    refine .inr ⟨rfl, ?_⟩
    by_cases h1 : farN r.key
    · exact .inl ⟨decide_eq_true h1, rowCheck_far h (.inl h1)⟩
    · refine .inr ⟨decide_eq_false h1, ?_⟩
      by_cases h2 : farN r.val
      · exact .inl ⟨decide_eq_true h2, rowCheck_far h (.inr h2)⟩
      · exact .inr ⟨decide_eq_false h2, rowCheck_right h h1 h2⟩
set_option maxHeartbeats 1000000 in
set_option maxRecDepth 20000 in
theorem rowError_any (r : Rw) (w : World) (hs : r.part.length ≤ 100000) :
    Calls Tryz.prog 78 #[rowV r] w fun e w' => e = .returned (.int .i64 (rowCheck r : Nat)) ∧ Below w.heap.size w w' := by
  have hb0 : Below w.heap.size w (w.alloc (.cells #[S r.part, .int .i64 r.key, .int .i64 r.val] 65)) := (Below.refl _ _).alloc (Nat.le_refl _) _
  obtain ⟨c0, c1, c2⟩ := rowCells (r := r) (w := w) rfl (Below.refl _ (w.alloc (.cells #[S r.part, .int .i64 r.key, .int .i64 r.val] 65)))
  have hNm := fun W => isName_any r.part 8 W hs
  have hF1 := fun W => isFar_any r.key W
  have hF2 := fun W => isFar_any r.val W
  rcases rowErr_ways r with ⟨h1, hc⟩ | ⟨h1, ⟨h2, hc⟩ | ⟨h2, ⟨h3, hc⟩ | ⟨h3, hc⟩⟩⟩
  case' inl => rw [h1] at hNm
  case' inr.inl => rw [h1] at hNm; rw [h2] at hF1; generalize decide (farN r.val) = fv at hF2
  case' inr.inr.inl => rw [h1] at hNm; rw [h2] at hF1; rw [h3] at hF2
  case' inr.inr.inr => rw [h1] at hNm; rw [h2] at hF1; rw [h3] at hF2
  all_goals
    rw [hc]
    have HNm := Lib.hid hNm; have HF1 := Lib.hid hF1; have HF2 := Lib.hid hF2
    clear hNm hF1 hF2 hc
    try clear h1
    try clear h2
    try clear h3
    go_enter Tryz.func78, Tryz.ntmps78
    go_wp2_with fail
    refine (HNm.out _).mono ?_
    rintro e w' ⟨rfl, rfl⟩
    go_wp2_with fail
    first
    | (go_ret; exact ⟨rfl, hb0⟩)
    | (refine (HF1.out _).mono ?_; rintro e w' ⟨rfl, rfl⟩; go_wp2_with fail; refine (HF2.out _).mono ?_; rintro e w' ⟨rfl, rfl⟩; go_wp2_with fail; go_ret; exact ⟨rfl, hb0⟩)
set_option maxHeartbeats 2000000 in
set_option maxRecDepth 20000 in
theorem refRowText_any (r : Rw) (w : World) (hs : r.part.length ≤ 100000) :
    Calls Tryz.prog 79 #[rowV r] w fun e w' => e = .returned (S (rowText r)) ∧ Below w.heap.size w w' := by
  have hb0 : Below w.heap.size w (w.alloc (.cells #[S r.part, .int .i64 r.key, .int .i64 r.val] 65)) := (Below.refl _ _).alloc (Nat.le_refl _) _
  have CF := Lib.hid (fun w6 (h : Below (w.alloc (.cells #[S r.part, .int .i64 r.key, .int .i64 r.val] 65)).heap.size (w.alloc (.cells #[S r.part, .int .i64 r.key, .int .i64 r.val] 65)) w6) => rowCells (r := r) rfl h)
  obtain ⟨c0, c1, c2⟩ := CF.out _ (Below.refl _ _)
  have hfe := rowError_any r (w.alloc (.cells #[S r.part, .int .i64 r.key, .int .i64 r.val] 65)) hs
  by_cases hc : rowCheck r = 0
  case neg =>
    have HF : Hid (rowText r = []) := Lib.hid (if_neg hc)
    have hpos : (0 : Int) < ((rowCheck r : Nat) : Int) := by omega
    generalize rowCheck r = k at *
    have HFe := Lib.hid hfe
    clear hfe hc
    go_enter Tryz.func79, Tryz.ntmps79
    go_wp2_with fail
    refine HFe.out.mono ?_
    rintro e w1 ⟨rfl, hb1⟩
    go_wp2_with fail
    go_ret
    exact ⟨by rw [HF.out]; rfl, hb0.trans (hb1.mono hb0.size)⟩
  rw [hc] at hfe
  have HFe := Lib.hid hfe
  have HF : Hid (rowText r = rowLine r) := Lib.hid (if_pos hc)
  obtain ⟨q0, q1, q2, q3, q4⟩ := name_len hc
  clear hfe hc
  have l1 := itoa_len r.key (by omega) (by omega)
  have l2 := itoa_len r.val (by omega) (by omega)
  have d1 := fun W => decimal_any r.key W (by omega) (by omega)
  have d2 := fun W => decimal_any r.val W (by omega) (by omega)
  have hfl : rowLine r = r.part ++ numsTail [r.key, r.val] := rfl
  have HFl := Lib.hid hfl
  clear hfl q1 q2 q3 q4
  generalize ht1 : Lib.itoa r.key = t1 at *
  generalize ht2 : Lib.itoa r.val = t2 at *
  have D1 := Lib.hid d1; have D2 := Lib.hid d2
  clear d1 d2
  have r1 := cat_run ⟨r.part.toArray⟩ ⟨#[32]⟩ (r.part.length) (1) rfl rfl (by omega)
  have r2 := cat_run (⟨r.part.toArray⟩ ++ ⟨#[32]⟩) ⟨t1.toArray⟩ (r.part.length + 1) (t1.length) (by simp only [ByteArray.size_append]; rfl) rfl (by omega)
  have r3 := cat_run (⟨r.part.toArray⟩ ++ ⟨#[32]⟩ ++ ⟨t1.toArray⟩) ⟨#[32]⟩ (r.part.length + 1 + t1.length) (1) (by simp only [ByteArray.size_append]; rfl) rfl (by omega)
  have r4 := cat_run (⟨r.part.toArray⟩ ++ ⟨#[32]⟩ ++ ⟨t1.toArray⟩ ++ ⟨#[32]⟩) ⟨t2.toArray⟩ (r.part.length + 1 + t1.length + 1) (t2.length) (by simp only [ByteArray.size_append]; rfl) rfl (by omega)
  have HAll : Hid ((⟨r.part.toArray⟩ : ByteArray) ++ ⟨#[32]⟩ ++ ⟨t1.toArray⟩ ++ ⟨#[32]⟩ ++ ⟨t2.toArray⟩ = ⟨(rowLine r).toArray⟩) := Lib.hid (by
    rw [HFl.out]
    simp only [numsTail, List.flatMap_cons, List.flatMap_nil, ht1, ht2]
    apply ByteArray.ext
    simp)
  clear ht1 ht2
  go_enter Tryz.func79, Tryz.ntmps79
  go_wp2_with fail
  generalize w.alloc (.cells #[S r.part, .int .i64 r.key, .int .i64 r.val] 65) = w0 at *
  refine HFe.out.mono ?_
  rintro e w1 ⟨rfl, hb1⟩
  have hb1d := hb1.drew
  clear c0 c1 c2
  obtain ⟨c0, c1, c2⟩ := CF.out _ hb1d
  go_wp2_with fail
  go_region_held3 (fun w' => w'.cell? ⟨w.heap.size, 0, none⟩ = some (S r.part) ∧ w'.cell? ⟨w.heap.size, 1, none⟩ = some (.int .i64 r.key) ∧ w'.cell? ⟨w.heap.size, 2, none⟩ = some (.int .i64 r.val)) (exact ⟨c0, c1, c2⟩) (first | (go_at_call 84; (with_reducible refine (D1.out _).mono ?_); rintro e v1 ⟨rfl, hd1⟩; have c0 := (hd1.cell (World.block_lt_of_cell? _ _ c0)).trans c0; have c1 := (hd1.cell (World.block_lt_of_cell? _ _ c1)).trans c1; have c2 := (hd1.cell (World.block_lt_of_cell? _ _ c2)).trans c2) | (go_at_call 84; (with_reducible refine (D2.out _).mono ?_); rintro e v2 ⟨rfl, hd2⟩; have c0 := (hd2.cell (World.block_lt_of_cell? _ _ c0)).trans c0; have c1 := (hd2.cell (World.block_lt_of_cell? _ _ c1)).trans c1; have c2 := (hd2.cell (World.block_lt_of_cell? _ _ c2)).trans c2))
  go_wp2_with fail
  go_ret
  refine ⟨?_, ?_⟩
  · show Ending.returned (.string ((⟨r.part.toArray⟩ : ByteArray) ++ ⟨#[32]⟩ ++ ⟨t1.toArray⟩ ++ ⟨#[32]⟩ ++ ⟨t2.toArray⟩)) = _
    rw [HAll.out, HF.out]
  · have hbw1 := hb0.trans (hb1d.mono hb0.size)
    have h1 := hbw1.trans (hd1.mono hbw1.size)
    exact h1.trans (hd2.mono h1.size)
theorem less_ways (a b : Rw) : ((a.part == b.part) = false ∧ Op.bytesLess a.part b.part = lessR a b) ∨ ((a.part == b.part) = true ∧ (((a.key != b.key) = true ∧ decide (a.key < b.key) = lessR a b) ∨ ((a.key != b.key) = false ∧ decide (a.val < b.val) = lessR a b))) := by
  unfold lessR
  by_cases h1 : a.part = b.part
  · refine .inr ⟨by simp [h1], ?_⟩
    rw [if_neg (fun h : a.part ≠ b.part => h h1)]
    by_cases h2 : a.key = b.key
    · refine .inr ⟨by simp [h2], ?_⟩
      rw [if_neg (fun h : a.key ≠ b.key => h h2)]
    · refine .inl ⟨by simpa using h2, ?_⟩
      rw [if_pos (show a.key ≠ b.key from h2)]
  · refine .inl ⟨by simpa using h1, ?_⟩
    rw [if_pos (show a.part ≠ b.part from h1)]
    exact less_befR a.part b.part
set_option maxHeartbeats 1000000 in
set_option maxRecDepth 20000 in
theorem isLess_any (a b : Rw) (w : World) :
    Calls Tryz.prog 124 #[rowV a, rowV b] w fun e w' => e = .returned (.bool (lessR a b)) ∧ Below w.heap.size w w' := by
  have hb0 : Below w.heap.size w (w.alloc (.cells #[S a.part, .int .i64 a.key, .int .i64 a.val] 65)) := (Below.refl _ _).alloc (Nat.le_refl _) _
  obtain ⟨w0, hw0⟩ : ∃ w0, w0 = w.alloc (.cells #[S a.part, .int .i64 a.key, .int .i64 a.val] 65) := ⟨_, rfl⟩
  have hb1 : Below w0.heap.size w0 (w0.alloc (.cells #[S b.part, .int .i64 b.key, .int .i64 b.val] 65)) := (Below.refl _ _).alloc (Nat.le_refl _) _
  obtain ⟨c0, c1, c2⟩ := rowCells (r := a) hw0 hb1
  obtain ⟨d0, d1, d2⟩ := rowCells (r := b) (w := w0) rfl (Below.refl _ _)
  have hsz : w0.heap.size = w.heap.size + 1 := by rw [hw0]; simp
  have hb2 := (hw0 ▸ hb0).trans (hb1.mono (hw0 ▸ hb0).size)
  rw [hw0] at c0 c1 c2
  rw [hsz] at d0 d1 d2
  rw [hw0] at d0 d1 d2 hb2
  have HB2 := Lib.hid hb2
  clear hb0 hb1 hb2 hsz hw0 w0
  rcases less_ways a b with ⟨g1, hl⟩ | ⟨g1, ⟨g2, hl⟩ | ⟨g2, hl⟩⟩
  all_goals
    have HL := Lib.hid hl
    clear hl
    go_enter Tryz.func124, Tryz.ntmps124
    go_wp2_with fail
    go_ret
    exact ⟨ret_bool HL.out, HB2.out⟩
theorem rw_equalIn (x y : Rw) (w : World) : (Op.equalIn 10000 65 (rowV x) (rowV y)).run Tryz.prog w = .ok (decide (x = y)) w := by
  have uS := Tryz.underlying9
  have uI := Tryz.underlying3
  have aS := Tryz.isAgg9
  have aI := Tryz.isAgg3
  have zS := Tryz.sizeOf9
  have zI := Tryz.sizeOf3
  have hS : Tryz.prog.underlying 65 = some (.struct (Tryz.prog.fieldsOf 65)) := by kernel_rfl
  have hp : Tryz.prog.stoodInHeld 65 = false := by kernel_rfl
  rw [show (10000 : Nat) = 9999 + 1 from rfl, run_equalIn_agg w 9999 65 _ _ hS hp]
  simp only [Program.fieldsOf, Tryz.underlying65]
  go_simp
  cases x with
  | mk p1 n1 a1 =>
  cases y with
  | mk p2 n2 a2 =>
  by_cases h1 : p1 = p2 <;> by_cases h3 : n1 = n2 <;> by_cases h4 : a1 = a2 <;> simp [h1, h3, h4]
theorem rw_neq (x y : Rw) (w : World) : (binOp .neq 65 (rowV x) (rowV y)).run Tryz.prog w = .ok (.bool (!decide (x = y))) w := by
  rw [run_neq_struct, rw_equalIn]; rfl
theorem rw_eql (x y : Rw) (w : World) : (binOp .eql 65 (rowV x) (rowV y)).run Tryz.prog w = .ok (.bool (decide (x = y))) w := by
  rw [run_eql_struct, rw_equalIn]; rfl
theorem rw_guard : Tryz.prog.eqGuardType Tryz.prog.depth 65 = false := by kernel_rfl
set_option maxRecDepth 20000 in
theorem sameRows_any (v u : Value) (l m : List Rw) (w : World) (hl : RowsAt w v l) (hm : RowsAt w u m) :
    Calls Tryz.prog 16 #[v, u] w fun e w' => e = .returned (.bool (decide (l = m))) ∧ Below w.heap.size w w' := by
  obtain ⟨a, c, b, o, rfl, ha, hc, hcm, hx⟩ := hl
  obtain ⟨a', c', b', o', rfl, ha', hc', hcm', hx'⟩ := hm
  unfold maxLen at hcm hcm'
  by_cases hlen : l.length = m.length
  case neg =>
    have hne : ((l.length : Int) != (m.length : Int)) = true := by simp; omega
    go_enter Tryz.func16, Tryz.ntmps16
    go_wp2_with fail
    go_ret
    exact ⟨ret_bool (decide_eq_false fun e => hlen (by rw [e])).symm, Below.refl _ _⟩
  have hne : ((l.length : Int) != (m.length : Int)) = false := by simp [hlen]
  have Hl := Lib.hid hlen; clear hlen
  go_enter Tryz.func16, Tryz.ntmps16
  go_wp2_with fail
  go_loopw [5] (fun i wr => ∃ k : Nat, k ≤ l.length ∧ i = .int .i64 k ∧ Hid (∀ j < k, l[j]? = m[j]?) ∧ Below w.heap.size w wr) (fun i _ => l.length - (intOf i).toNat)
  case atStart => exact ⟨0, by omega, rfl, Lib.hid fun j hj => absurd hj (by omega), Below.refl _ _⟩
  case round =>
    obtain ⟨k, hk, rfl, hj, hb⟩ := hrel
    by_cases hlt : k < l.length
    case neg =>
      obtain rfl : k = l.length := by omega
      go_wp2_with fail
      go_ret
      exact ⟨ret_bool (decide_eq_true (list_ext_upto Hl.out hj.out)).symm, hb⟩
    obtain ⟨x, hxk⟩ := get_ex hlt
    obtain ⟨y, hyk⟩ := get_ex (l := m) (k := k) (by rw [← Hl.out]; exact hlt)
    obtain ⟨c0, c1, c2⟩ := rwCells hx hb hxk
    obtain ⟨d0, d1, d2⟩ := rwCells hx' hb hyk
    have i1 := idx_at (c := c) 3 Tryz.underlying39 szRw ha k hlt
    have i2 := idx_at (c := c') 3 Tryz.underlying39 szRw ha' k (by rw [← Hl.out]; exact hlt)
    have hk1 : (k : Int) < (l.length : Int) := by omega
    have hn := rw_neq x y
    have hgd := rw_guard
    have Hx := Lib.hid hxk; clear hxk
    have Hy := Lib.hid hyk; clear hyk
    go_wp2_with fail
    go_quiet (fail)
    by_cases he : x = y
    · rw [decide_eq_true he]
      have He := Lib.hid he; clear he
      go_wp2_with fail
      go_roundw
      case rel => exact ⟨k + 1, by omega, by go_num, (Lib.hid fun j hj' => by
        rcases Nat.lt_or_ge j k with h | h
        · exact hj.out j h
        · obtain rfl : j = k := by omega
          rw [Hx.out, Hy.out, He.out]), Bdn hb _⟩
      case measure => simp [intOf]; omega
    · rw [decide_eq_false he]
      have He := Lib.hid he; clear he
      go_wp2_with fail
      go_ret
      refine ⟨ret_bool (decide_eq_false fun e => He.out ?_).symm, Bdn hb _⟩
      have := Hx.out; rw [e, Hy.out] at this; exact (Option.some.inj this).symm
theorem filter_take_snocR {l : List Rw} {k : Nat} {x : Rw} (p : Rw → Bool) (h : l[k]? = some x) : (l.take (k + 1)).filter p = (l.take k).filter p ++ if p x then [x] else [] := by
  rw [List.take_add_one, h]
  simp [List.filter_append, List.filter_cons]
theorem within_ways (x : Rw) (lo hi : Int) : (withinP lo hi x = false ∧ lo ≤ x.key ∧ x.key ≤ hi) ∨ (withinP lo hi x = true ∧ (decide (lo ≤ x.key) = false ∨ (lo ≤ x.key ∧ decide (x.key ≤ hi) = false))) := by
  simp only [withinP, Bool.or_eq_true, decide_eq_true_eq, decide_eq_false_iff_not, Bool.or_eq_false_iff]
  omega
set_option maxHeartbeats 1000000 in
set_option maxRecDepth 20000 in
theorem withinRows_any (v : Value) (l : List Rw) (lo hi : Int) (w : World) (hl : RowsAt w v l) (hn : l.length ≤ 100000) :
    Calls Tryz.prog 68 #[v, .int .i64 lo, .int .i64 hi] w fun e w' => ∃ v', e = .returned v' ∧ Own encR 65 3 w.heap.size w' v' (withinR l lo hi) ∧ Below w.heap.size w w' := by
  obtain ⟨a, c, b, o, rfl, ha, hc, hcm, hx⟩ := hl
  unfold maxLen at hcm
  have hd : withinR l lo hi = l.filter (fun r => !withinP lo hi r) := rfl
  have HD := Lib.hid hd; clear hd
  go_enter Tryz.func68, Tryz.ntmps68
  go_wp2_with fail
  go_loopw [7, 8] (fun u i wr => ∃ (k : Nat) (q : List Rw), k ≤ l.length ∧ i = .int .i64 k ∧ Hid (q = (l.take k).filter (fun r => !withinP lo hi r)) ∧ q.length ≤ k ∧ Own encR 65 3 w.heap.size wr u q ∧ Below w.heap.size w wr) (fun _ i _ => l.length - (intOf i).toNat)
  case atStart => exact ⟨0, [], by omega, rfl, Lib.hid rfl, by simp, Own.nil _ _ _ _ _, Below.refl _ _⟩
  case round =>
    obtain ⟨k, q, hk, rfl, hq, hql, ho, hb⟩ := hrel
    by_cases hlt : k < l.length
    case neg =>
      obtain rfl : k = l.length := by omega
      have f : decide ((l.length : Int) < (l.length : Int)) = false := by simp
      go_wp2_with fail
      go_ret
      exact ⟨_, rfl, by rw [HD.out, show l.filter (fun r => !withinP lo hi r) = q by rw [hq.out, List.take_length]]; exact ho, hb⟩
    obtain ⟨x, hxk⟩ := get_ex hlt
    obtain ⟨c0, c1, c2⟩ := rwCells hx hb hxk
    have i1 := idx_at (c := c) 3 Tryz.underlying39 szRw ha k hlt
    have hk1 : (k : Int) < (l.length : Int) := by omega
    have hsn := filter_take_snocR (fun r => !withinP lo hi r) hxk
    rw [← hq.out] at hsn
    have HSn := Lib.hid hsn; clear hsn hxk
    rcases within_ways x lo hi with ⟨he, g, g2⟩ | ⟨he, g | ⟨g, g2⟩⟩
    · have HSn2 : Hid (q ++ [x] = (l.take (k + 1)).filter (fun r => !withinP lo hi r)) := Lib.hid (by rw [HSn.out]; simp [he])
      clear he HSn
      go_wp2_with (at_builtin; refine wpList_app rfl _ _ _ rfl w.heap.size elRw _ q.length _ rfl (ho.alloc _) (.slice (some ⟨wr.heap.size, 0, none⟩) 1 1) 1 (encR x) rfl (src_one rfl rfl (by simp [Value.oneCell'])) (by unfold maxLen; omega) (by omega) (by have := hb.size; simp; omega) ?_; intro v' w2 hown hg _)
      go_roundw
      case rel => exact ⟨k + 1, q ++ [x], by omega, by go_num, HSn2, by simp; omega, Own.snoc hown, Bapp (hb.alloc hb.size _) (ho.alloc _) hg (Nat.le_refl _) (by have := hb.size; simp; omega)⟩
      case measure => simp [intOf]; omega
    all_goals
      have HSn2 : Hid (q = (l.take (k + 1)).filter (fun r => !withinP lo hi r)) := Lib.hid (by rw [HSn.out]; simp [he])
      clear he HSn
      go_wp2_with fail
      go_roundw
      case rel => exact ⟨k + 1, q, by omega, by go_num, HSn2, by omega, ho, hb⟩
      case measure => simp [intOf]; omega
end Go.Proofs.YtefoaeamfkbgbaaGreatDoor
namespace Go.Proofs.YtefoaeamfkbgbaaGreatDoor
open Go.RowKit Go.Sort Go.Lib Go.Shelf

theorem flatK_list {α : Type} [Inhabited α] {enc : α → List Value} {k : Nat} (hen : Enc enc k) (hk : 0 < k) (l : List α) : (flatK enc k l.toArray).toList = l.flatMap enc := by
  apply List.ext_getElem?
  intro i
  by_cases hi : i < l.length * k
  · have hd : i / k < l.length := Nat.div_lt_of_lt_mul (by rw [Nat.mul_comm]; exact hi)
    have hm : i % k < (enc l[i / k]).length := by rw [(hen _).1]; exact Nat.mod_lt _ hk
    have h1 := flat_get hen l (i / k) l[i / k] (by simp [hd]) (i % k) _ (List.getElem?_eq_getElem hm)
    rw [show i / k * k + i % k = i by have := Nat.div_add_mod i k; rw [Nat.mul_comm] at this; omega] at h1
    rw [h1]
    simp [flatK, hi, hd, hm]
  · rw [List.getElem?_eq_none (by simp; omega), List.getElem?_eq_none (by rw [flat_length hen]; omega)]
theorem heap_sortedK {w : World} {g n : Nat} {os : Array Obj} {cur : Array Value} {e : TypeId} {fr : Nat × Nat} (F : Array Value) (hb : w.heap[g]? = some (.cells cur e fr)) :
    (grow (putRow id (Sort.ahead w n) g 0 F) os).heap[g]? = some (.cells (putCells id 0 F cur) e fr) := by
  have hg : g < w.heap.size := (Array.getElem?_eq_some_iff.1 hb).1
  rw [heap_grow_old _ _ (by simpa using hg)]
  simp [putRow, mapBlock, Sort.ahead, Array.getElem?_modify, hb, onCells]
theorem grownBy_sortedK {w : World} {g n : Nat} {os : Array Obj} (F : Array Value) : w.grownBy (grow (putRow id (Sort.ahead w n) g 0 F) os) (some g) := by
  refine ⟨rfl, rfl, rfl, by simp, fun k hk hne => ?_⟩
  rw [heap_grow_old _ _ (by simpa using hk)]
  have : g ≠ k := fun e => hne (by rw [e])
  simp [putRow, mapBlock, Sort.ahead, Array.getElem?_modify, this]
theorem take_putK (cur : Array Value) (ts : List Value) (h : ts.length ≤ cur.size) : (putCells id 0 ts.toArray cur).toList.take ts.length = ts := by
  apply List.ext_getElem?
  intro j
  by_cases hj : j < ts.length
  · rw [List.getElem?_take_of_lt hj, Array.getElem?_toList]
    simp [putCells, hj, show j < cur.size by omega]
  · rw [List.getElem?_take_eq_none (by omega), List.getElem?_eq_none (by omega)]
/-- What the call owns, held as the sort wants it. -/
theorem Own.holdsK {α : Type} [Inhabited α] {enc : α → List Value} {e : TypeId} {k B : Nat} {w : World} {g n cap : Nat} {l : List α} (hen : Enc enc k) (hk : 0 < k) (h : Own enc e k B w (.slice (some ⟨g, 0, none⟩) n cap) l) : HoldsK enc k w g 0 l.toArray := by
  obtain ⟨cur, hB, hg, hl, hc, hm, hs, ht⟩ := h.row
  intro j hj
  have hj' : j < l.length * k := by simpa using hj
  refine ⟨?_, by simp [World.frozen?, hg]⟩
  have hf := flatK_list hen hk l
  rw [cell_of_row w g _ cur e (0, 0) hg, Nat.zero_add]
  have h1 : (cur.toList.take (n * k))[j]? = (flatK enc k l.toArray).toList[j]? := by rw [ht, hf]
  rw [List.getElem?_take_of_lt (by rw [← hl]; exact hj')] at h1
  have h2 : (flatK enc k l.toArray).toList[j]? = some (flatK enc k l.toArray)[j]! := by
    rw [Array.getElem?_toList, getElem!_pos _ j hj]; simp
  rw [← Array.getElem?_toList, h1, h2]; rfl
/-- Behind the sort the same slice owns what was sorted. -/
theorem Own.sorted {α : Type} [Inhabited α] {enc : α → List Value} {e : TypeId} {k B n' : Nat} {os : Array Obj} {w : World} {g n cap : Nat} {l m : List α} (hen : Enc enc k) (hk : 0 < k) (h : Own enc e k B w (.slice (some ⟨g, 0, none⟩) n cap) l) (hml : m.length = l.length) :
    Own enc e k B (sortWorldK enc k w g 0 n' m.toArray os) (.slice (some ⟨g, 0, none⟩) n cap) m := by
  obtain ⟨cur, hB, hg, hl, hc, hm, hs, ht⟩ := h.row
  have hf := flatK_list hen hk m
  have hF : flatK enc k m.toArray = (m.flatMap enc).toArray := by rw [← hf]
  unfold sortWorldK putRowK
  rw [hF]
  refine Own.put hen (by omega) hB (heap_sortedK _ hg) hc hm (by simp [putCells, hs]) ?_
  have hlen : (m.flatMap enc).length = n * k := by rw [flat_length hen, hml, hl]
  have := take_putK cur (m.flatMap enc) (by rw [hlen, hs]; exact Nat.mul_le_mul_right _ hc)
  rwa [hlen] at this
theorem swo_less : SWO (ltOf cmpR) where
  irrefl x := by unfold ltOf; rw [cmpR_less]; exact less_irrefl x
  trans x y z h1 h2 := by unfold ltOf at *; rw [cmpR_less] at *; exact less_trans h1 h2
  ntrans x y z h1 h2 := by unfold ltOf at *; rw [cmpR_less] at *; exact le_trans' h2 h1
theorem clo_compare : ∀ args w, (callFunc 115 args).run Tryz.prog w = .ok (.enter 115 args) w := enters_of Tryz.func115 (by kernel_rfl) rfl
theorem sortFuncR_any (B : Nat) (v : Value) (l : List Rw) (w : World) (ho : Own encR 65 3 B w v l) (hB : B ≤ w.heap.size) (hn : l.length ≤ 100000) :
    Calls Tryz.prog 160 #[v, .func (.func 115) #[] #[]] w fun e w' => e = .returned (.tuple #[]) ∧ Own encR 65 3 B w' v (sortR l) ∧ Below B w w' := by
  have hol := ho
  rcases ho.2 with ⟨rfl, h0⟩ | ⟨g, cap, cur, rfl, hbase, hb, h1, h2, h3, h4⟩
  · obtain rfl := List.eq_nil_of_length_eq_zero h0
    have h := AnyF.slices_SortFunc_none Tryz.sortR none 0 (.func (.func 115) #[] #[]) w
    refine (show Calls Tryz.prog 160 _ w _ from h).mono ?_
    rintro e w' ⟨rfl, rfl⟩
    exact ⟨rfl, ho, Below.refl _ _⟩
  · have h := AnyQ.slices_SortFunc Tryz.sortR 3 Tryz.isAgg65 Tryz.sizeOf65 encR (fun x => (encR_enc x).1) (fun x => (encR_enc x).2) cmpR swo_less 115 #[] g 0 cap l.toArray w clo_compare (fun _ _ _ _ x y => rowCompareG_any x y _) (hol.holdsK encR_enc (by decide)) (Array.getElem?_eq_some_iff.1 hb).1 (by simp; omega)
    refine (show Calls Tryz.prog 160 #[.slice (some ⟨g, 0, none⟩) l.toArray.size cap, .func (.func 115) #[] #[]] w _ from h).mono ?_
    rintro e w' ⟨rfl, d', n, os, hp, hs, rfl⟩
    have hsz : d'.size = l.length := by simpa using hp.1
    have hd : d'.toList = sortR l := by
      refine sort_of ?_ ?_
      · refine List.pairwise_iff_getElem.2 fun i j hi hj hij => ?_
        have := hs i j (Nat.zero_le _) hij (by simpa [hsz] using hj)
        unfold ltOf at this
        rw [cmpR_less] at this
        simpa [getElem!_pos, show i < d'.size by simpa using hi, show j < d'.size by simpa using hj] using this
      · have := hp.2.2
        simpa [hsz, Array.extract_eq_self_of_le] using this
    refine ⟨rfl, ?_, (Below.refl B w).grown (grownBy_sortedK _) hB (fun k hk => by cases hk; exact hbase)⟩
    have h5 := hol.sorted (n' := n) (os := os) encR_enc (by decide) (m := d'.toList) (by simpa using hsz)
    rw [hd] at h5
    rw [show d' = (sortR l).toArray by rw [← hd]]
    exact h5
theorem valuesR_any (a : Option Addr) (len cap : Nat) (w : World) :
    Calls Tryz.prog 114 #[.slice a len cap] w fun e w' => e = .returned (.func (.func 161) #[] #[.pointer (some ⟨w.heap.size, 0, none⟩)]) ∧ w' = w.alloc (.cells #[.slice a len cap] 39) :=
  callsIn_wide.1 (valuesR_in Fence.wide 6 trivial rfl a len cap w)
theorem collectR_any (Bs : Nat) (v : Value) (l : List Rw) (w0 w : World) (hBs : Bs < w.heap.size) (hc : w.cell? ⟨Bs, 0, none⟩ = some v) (hl : RowsAt w0 v l) (hb0 : Below w0.heap.size w0 w) (hn : l.length ≤ 100000) :
    Calls Tryz.prog 159 #[.func (.func 161) #[] #[.pointer (some ⟨Bs, 0, none⟩)]] w fun e w' => ∃ u, e = .returned u ∧ Own encR 65 3 w.heap.size w' u l ∧ Below w.heap.size w w' :=
  callsIn_wide.1 (collectR_in Fence.wide 6 trivial trivial rfl (by omega) 161 #[.pointer (some ⟨Bs, 0, none⟩)] trivial (enters_of Tryz.func161 (by kernel_rfl) rfl) l hn w.heap.size w (Nat.le_refl _)
    (valuesR_stops Fence.wide 4 trivial rfl (by omega) Bs w.heap.size v l w0 w hBs (Nat.le_refl _) hc hl hb0.size hb0))
theorem sortedFuncR_any (Bs : Nat) (v : Value) (l : List Rw) (w0 w : World) (hBs : Bs < w.heap.size) (hc : w.cell? ⟨Bs, 0, none⟩ = some v) (hl : RowsAt w0 v l) (hb0 : Below w0.heap.size w0 w) (hn : l.length ≤ 100000) :
    Calls Tryz.prog 113 #[.func (.func 161) #[] #[.pointer (some ⟨Bs, 0, none⟩)], .func (.func 115) #[] #[]] w fun e w' => ∃ u, e = .returned u ∧ Own encR 65 3 w.heap.size w' u (sortR l) ∧ Below w.heap.size w w' := by
  have HC := Lib.hid (collectR_any Bs v l w0 w hBs hc hl hb0 hn)
  clear hc
  go_enter Tryz.func113, Tryz.ntmps113
  go_wp2_with fail
  refine HC.out.mono ?_
  rintro e w1 ⟨u, rfl, hown, hb1⟩
  have HS := Lib.hid (sortFuncR_any w.heap.size u l w1 hown hb1.size hn)
  go_wp2_with fail
  refine HS.out.mono ?_
  rintro e w2 ⟨rfl, hown2, hb2⟩
  go_wp2_with fail
  go_ret
  exact ⟨_, rfl, hown2, hb1.trans hb2⟩
theorem rowSort_any (v : Value) (l : List Rw) (w : World) (hl : RowsAt w v l) (hn : l.length ≤ 100000) :
    Calls Tryz.prog 53 #[v] w fun e w' => ∃ u, e = .returned u ∧ Own encR 65 3 w.heap.size w' u (sortR l) ∧ Below w.heap.size w w' := by
  obtain ⟨a, c, rfl, -, -⟩ := hl.form'
  have hba : Below w.heap.size w (w.alloc (.cells #[.slice a l.length c] 39)) := (Below.refl _ _).alloc (Nat.le_refl _) _
  have c0 : (w.alloc (.cells #[.slice a l.length c] 39)).cell? ⟨w.heap.size, 0, none⟩ = some (.slice a l.length c) := by simp
  have HS := Lib.hid (sortedFuncR_any w.heap.size _ l w _ (by simp) c0 hl hba hn)
  clear c0
  go_enter Tryz.func53, Tryz.ntmps53
  go_wp2_with fail
  refine (valuesR_any a l.length c w).mono ?_
  rintro e w1 ⟨rfl, rfl⟩
  go_wp2_with fail
  refine HS.out.mono ?_
  rintro e w2 ⟨u, rfl, hown, hb2⟩
  go_wp2_with fail
  go_ret
  exact ⟨_, rfl, hown.base (by simp), hba.trans (hb2.mono hba.size)⟩
set_option maxRecDepth 20000 in
theorem equalR_any (v u : Value) (l m : List Rw) (w : World) (hl : RowsAt w v l) (hm : RowsAt w u m) :
    Calls Tryz.prog 62 #[v, u] w fun e w' => e = .returned (.bool (decide (l = m))) ∧ Below w.heap.size w w' := by
  obtain ⟨a, c, b, o, rfl, ha, hc, hcm, hx⟩ := hl
  obtain ⟨a', c', b', o', rfl, ha', hc', hcm', hx'⟩ := hm
  unfold maxLen at hcm hcm'
  by_cases hlen : l.length = m.length
  case neg =>
    have hne : ((l.length : Int) != (m.length : Int)) = true := by simp; omega
    go_enter Tryz.func62, Tryz.ntmps62
    go_wp2_with fail
    go_ret
    exact ⟨ret_bool (decide_eq_false fun e => hlen (by rw [e])).symm, Below.refl _ _⟩
  have hne : ((l.length : Int) != (m.length : Int)) = false := by simp [hlen]
  have Hl := Lib.hid hlen; clear hlen
  go_enter Tryz.func62, Tryz.ntmps62
  go_wp2_with fail
  go_loopw [13] (fun i wr => ∃ k : Nat, k ≤ l.length ∧ i = .int .i64 k ∧ Hid (∀ j < k, l[j]? = m[j]?) ∧ Below w.heap.size w wr) (fun i _ => l.length - (intOf i).toNat)
  case atStart => exact ⟨0, by omega, rfl, Lib.hid fun j hj => absurd hj (by omega), Below.refl _ _⟩
  case round =>
    obtain ⟨k, hk, rfl, hj, hb⟩ := hrel
    by_cases hlt : k < l.length
    case neg =>
      obtain rfl : k = l.length := by omega
      go_wp2_with fail
      go_ret
      exact ⟨ret_bool (decide_eq_true (list_ext_upto Hl.out hj.out)).symm, hb⟩
    obtain ⟨x, hxk⟩ := get_ex hlt
    obtain ⟨y, hyk⟩ := get_ex (l := m) (k := k) (by rw [← Hl.out]; exact hlt)
    obtain ⟨c0, c1, c2⟩ := rwCells hx hb hxk
    obtain ⟨d0, d1, d2⟩ := rwCells hx' hb hyk
    have i1 := idx_at (c := c) 3 Tryz.underlying39 szRw ha k hlt
    have i2 := idx_at (c := c') 3 Tryz.underlying39 szRw ha' k (by rw [← Hl.out]; exact hlt)
    have hk1 : (k : Int) < (l.length : Int) := by omega
    have hn := rw_neq x y
    have hgd := rw_guard
    have Hx := Lib.hid hxk; clear hxk
    have Hy := Lib.hid hyk; clear hyk
    go_wp2_with fail
    go_quiet (fail)
    by_cases he : x = y
    · rw [decide_eq_true he]
      have He := Lib.hid he; clear he
      go_wp2_with fail
      go_roundw
      case rel => exact ⟨k + 1, by omega, by go_num, (Lib.hid fun j hj' => by
        rcases Nat.lt_or_ge j k with h | h
        · exact hj.out j h
        · obtain rfl : j = k := by omega
          rw [Hx.out, Hy.out, He.out]), Bdn hb _⟩
      case measure => simp [intOf]; omega
    · rw [decide_eq_false he]
      have He := Lib.hid he; clear he
      go_wp2_with fail
      go_ret
      refine ⟨ret_bool (decide_eq_false fun e => He.out ?_).symm, Bdn hb _⟩
      have := Hx.out; rw [e, Hy.out] at this; exact (Option.some.inj this).symm
theorem rowSame_any (v u : Value) (l m : List Rw) (w : World) (hl : RowsAt w v l) (hm : RowsAt w u m) (hn : l.length ≤ 100000) (hn2 : m.length ≤ 100000) :
    Calls Tryz.prog 21 #[v, u] w fun e w' => e = .returned (.bool (decide (sortR l = sortR m))) ∧ Below w.heap.size w w' := by
  obtain ⟨a, c, rfl, -, -⟩ := hl.form'
  obtain ⟨a', c', rfl, -, -⟩ := hm.form'
  have H1 := Lib.hid (rowSort_any _ l w hl hn)
  have HM := Lib.hid hm
  clear hm hl
  go_enter Tryz.func21, Tryz.ntmps21
  go_wp2_with fail
  refine H1.out.mono ?_
  rintro e w1 ⟨v1, rfl, hown1, hb1⟩
  have H2 := Lib.hid (rowSort_any _ m w1 (HM.out.below hb1) hn2)
  go_wp2_with fail
  refine H2.out.mono ?_
  rintro e w2 ⟨v2, rfl, hown2, hb2⟩
  have H3 := Lib.hid (equalR_any v1 v2 (sortR l) (sortR m) w2 ((hown1.below hb2).at encR_enc) (hown2.at encR_enc))
  go_wp2_with fail
  refine H3.out.mono ?_
  rintro e w3 ⟨rfl, hb3⟩
  have hb12 := hb1.trans (hb2.mono hb1.size)
  go_wp2_with fail
  go_ret
  exact ⟨rfl, hb12.trans (hb3.mono hb12.size)⟩
end Go.Proofs.YtefoaeamfkbgbaaGreatDoor
namespace Go.Proofs.YtefoaeamfkbgbaaGreatDoor
open Go.RowKit

set_option maxHeartbeats 1000000 in
set_option maxRecDepth 20000 in
theorem rowRead_any (E : Nat → Addr) (B : Nat) (s : Str) (w : World) (hE : Errs [1, 2, 5] E B w) (hT : LNum B w) (hM : LMax B w) (hs : s.length ≤ 10000) :
    Calls Tryz.prog 155 #[S s] w fun e w' => ∃ ev, e = .returned (.tuple #[rowV (rowRead s).1, ev]) ∧ ErV E w' ev (erOf (rowRead s).2) ∧ Below w.heap.size w w' := by
  have hBw := hE.le
  have hif := isIfaceE
  have hwl : (cutAt 32 s).length ≤ 10001 := by
    have := cutAt_length 32 s
    have h2 : s.count 32 ≤ s.length := List.count_le_length
    omega
  have hws : ∀ p ∈ cutAt 32 s, p.length ≤ 10000 := fun p hp => by
    have := cutAt_mem_len (c := 32) hp; omega
  have V0 := fun w6 (h : Below w.heap.size w w6) => (hE.below' h hBw).var 1 (by decide)
  simp only [errG] at V0
  have V := Lib.hid V0
  clear V0
  have hba : Below w.heap.size w (w.alloc (.cells #[S [], .int .i64 0, .int .i64 0] 65)) := (Below.refl _ _).alloc (Nat.le_refl _) _
  have hsp := split1_any B s 32 (w.alloc (.cells #[S [], .int .i64 0, .int .i64 0] 65)) (hM.below' hba hBw) (by omega)
  have hcs := fun w6 (h : Below (w.alloc (.cells #[S [], .int .i64 0, .int .i64 0] 65)).heap.size (w.alloc (.cells #[S [], .int .i64 0, .int .i64 0] 65)) w6) => rowCells (r := zeroR) rfl h
  have CZ := Lib.hid hcs; clear hcs
  have hhg := fun w6 (h : Below (w.alloc (.cells #[S [], .int .i64 0, .int .i64 0] 65)).heap.size (w.alloc (.cells #[S [], .int .i64 0, .int .i64 0] 65)) w6) => (h.block w.heap.size (by simp)).trans (heap_alloc_new w (.cells #[S [], .int .i64 0, .int .i64 0] 65))
  have HG := Lib.hid hhg; clear hhg
  have hgE : (¬ (8 = w.heap.size)) ∧ ¬ (w.heap.size = 8) := by
    have h := (hE.lt 1 (by decide)).2
    have h1 : errG 1 = 8 := rfl
    rw [h1] at h
    omega
  by_cases h6 : (cutAt 32 s).length = 3
  case neg =>
    have HF := Lib.hid (rowRead_none (rowOf_len h6))
    have g6 : (((cutAt 32 s).length : Int) != 3) = true := by simp; omega
    clear hws
    go_enter Tryz.func155, Tryz.ntmps155
    go_wp2_with fail
    generalize w.alloc (.cells #[S [], .int .i64 0, .int .i64 0] 65) = w1 at *
    refine hsp.mono ?_
    rintro e w2 ⟨rfl, hown, hb2⟩
    have hb2' := hba.trans (hb2.mono hba.size)
    have v1 := V.out _ hb2'
    obtain ⟨c0, c1, c2⟩ := CZ.out _ hb2
    generalize cutAt 32 s = W at *
    go_wp2_with fail
    have hg2 := HG.out _ hb2
    have fz : ∀ j, w2.frozen? ⟨w.heap.size, j, none⟩ = false := fun j => frozen_row hg2
    have f0 := fz 0; have f1 := fz 1; have f2 := fz 2
    have hn1 : ¬ (8 = w.heap.size) := hgE.1
    have hn2 : ¬ (w.heap.size = 8) := hgE.2
    go_region_law (fail)
    all_goals
      go_wp2_with fail
      refine bodyPost_ret (ret_row rfl _ _ w.heap.size 65 #[.string ⟨#[]⟩, .int .i64 0, .int .i64 0] (0, 0) _ rfl ?_ Tryz.underlying65 rfl (by kernel_rfl)) rfl ⟨.iface 335 (.pointer (some (E 1))), ?_, ?_, ?_⟩
      · rw [World.heap_drew]; exact thr_new hg2 _ _ _
      · rw [HF.out]; rfl
      · rw [HF.out]; exact ⟨by decide, rfl⟩
      · exact Below.drew (thr_below hb2' (Nat.le_refl _) _ _ _)
  obtain ⟨p, n1, n2, hW⟩ := three_strs h6
  rw [hW] at hsp hws
  have hfo : rowOf (cutAt 32 s) = match numsOf [n1, n2] with | some [n, lo] => some ⟨p, n, lo⟩ | _ => none := by rw [hW]; rfl
  have HFO := Lib.hid hfo; have HWS := Lib.hid hws
  clear hfo hws hW h6 hwl
  go_enter Tryz.func155, Tryz.ntmps155
  go_wp2_with fail
  generalize w.alloc (.cells #[S [], .int .i64 0, .int .i64 0] 65) = w1 at *
  refine hsp.mono ?_
  rintro e w2 ⟨rfl, hown, hb2⟩
  have hb2' := hba.trans (hb2.mono hba.size)
  have v1 := V.out _ hb2'
  obtain ⟨a', c', b', o', hv', ha', hc', hcm', hx'⟩ := hown.at encS_enc
  obtain ⟨rfl, rfl⟩ : a' = some ⟨w1.heap.size, 0, none⟩ ∧ c' = 3 := by cases hv'; exact ⟨rfl, rfl⟩
  obtain ⟨rfl, rfl⟩ : b' = w1.heap.size ∧ o' = 0 := by have := ha' (by simp); cases this; exact ⟨rfl, rfl⟩
  obtain ⟨b3, o3, c3, hrun, hat3⟩ := slice_from (enc := encS) (sz := 1) Tryz.underlying89 szStr ha' hc' hcm' hx' 1 (by simp) (by simp)
  have x0 := hx' 0 _ rfl 0 _ rfl
  simp only [List.length_cons, List.length_nil, Nat.zero_add, Nat.reduceAdd, Nat.reduceSub, Nat.mul_one, Nat.add_zero, List.drop_succ_cons, List.drop_zero] at hrun hat3 x0
  have e2 : ((1 : Nat) : Int) = 1 := rfl
  rw [e2] at hrun
  clear hv' ha' hx' hown hcm' hc' e2 hsp
  have hl6 : [p, n1, n2].length = 3 := rfl
  rw [hl6]
  go_wp2_with fail
  refine (numbers_any B _ [n1, n2] _ (hT.below' hb2' hBw) hat3 (by simp) (fun x hx => by have := HWS.out x (by simp at hx ⊢; rcases hx with h | h <;> simp [h]); omega)).mono ?_
  rintro e w3 ⟨v', rfl, hv1, hv2, hb3⟩
  have hb31 := hb2.trans (hb3.mono hb2.size)
  have hb3' := hb2'.trans (hb3.mono hb2'.size)
  have v1' := V.out _ hb3'
  have y0 := (hb3.cell (World.block_lt_of_cell? w2 _ x0)).trans x0
  clear v1 hrun hat3 x0
  cases hn : numsOf [n1, n2] with
  | none =>
    rw [hn] at hv2
    obtain rfl := hv2 rfl
    have HF := Lib.hid (rowRead_none (s := s) (by rw [HFO.out, hn]))
    clear hn hv1
    simp only [Option.isSome_none]
    obtain ⟨c0, c1, c2⟩ := CZ.out _ hb31
    have hg2 := HG.out _ hb31
    have fz : ∀ j, w3.frozen? ⟨w.heap.size, j, none⟩ = false := fun j => frozen_row hg2
    have f0 := fz 0; have f1 := fz 1; have f2 := fz 2
    have hn1 : ¬ (8 = w.heap.size) := hgE.1
    have hn2 : ¬ (w.heap.size = 8) := hgE.2
    go_wp2_with fail
    go_region_law (fail)
    all_goals
      go_wp2_with fail
      refine bodyPost_ret (ret_row rfl _ _ w.heap.size 65 #[.string ⟨#[]⟩, .int .i64 0, .int .i64 0] (0, 0) _ rfl ?_ Tryz.underlying65 rfl (by kernel_rfl)) rfl ⟨.iface 335 (.pointer (some (E 1))), ?_, ?_, ?_⟩
      · rw [World.heap_drew]; exact thr_new hg2 _ _ _
      · rw [HF.out]; rfl
      · rw [HF.out]; exact ⟨by decide, rfl⟩
      · exact Below.drew (thr_below hb3' (Nat.le_refl _) _ _ _)
  | some ns =>
    have hown := hv1 ns hn
    have hnl := mapM_len _ hn
    obtain ⟨m1, m2, rfl⟩ := two_ints (l := ns) (by simpa using hnl)
    have HF := Lib.hid (rowRead_some (s := s) (r := ⟨p, m1, m2⟩) (by rw [HFO.out, hn]))
    clear hn hv1 hv2 hnl
    simp only [Option.isSome_some]
    obtain ⟨a4, c4, b4, o4, hv4, ha4, hc4, hcm4, hx4⟩ := hown.at encI_enc
    subst hv4
    obtain rfl := ha4 (by simp)
    have z0 := hx4 0 _ rfl 0 _ rfl
    have z1 := hx4 1 _ rfl 0 _ rfl
    simp only [Nat.mul_one, Nat.add_zero] at z0 z1
    have hl4 : [m1, m2].length = 2 := rfl
    rw [hl4]
    clear hx4 hown ha4 hc4 hcm4 hl4
    have hks := fun w6 (h : Below w3.heap.size w3 w6) => (⟨(h.cell (World.block_lt_of_cell? w3 _ y0)).trans y0, (h.cell (World.block_lt_of_cell? w3 _ z0)).trans z0, (h.cell (World.block_lt_of_cell? w3 _ z1)).trans z1⟩ : _ ∧ _ ∧ _)
    have KS := Lib.hid hks; clear hks
    go_wp2_with fail
    go_region_held3 (fun w' => w'.cell? ⟨w1.heap.size, 0, none⟩ = some (S p) ∧ w'.cell? ⟨b4, o4, none⟩ = some (.int .i64 m1) ∧ w'.cell? ⟨b4, o4 + 1, none⟩ = some (.int .i64 m2)) (first | exact ⟨y0, z0, z1⟩ | exact KS.out _ (((Below.refl _ _).alloc (Nat.le_refl _) _).drew) | exact KS.out _ ((Below.refl _ _).drew.alloc (Nat.le_refl _) _)) (fail)
    have hb4 : Below w3.heap.size w3 (w3.alloc (.cells #[S p, .int .i64 m1, .int .i64 m2] 65)).drew := ((Below.refl _ _).alloc (Nat.le_refl _) _).drew
    have CF := Lib.hid (fun w6 (h : Below (w3.alloc (.cells #[S p, .int .i64 m1, .int .i64 m2] 65)).heap.size (w3.alloc (.cells #[S p, .int .i64 m1, .int .i64 m2] 65)).drew w6) => rowCells (r := ⟨p, m1, m2⟩) rfl (((Below.refl _ _).drew).trans h))
    have hsz : (w3.alloc (.cells #[S p, .int .i64 m1, .int .i64 m2] 65)).heap.size = (w3.alloc (.cells #[S p, .int .i64 m1, .int .i64 m2] 65)).drew.heap.size := rfl
    rw [hsz] at CF
    generalize (w3.alloc (.cells #[S p, .int .i64 m1, .int .i64 m2] 65)).drew = w4 at *
    have hb4' := hb3'.trans (hb4.mono hb3'.size)
    have hb41 := hb31.trans (hb4.mono hb31.size)
    obtain ⟨c0, c1, c2⟩ := CF.out w4 (Below.refl _ _)
    clear y0 z0 z1 v1' hsz
    go_wp2_with fail
    refine (rowCheck_any E B ⟨p, m1, m2⟩ _ ((hE.sub (by decide)).below' hb4' hBw) (by have := HWS.out p (by simp); show p.length ≤ _; omega)).mono ?_
    rintro e w5 ⟨ev, rfl, hev, hb5⟩
    have hb5' := hb4'.trans (hb5.mono hb4'.size)
    have hb51 := hb41.trans (hb5.mono hb41.size)
    have hg2 := HG.out _ hb51
    have fz : ∀ j, w5.frozen? ⟨w.heap.size, j, none⟩ = false := fun j => frozen_row hg2
    have f0 := fz 0; have f1 := fz 1; have f2 := fz 2
    obtain ⟨d0, d1, d2⟩ := CZ.out _ hb51
    clear c0 c1 c2
    obtain ⟨c0, c1, c2⟩ := CF.out w5 hb5
    by_cases hck : rowCheck ⟨p, m1, m2⟩ = 0
    case neg =>
      rw [rowEr_bad hck] at hev
      obtain ⟨hcr, rfl⟩ := hev
      have HR : Hid (rowRead s = (zeroR, rowCheck ⟨p, m1, m2⟩)) := Lib.hid (by rw [HF.out, if_neg hck])
      have HER : Hid (erOf (rowCheck ⟨p, m1, m2⟩) = .bare (rowCheck ⟨p, m1, m2⟩)) := Lib.hid (if_neg hck)
      clear hck
      generalize rowCheck ⟨p, m1, m2⟩ = ce at *
      go_wp2_with fail
      refine bodyPost_ret (ret_row rfl _ _ w.heap.size 65 #[.string ⟨#[]⟩, .int .i64 0, .int .i64 0] (0, 0) _ rfl (thr_new hg2 _ _ _) Tryz.underlying65 rfl (by kernel_rfl)) rfl ⟨.iface 335 (.pointer (some (E ce))), ?_, ?_, ?_⟩
      · rw [HR.out]; rfl
      · rw [HR.out]; show ErV E _ _ (erOf ce); rw [HER.out]; exact ⟨hcr, rfl⟩
      · exact thr_below hb5' (Nat.le_refl _) _ _ _
    rw [rowEr_nil hck] at hev
    obtain rfl : ev = .nilIface := hev
    have HR : Hid (rowRead s = (⟨p, m1, m2⟩, 0)) := Lib.hid (by rw [HF.out, if_pos hck])
    clear hck
    go_wp2_with fail
    refine bodyPost_ret (ret_row rfl _ _ w.heap.size 65 #[S p, .int .i64 m1, .int .i64 m2] (0, 0) _ rfl (thr_new hg2 _ _ _) Tryz.underlying65 rfl (by kernel_rfl)) rfl ⟨.nilIface, ?_, ?_, ?_⟩
    · rw [HR.out]; rfl
    · rw [HR.out]; rfl
    · exact thr_below hb5' (Nat.le_refl _) _ _ _
end Go.Proofs.YtefoaeamfkbgbaaGreatDoor
namespace Go.Proofs.YtefoaeamfkbgbaaGreatDoor
open Go.RowKit

theorem indexFuncI_any (f : FuncId) (caps : Array Value) (p : Int → Bool) (base : Nat) (w0 : World) (v : Value) (l : List Int) (w : World) (hf : Clo Tryz.prog f) (hp : PredOn Tryz.prog f caps (.int .i64) l p base w0)
    (hl : IntsAt w v l) (hw : Below base w0 w) (hB : base ≤ w.heap.size) :
    Calls Tryz.prog 40 #[v, .func (.func f) #[] caps] w fun e w' => e = .returned (.int .i64 (idxVal p l)) ∧ Below w.heap.size w w' := by
  obtain ⟨a, c, b, o, rfl, ha, hc, hcm, hx⟩ := hl
  unfold maxLen at hcm
  have hf' := hf
  unfold Clo at hf'
  go_enter Tryz.func40, Tryz.ntmps40
  go_wp2_with fail
  go_loopw [8] (fun i wr => ∃ k : Nat, k ≤ l.length ∧ i = .int .i64 k ∧ Hid (∀ j y, j < k → l[j]? = some y → p y = false) ∧ Below w.heap.size w wr) (fun i _ => l.length - (intOf i).toNat)
  case atStart => exact ⟨0, by omega, rfl, fun j y hj => absurd hj (by omega), Below.refl _ _⟩
  case round =>
    obtain ⟨k, hk, rfl, hj, hb⟩ := hrel
    by_cases hlt : k < l.length
    · obtain ⟨x, hxk⟩ := get_ex hlt
      have c1 := hx k x hxk 0 _ rfl
      have c1 := (hb.cell (World.block_lt_of_cell? w _ c1)).trans c1
      have i1 := idx_at (c := c) 1 Tryz.underlying26 szInt ha k hlt
      have hk1 : (k : Int) < (l.length : Int) := by omega
      simp only [Nat.mul_one, Nat.add_zero] at c1 i1
      have hpx := hp wr x (List.mem_of_getElem? hxk) (hw.trans (hb.mono hB)) (Nat.le_trans hB hb.size)
      have Hp := Lib.hid hpx; clear hpx
      have Hx := Lib.hid hxk; clear hxk
      go_wp2_with fail
      refine Hp.out.mono ?_
      rintro e w1 ⟨rfl, hb1⟩
      have hb2 := hb.trans (hb1.mono hb.size)
      cases hpv : p x with
      | true =>
        have Hpv := Lib.hid hpv; clear hpv
        go_wp2_with fail
        go_ret
        refine ⟨?_, hb2⟩
        rw [idxVal_some Hx.out Hpv.out hj.out]; rfl
      | false =>
        have Hpv := Lib.hid hpv; clear hpv
        go_wp2_with fail
        go_roundw
        case rel => exact ⟨k + 1, by omega, by go_num, (fun j y hj' hy => by
          rcases Nat.lt_or_ge j k with h | h
          · exact hj.out j y h hy
          · obtain rfl : j = k := by omega
            rw [Hx.out] at hy
            obtain rfl := Option.some.inj hy
            exact Hpv.out), hb2⟩
        case measure => simp [intOf]; omega
    · obtain rfl : k = l.length := by omega
      go_wp2_with fail
      go_ret
      refine ⟨?_, hb⟩
      rw [idxVal_none fun j x hj' => hj.out j x (by
        rcases Nat.lt_or_ge j l.length with h | h
        · exact h
        · rw [List.getElem?_eq_none h] at hj'; cases hj') hj']
      rfl
end Go.Proofs.YtefoaeamfkbgbaaGreatDoor
namespace Go.Proofs.YtefoaeamfkbgbaaGreatDoor
open Go.RowKit

theorem own_cell1 {α : Type} {val : α → Value} {e : TypeId} {B : Nat} {w : World} {g n cap : Nat} {l : List α} (hen : Enc (fun x => [val x]) 1) (h : Own (fun x => [val x]) e 1 B w (.slice (some ⟨g, 0, none⟩) n cap) l) {k : Nat} {x : α} (hk : l[k]? = some x) :
    w.cell? ⟨g, k, none⟩ = some (val x) ∧ w.frozen? ⟨g, k, none⟩ = false ∧ B ≤ g := by
  have hlt : k < l.length := by
    rcases Nat.lt_or_ge k l.length with h' | h'
    · exact h'
    · rw [List.getElem?_eq_none h'] at hk; cases hk
  obtain ⟨g', cap', cur, hv, hB, hg, hc, hm, hs, ht⟩ := h.open (by omega)
  cases hv
  refine ⟨?_, frozen_row hg, hB⟩
  have := flat_get hen l k x hk 0 (val x) rfl
  rw [← ht] at this
  rw [cell_of_row w g k cur e (0, 0) hg]
  simp only [Nat.mul_one, Nat.add_zero] at this
  rw [List.getElem?_take, if_pos hlt] at this
  simpa using this

end Go.Proofs.YtefoaeamfkbgbaaGreatDoor
namespace Go.Proofs.YtefoaeamfkbgbaaGreatDoor
open Go.RowKit


theorem containsI_any (v : Value) (l : List Int) (x : Int) (w : World) (hl : IntsAt w v l) (hn : l.length ≤ 100000) :
    Calls Tryz.prog 60 #[v, .int .i64 x] w fun e w' => e = .returned (.bool (decide (x ∈ l))) ∧ w = w' := by
  obtain ⟨a, c, b, o, rfl, ha, hc, hcm, hx⟩ := hl
  by_cases h0 : 0 < l.length
  · obtain rfl := ha h0
    refine (Tryz.slices_Contains_int b o l.length c l x w (Nat.le_refl _) (by omega) (fun j hj => ?_)).mono ?_
    · have := hx j l[j] (by simp [hj]) 0 _ rfl
      simpa [List.getD, hj] using this
    · rintro e w' ⟨rfl, rfl⟩
      exact ⟨ret_bool (by rw [List.take_length]; simp [List.contains_eq_mem]), rfl⟩
  · have : l = [] := List.eq_nil_of_length_eq_zero (by omega)
    subst this
    refine (Tryz.slices_Contains_int_empty a c x w).mono ?_
    rintro e w' ⟨rfl, rfl⟩
    exact ⟨ret_bool (by simp), rfl⟩
end Go.Proofs.YtefoaeamfkbgbaaGreatDoor
