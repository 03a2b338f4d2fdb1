/- Rows in memory; row.Name, row.Check, row.Text. part.spec, Check, floor, name, Of: the walks. list.Read: the walk. data.Split, data.Each, data.Fits: the walks. data.Fits: the walk. Files of rows in plain words: what is made, what is read; the two agree. slices.Values, AppendSeq, Collect at []api.Row: a range over a function. -/
import Derived.Test.YtpfohfihkmjnaaaGreatDoorP6
import Derived.Test.YtpfohfihkmjnaaaGreatDoorP8
import Derived.BigQuiet
import Derived.Test.YtpfohfihkmjnaaaGreatDoorP7
import Derived.RangeFuncBox
import Derived.RangeFuncNested
import Derived.RangeFuncLeaves
import Derived.Shelf.Abstract
import Derived.WalkKit
import Derived.OwnWalkIn
import Derived.TacticsInMore
import Derived.LoopNIn
import Derived.LoopIn
import Derived.Maps.AppendAt
namespace Go.Proofs.YtpfohfihkmjnaaaGreatDoor
open Go.RowKit

abbrev encR (r : Rw) : List Value := [S r.part, .int .i64 r.key, .int .i64 r.val]
theorem encR_enc : Enc encR 3 := fun x => ⟨rfl, by simp [Value.oneCell']⟩
abbrev RowsAt (w : World) (v : Value) (l : List Rw) : Prop := At encR 3 w v l
theorem szRw (w : World) : (sizeOf 106).run Tryz.prog w = .ok 3 w := by kernel_rfl
theorem elRw : ElemInfo Tryz.prog 44 106 3 32 := elemInfo_of Tryz.underlying44 (z := .agg #[.string ByteArray.empty, .int .i64 0, .int .i64 0]) (by kernel_rfl) rfl (by decide)
/-- A row's numbers are of 64 bits. -/
def RowWf (r : Rw) : Prop := (-9223372036854775808 ≤ r.key ∧ r.key ≤ 9223372036854775807) ∧ (-9223372036854775808 ≤ r.val ∧ r.val ≤ 9223372036854775807)
abbrev rowV (r : Rw) : Value := .agg #[S r.part, .int .i64 r.key, .int .i64 r.val]
abbrev rowO (r : Rw) : Obj := .cells #[S r.part, .int .i64 r.key, .int .i64 r.val] 106
theorem rowCells {w w1 w6 : World} {r : Rw} (hw : w1 = w.alloc (rowO r)) (h6 : Below w1.heap.size w1 w6) :
    w6.cell? ⟨w.heap.size, 0, none⟩ = some (S r.part) ∧ w6.cell? ⟨w.heap.size, 1, none⟩ = some (.int .i64 r.key) ∧ w6.cell? ⟨w.heap.size, 2, none⟩ = some (.int .i64 r.val) := by
  subst hw
  have h := heap_alloc_new w (.cells #[S r.part, .int .i64 r.key, .int .i64 r.val] 106)
  have h' := (h6.block w.heap.size (by simp)).trans h
  refine ⟨?_, ?_, ?_⟩ <;> (rw [cell_of_row w6 _ _ _ _ (0, 0) h']; rfl)
/-- A round's cells. -/
theorem rwCells {w w' : World} {b o : Nat} {l : List Rw} {k : Nat} {x : Rw} (hx : ∀ (k : Nat) (x : Rw), l[k]? = some x → ∀ (j : Nat) (u : Value), (encR x)[j]? = some u → w.cell? ⟨b, o + k * 3 + j, none⟩ = some u) (hb : Below w.heap.size w w') (hk : l[k]? = some x) :
    w'.cell? ⟨b, o + k * 3, none⟩ = some (S x.part) ∧ w'.cell? ⟨b, o + k * 3 + 1, none⟩ = some (.int .i64 x.key) ∧ w'.cell? ⟨b, o + k * 3 + 2, none⟩ = some (.int .i64 x.val) := by
  have h := fun j u hu => by
    have := hx k x hk j u hu
    exact (hb.cell (World.block_lt_of_cell? w _ this)).trans this
  exact ⟨h 0 _ rfl, h 1 _ rfl, h 2 _ rfl⟩
/-- A block of three cells, written. -/
abbrev thr (w : World) (g o : Nat) (b0 b1 b2 : Value) : World := ((w.setCell ⟨g, o, none⟩ b0).setCell ⟨g, o + 1, none⟩ b1).setCell ⟨g, o + 2, none⟩ b2
theorem thr_row {w : World} {g o : Nat} {t : TypeId} {fr : Nat × Nat} {cur : Array Value} (hg : w.heap[g]? = some (.cells cur t fr)) (b0 b1 b2 : Value) : (thr w g o b0 b1 b2).heap[g]? = some (.cells (((cur.setIfInBounds o b0).setIfInBounds (o + 1) b1).setIfInBounds (o + 2) b2) t fr) :=
  row_setCell (row_setCell (row_setCell hg b0) b1) b2
theorem thr_below {B : Nat} {w0 w : World} {g o : Nat} (hb : Below B w0 w) (hB : B ≤ g) (b0 b1 b2 : Value) : Below B w0 (thr w g o b0 b1 b2) :=
  ((hb.setCell (p := ⟨g, o, none⟩) hB _).setCell (p := ⟨g, o + 1, none⟩) hB _).setCell (p := ⟨g, o + 2, none⟩) hB _
theorem thr_new {w : World} {g : Nat} {t : TypeId} {fr : Nat × Nat} {a0 a1 a2 : Value} (hg : w.heap[g]? = some (.cells #[a0, a1, a2] t fr)) (b0 b1 b2 : Value) : (thr w g 0 b0 b1 b2).heap[g]? = some (.cells #[b0, b1, b2] t fr) := thr_row hg b0 b1 b2

theorem less_befR : ∀ a b : Str, Op.bytesLess a b = bef a b
  | [], [] => by simp [Op.bytesLess, bytesBefore]
  | [], _ :: _ => by simp [Op.bytesLess, bytesBefore]
  | _ :: _, [] => by simp [Op.bytesLess, bytesBefore]
  | a :: r, b :: s => by
    have ih := less_befR r s
    show Op.bytesLess (a :: r) (b :: s) = (decide (a < b) || (a == b && bytesBefore r s))
    unfold Op.bytesLess
    rw [ih]
def rowEr (r : Rw) : Er := erOf (rowCheck r)
theorem rowCheck_name {r : Rw} (h : nameOk r.part = false) : rowCheck r = 5 := if_pos h
theorem rowCheck_far {r : Rw} (h : nameOk r.part = true) (h2 : farN r.key ∨ farN r.val) : rowCheck r = 2 := by unfold rowCheck; rw [if_neg (by rw [h]; decide), if_pos h2]
theorem rowCheck_right {r : Rw} (h : nameOk r.part = true) (h2 : ¬ farN r.key) (h3 : ¬ farN r.val) : rowCheck r = 0 := by unfold rowCheck; rw [if_neg (by rw [h]; decide), if_neg (fun h => h.elim h2 h3)]

set_option maxRecDepth 20000 in
theorem rowName_any (s : Str) (w : World) (hs : s.length ≤ 100000) :
    Calls Tryz.prog 194 #[S s] w fun e w' => e = .returned (.bool (nameOk s)) ∧ Below w.heap.size w w' := by
  unfold nameOk
  by_cases h0 : s = []
  · subst h0
    go_enter Tryz.func194, Tryz.ntmps194
    go_wp2_with fail
    go_ret
    exact ⟨rfl, Below.refl _ _⟩
  have g0 : (!s.isEmpty) = true := by simpa using h0
  have e0 : decide (s ≠ []) = true := by simpa using h0
  rw [e0, Bool.true_and]
  by_cases h1 : s.length ≤ 8
  · have g1 : decide ((s.length : Int) ≤ 8) = true := by simp; omega
    have g2 : (s.length : Int) ≤ 8 := by omega
    have e1 : decide (s.length ≤ 8) = true := by simpa using h1
    rw [e1, Bool.true_and]
    go_enter Tryz.func194, Tryz.ntmps194
    go_wp2_with fail
    refine (trimPart_any s _ hs).mono ?_
    rintro e w1 ⟨rfl, hb1⟩
    have hT : (Lib.trimS s partSigns).isEmpty = s.all (fun b => partSigns.contains b) := by
      rw [Bool.eq_iff_iff, List.isEmpty_iff, trimS_nilP]
    have HT := Lib.hid hT; clear hT
    generalize Lib.trimS s partSigns = T at *
    go_wp2_with fail
    go_ret
    exact ⟨ret_bool (by first | exact HT.out | (rw [← HT.out]; cases T <;> rfl)), hb1⟩
  · have g1 : decide ((s.length : Int) ≤ 8) = false := by simp; omega
    have e1 : decide (s.length ≤ 8) = false := by simpa using h1
    rw [e1, Bool.false_and]
    go_enter Tryz.func194, Tryz.ntmps194
    go_wp2_with fail
    go_ret
    exact ⟨rfl, Below.refl _ _⟩
set_option maxHeartbeats 1000000 in
set_option maxRecDepth 20000 in
theorem rowCheck_any (E : Nat → Addr) (B : Nat) (r : Rw) (w : World) (hE : Errs [2, 5] E B w) (hs : r.part.length ≤ 100000) :
    Calls Tryz.prog 175 #[rowV r] w fun e w' => ∃ ev, e = .returned ev ∧ ErV E w' ev (rowEr r) ∧ Below w.heap.size w w' := by
  have hBw := hE.le
  have hb0 : Below w.heap.size w (w.alloc (.cells #[S r.part, .int .i64 r.key, .int .i64 r.val] 106)) := (Below.refl _ _).alloc (Nat.le_refl _) _
  have Cs := Lib.hid (fun w6 (h : Below (w.alloc (.cells #[S r.part, .int .i64 r.key, .int .i64 r.val] 106)).heap.size (w.alloc (.cells #[S r.part, .int .i64 r.key, .int .i64 r.val] 106)) w6) => rowCells (r := r) rfl h)
  have hE1 := hE.below' hb0 hE.le
  have V0 := fun w6 (h : Below (w.alloc (.cells #[S r.part, .int .i64 r.key, .int .i64 r.val] 106)).heap.size (w.alloc (.cells #[S r.part, .int .i64 r.key, .int .i64 r.val] 106)) w6) => (⟨(hE1.below' h hE1.le).var 2 (by decide), (hE1.below' h hE1.le).var 5 (by decide)⟩ : _ ∧ _)
  simp only [errG] at V0
  have V := Lib.hid V0
  clear V0
  obtain ⟨c0, c1, c2⟩ := Cs.out _ (Below.refl _ _)
  go_enter Tryz.func175, Tryz.ntmps175
  go_wp2_with fail
  generalize w.alloc (.cells #[S r.part, .int .i64 r.key, .int .i64 r.val] 106) = w1 at *
  refine (rowName_any r.part _ hs).mono ?_
  rintro e w2 ⟨rfl, hb2⟩
  have hb2' := hb0.trans (hb2.mono hb0.size)
  clear c0 c1 c2
  obtain ⟨c0, c1, c2⟩ := Cs.out w2 hb2
  obtain ⟨v2, v5⟩ := V.out w2 hb2
  cases hnm : nameOk r.part with
  | false =>
    have HF : Hid (rowEr r = .bare 5) := Lib.hid (by unfold rowEr; rw [rowCheck_name hnm]; rfl)
    clear hnm
    go_wp2_with fail
    go_ret
    exact ⟨_, rfl, by rw [HF.out]; exact ⟨by decide, rfl⟩, hb2'⟩
  | true =>
    have HN := Lib.hid hnm
    clear hnm
    go_wp2_with fail
    refine (far_any r.key _).mono ?_
    rintro e w3 ⟨rfl, rfl⟩
    by_cases b1 : farN r.key
    · have HF : Hid (rowEr r = .bare 2) := Lib.hid (by unfold rowEr; rw [rowCheck_far HN.out (.inl b1)]; rfl)
      rw [decide_eq_true b1]
      clear b1
      go_wp2_with fail
      go_ret
      exact ⟨_, rfl, by rw [HF.out]; exact ⟨by decide, rfl⟩, hb2'⟩
    rw [decide_eq_false b1]
    have B1 := Lib.hid b1
    clear b1
    go_wp2_with fail
    refine (far_any r.val _).mono ?_
    rintro e w3 ⟨rfl, rfl⟩
    by_cases b2 : farN r.val
    · have HF : Hid (rowEr r = .bare 2) := Lib.hid (by unfold rowEr; rw [rowCheck_far HN.out (.inr b2)]; rfl)
      rw [decide_eq_true b2]
      clear b2
      go_wp2_with fail
      go_ret
      exact ⟨_, rfl, by rw [HF.out]; exact ⟨by decide, rfl⟩, hb2'⟩
    rw [decide_eq_false b2]
    have HF : Hid (rowEr r = .nil) := Lib.hid (by unfold rowEr; rw [rowCheck_right HN.out B1.out b2]; rfl)
    clear b2
    go_wp2_with fail
    go_ret
    exact ⟨_, rfl, by rw [HF.out]; rfl, hb2'⟩
theorem rowEr_nil {r : Rw} (h : rowCheck r = 0) : rowEr r = .nil := if_pos h
theorem rowEr_bad {r : Rw} (h : rowCheck r ≠ 0) : rowEr r = .bare (rowCheck r) := if_neg h
theorem name_len {r : Rw} (h : rowCheck r = 0) : r.part.length ≤ 8 ∧ -1073741824 ≤ r.key ∧ r.key ≤ 1073741824 ∧ -1073741824 ≤ r.val ∧ r.val ≤ 1073741824 := by
  obtain ⟨h1, h2, h3⟩ := rowCheck_zero h
  have h4 := (name_sign h1).2.2
  unfold farN at h2 h3
  omega
theorem rowLine_len {r : Rw} (h : rowCheck r = 0) : (rowLine r).length ≤ 54 := by
  obtain ⟨h1, h2⟩ := name_len h
  have := numsTail_len [r.key, r.val] (fun x hx => by simp only [List.mem_cons, List.not_mem_nil, or_false] at hx; rcases hx with rfl | rfl <;> omega)
  unfold rowLine
  rw [List.length_append]
  simp only [List.length_cons, List.length_nil] at this
  omega
end Go.Proofs.YtpfohfihkmjnaaaGreatDoor
namespace Go.Proofs.YtpfohfihkmjnaaaGreatDoor
open Go.RowKit

theorem floor_up {a n : Int} (hn : 1 ≤ n) (h : a < a.tdiv n * n) : a / n = a.tdiv n - 1 := by
  have h1 := Int.mul_tdiv_add_tmod a n
  have h2 := Int.lt_tmod_of_pos a (show 0 < n by omega)
  rw [Int.mul_comm] at h1
  have e1 : a.tdiv n - 1 ≤ a / n := (Int.le_ediv_iff_mul_le (by omega)).2 (by rw [Int.sub_mul]; omega)
  have e2 : a / n < a.tdiv n := (Int.ediv_lt_iff_lt_mul (by omega)).2 h
  omega
theorem floor_eq {a n : Int} (hn : 1 ≤ n) (h : ¬ a < a.tdiv n * n) : a / n = a.tdiv n := by
  have h1 := Int.mul_tdiv_add_tmod a n
  have h2 := Int.tmod_lt_of_pos a (show 0 < n by omega)
  rw [Int.mul_comm] at h1
  have e1 : a.tdiv n ≤ a / n := (Int.le_ediv_iff_mul_le (by omega)).2 (by omega)
  have e2 : a / n < a.tdiv n + 1 := (Int.ediv_lt_iff_lt_mul (by omega)).2 (by rw [Int.add_mul]; omega)
  omega
theorem floor_bound {a n : Int} (hn : 1 ≤ n) (hn2 : n ≤ 1000) (ha : ¬ farN a) :
    (-1073741824 ≤ a.tdiv n ∧ a.tdiv n ≤ 1073741824) ∧ (-1073742824 ≤ a.tdiv n * n ∧ a.tdiv n * n ≤ 1073742824) ∧ (-1073741824 ≤ a / n ∧ a / n ≤ 1073741824) ∧ (-1073742824 ≤ n * (a / n) ∧ n * (a / n) ≤ 1073742824) := by
  have h1 := Int.mul_tdiv_add_tmod a n
  have h2 := Int.tmod_lt_of_pos a (show 0 < n by omega)
  have h3 := Int.lt_tmod_of_pos a (show 0 < n by omega)
  rw [Int.mul_comm] at h1
  unfold farN at ha
  have e1 : (a.tdiv n).natAbs ≤ a.natAbs := by rw [Int.natAbs_tdiv]; exact Nat.div_le_self _ _
  have e4 := Int.mul_ediv_add_emod a n
  have e5 := Int.emod_nonneg a (show n ≠ 0 by omega)
  have e6 := Int.emod_lt_of_pos a (show 0 < n by omega)
  have e7 : -1073741824 ≤ a / n := (Int.le_ediv_iff_mul_le (by omega)).2 (by
    have : 1073741824 * 1 ≤ 1073741824 * n := Int.mul_le_mul_of_nonneg_left hn (by decide)
    omega)
  have e8 : a / n < 1073741824 + 1 := (Int.ediv_lt_iff_lt_mul (by omega)).2 (by omega)
  omega

end Go.Proofs.YtpfohfihkmjnaaaGreatDoor
namespace Go.Proofs.YtpfohfihkmjnaaaGreatDoor
open Go.RowKit

/-- The lines that were read. -/
def readOf (ls : List Str) : List Fl := ls.map fun x => (fileRead x).1
theorem linesE_full {ls : List Str} (h : 60 < manyL ls) : linesE ls = .bare 8 := by unfold linesE; rw [if_pos h]
theorem linesE_few {ls : List Str} (h : ¬ 60 < manyL ls) : linesE ls = firstErr (lineFault ls) (manyL ls) := by unfold linesE; rw [if_neg h]
theorem manyL_ge (ls : List Str) : ls.length - 1 ≤ manyL ls ∧ manyL ls ≤ ls.length := by unfold manyL; split <;> omega
theorem last_at {ls : List Str} {x : Str} (h : ls[ls.length - 1]? = some x) : ls.getLast?.getD [] = x := by
  rw [List.getLast?_eq_getElem?, h]; rfl
theorem manyL_nil {ls : List Str} (h : ls[ls.length - 1]? = some []) : manyL ls = ls.length - 1 := by
  unfold manyL; rw [last_at h, if_pos rfl]
theorem manyL_ne {ls : List Str} {x : Str} (h : ls[ls.length - 1]? = some x) (hx : x ≠ []) : manyL ls = ls.length := by
  unfold manyL; rw [last_at h, if_neg hx]
theorem lineFault_last {ls : List Str} {x : Str} {k : Nat} (h : ls[k]? = some x) (hk : k + 1 = ls.length) : lineFault ls k = 1 := by
  unfold lineFault; rw [h]; simp only; rw [if_pos hk]
theorem lineFault_bad {ls : List Str} {x : Str} {k : Nat} (h : ls[k]? = some x) (hk : ¬ k + 1 = ls.length) (hx : (fileRead x).2 ≠ 0) : lineFault ls k = (fileRead x).2 := by
  unfold lineFault; rw [h]; simp only; rw [if_neg hk, if_pos hx]
theorem lineFault_zero {ls : List Str} {x : Str} (h : ls[0]? = some x) (hk : ¬ 1 = ls.length) (hx : (fileRead x).2 = 0) : lineFault ls 0 = 0 := by
  unfold lineFault; rw [h]; simp only; rw [if_neg (by simpa using hk), if_neg (by simpa using hx), if_neg (by simp)]
theorem lineFault_ord {ls : List Str} {x y : Str} {k : Nat} (h : ls[k]? = some x) (hk : ¬ k + 1 = ls.length) (hx : (fileRead x).2 = 0) (h0 : 0 < k) (hy : ls[k - 1]? = some y) (hc : cmpP (fileRead x).1.path (fileRead y).1.path ≤ 0) : lineFault ls k = 9 := by
  unfold lineFault; rw [h]; simp only; rw [if_neg hk, if_neg (by simpa using hx), if_pos ⟨h0, y, hy, hc⟩]
theorem lineFault_fine {ls : List Str} {x y : Str} {k : Nat} (h : ls[k]? = some x) (hk : ¬ k + 1 = ls.length) (hx : (fileRead x).2 = 0) (hy : ls[k - 1]? = some y) (hc : ¬ cmpP (fileRead x).1.path (fileRead y).1.path ≤ 0) : lineFault ls k = 0 := by
  unfold lineFault; rw [h]; simp only; rw [if_neg hk, if_neg (by simpa using hx), if_neg]
  rintro ⟨_, g, hg, hle⟩
  rw [hy] at hg
  cases hg
  exact hc hle
theorem erOf_bad {c : Nat} (h : c ≠ 0) : erOf c = .bare c := if_neg h
theorem erOf_nil {c : Nat} (h : c = 0) : erOf c = .nil := if_pos h
theorem readOf_at {ls : List Str} {k j : Nat} {y : Str} (h : ls[j]? = some y) (hj : j < k) : (readOf (ls.take k))[j]? = some (fileRead y).1 := by
  unfold readOf; rw [List.getElem?_map, List.getElem?_take_of_lt hj, h]; rfl
theorem readOf_snoc {ls : List Str} {k : Nat} {x : Str} (h : ls[k]? = some x) : readOf (ls.take (k + 1)) = readOf (ls.take k) ++ [(fileRead x).1] := by
  unfold readOf; rw [take_snoc' h, List.map_append]; rfl

theorem Own.cells {α : Type} {enc : α → List Value} {e : TypeId} {sz B : Nat} {w : World} {l : List α} {g n c : Nat} (hen : Enc enc sz) (h : Own enc e sz B w (.slice (some ⟨g, 0, none⟩) n c) l) : ∀ (k : Nat) (x : α), l[k]? = some x → ∀ (j : Nat) (u : Value), (enc x)[j]? = some u → w.cell? ⟨g, k * sz + j, none⟩ = some u := by
  obtain ⟨_, _, b', o', hv', hga, _, _, hx'⟩ := h.at hen
  intro k x hk j u hu
  simp only [Value.slice.injEq] at hv'
  have hga' := hv'.1.trans (hga (by have := (List.getElem?_eq_some_iff.1 hk).1; omega))
  simp only [Option.some.injEq, Addr.mk.injEq, and_true] at hga'
  obtain ⟨rfl, rfl⟩ := hga'
  have := hx' k x hk j u hu
  simpa using this
theorem Own.base {α : Type} {enc : α → List Value} {e : TypeId} {sz B B' : Nat} {w : World} {v : Value} {l : List α} (h : Own enc e sz B w v l) (hB : B' ≤ B) : Own enc e sz B' w v l := by
  unfold Own World.ownsRow at h ⊢
  refine ⟨h.1, h.2.imp id ?_⟩
  rintro ⟨g, c, cs, h1, h2, h3⟩
  exact ⟨g, c, cs, h1, Nat.le_trans hB h2, h3⟩
theorem Own.cells1 {α : Type} {enc : α → List Value} {e : TypeId} {B : Nat} {w : World} {l : List α} {g n c : Nat} {f : α → Value} (hen : Enc enc 1) (hf : ∀ x, enc x = [f x]) (h : Own enc e 1 B w (.slice (some ⟨g, 0, none⟩) n c) l) : ∀ (k : Nat) (x : α), l[k]? = some x → w.cell? ⟨g, k, none⟩ = some (f x) := by
  intro k x hk
  have := h.cells hen k x hk 0 (f x) (by rw [hf]; rfl)
  simpa using this

theorem fileRead_len {s : Str} {m : Nat} (h : s.length ≤ m) : (fileRead s).1.path.length ≤ m ∧ (fileRead s).1.part.length ≤ m := by
  have hm := fun p hp => Nat.le_trans (cutAt_mem_len (c := 32) (s := s) (p := p) hp) h
  unfold fileRead
  cases hf : fileOf (cutAt 32 s) with
  | none => exact ⟨Nat.zero_le _, Nat.zero_le _⟩
  | some f =>
    simp only
    split
    · generalize cutAt 32 s = L at *
      unfold fileOf at hf
      split at hf
      · split at hf
        · cases hf; exact ⟨hm _ (by simp), hm _ (by simp)⟩
        · cases hf
      · cases hf
    · exact ⟨Nat.zero_le _, Nat.zero_le _⟩
end Go.Proofs.YtpfohfihkmjnaaaGreatDoor
namespace Go.Proofs.YtpfohfihkmjnaaaGreatDoor
open Go.RowKit

theorem headN_no {word s : Str} (h : (Lib.cut s [10]).2.2 = false) : headN word s = none := by unfold headN; rw [if_neg (by rw [h]; decide)]
theorem headN_len {word s : Str} (h : (cutAt 32 (Lib.cut s [10]).1).length ≠ 5) : headN word s = none := by
  unfold headN
  split
  · split
    · rename_i hc; rw [hc] at h; exact absurd rfl h
    · rfl
  · rfl
theorem headN_five {word s t a b c d : Str} (hi : (Lib.cut s [10]).2.2 = true) (h : cutAt 32 (Lib.cut s [10]).1 = [t, a, b, c, d]) : headN word s = if t = word then numsOf [a, b, c, d] else none := by
  unfold headN
  rw [if_pos hi, h]
theorem splitE_none {word s : Str} (h : ¬ 20000 < s.length) (hn : headN word s = none) : splitE word s = .bare 1 := by unfold splitE; rw [if_neg h, hn]
theorem splitE_some {word s : Str} {n : List Int} (h : ¬ 20000 < s.length) (hn : headN word s = some n) : splitE word s = if n.getD 3 0 = (sumOf (Lib.cut s [10]).2.1 : Int) then .nil else .bare 10 := by unfold splitE; rw [if_neg h, hn]
theorem splitE_long {word s : Str} (h : 20000 < s.length) : splitE word s = .bare 2 := if_pos h
theorem five_strs {l : List Str} (h : l.length = 5) : ∃ t a b c d, l = [t, a, b, c, d] := by
  match l, h with
  | [t, a, b, c, d], _ => exact ⟨t, a, b, c, d, rfl⟩

set_option maxHeartbeats 2000000 in
set_option maxRecDepth 20000 in
theorem dataSplit_any (E : Nat → Addr) (B : Nat) (word s : Str) (w : World) (hE : Errs [1, 2, 10] E B w) (hT : LNum B w) (hM : LMax B w) (hs : s.length ≤ 100000) :
    Calls Tryz.prog 135 #[S word, S s] w fun e w' => ∃ vn vl ev, e = .returned (.tuple #[vn, vl, ev]) ∧ ErV E w' ev (splitE word s) ∧ (splitE word s = .nil → Own encI 3 1 w.heap.size w' vn (splitN word s) ∧ Own encS 9 1 w.heap.size w' vl (splitL s)) ∧ Below w.heap.size w w' := by
  have hBw := hE.le
  have hE1 := fun w1 (hb : Below w.heap.size w w1) => (⟨(hE.below' hb hBw).var 1 (by decide), (hE.below' hb hBw).var 2 (by decide), (hE.below' hb hBw).var 10 (by decide)⟩ : _ ∧ _ ∧ _)
  simp only [errG] at hE1
  have HE1 := Lib.hid hE1
  have X := Lib.hid (fun W (h : Below w.heap.size w W) => (⟨hT.below' h hBw, hM.below' h hBw⟩ : LNum B W ∧ LMax B W))
  clear hE1
  by_cases h20 : 20000 < s.length
  · have HSp := Lib.hid (splitE_long (word := word) h20)
    have g : (20000 : Int) < (s.length : Int) := by omega
    obtain ⟨v1, v2, v3⟩ := HE1.out _ (Below.refl _ _)
    clear h20
    go_enter Tryz.func135, Tryz.ntmps135
    go_wp2_with fail
    go_quiet (fail)
    go_wp2_with fail
    go_ret3
    exact ⟨_, _, _, rfl, by rw [HSp.out]; exact ⟨by decide, rfl⟩, fun h => (by rw [HSp.out] at h; cases h), Bdn (Below.refl _ _) _⟩
  have g20 : decide ((20000 : Int) < (s.length : Int)) = false := by simp; omega
  have H20 := Lib.hid h20
  have hcl := cut_len s [10]
  have HC := Lib.hid (cut1_any 10 B s w hM hs)
  have HNo := Lib.hid (@headN_no word s)
  have HLe := Lib.hid (@headN_len word s)
  have HFv := Lib.hid (fun t a b c d => @headN_five word s t a b c d)
  have HSo := Lib.hid (fun n => @splitE_some word s n h20)
  have HSn := Lib.hid (@splitE_none word s h20)
  have HLs : Hid (splitL s = cutAt 10 (Lib.cut s [10]).2.1) := Lib.hid rfl
  generalize (Lib.cut s [10]).1 = hd at *
  generalize (Lib.cut s [10]).2.1 = bd at *
  generalize (Lib.cut s [10]).2.2 = is at *
  have hhd : hd.length ≤ 20000 := by omega
  have hbd : bd.length ≤ 20000 := by omega
  have HHd := Lib.hid hhd
  clear h20 hcl
  go_enter Tryz.func135, Tryz.ntmps135
  go_wp2_with fail
  refine HC.out.mono ?_
  rintro e w1 ⟨rfl, hb1⟩
  have HSt := Lib.hid (split1_any B hd 32 w1 (X.out _ hb1).2 (by omega))
  go_wp2_with fail
  refine HSt.out.mono ?_
  rintro e w2 ⟨rfl, hown, hb2⟩
  have hb2' := hb1.trans (hb2.mono hb1.size)
  obtain ⟨v1, v2, v3⟩ := HE1.out _ hb2'
  have hwl : (cutAt 32 hd).length ≤ 20001 := by
    have := cutAt_length 32 hd
    have h2 : hd.count 32 ≤ hd.length := List.count_le_length
    omega
  have hws : ∀ p ∈ cutAt 32 hd, p.length ≤ 20000 := fun p hp => by
    have := cutAt_mem_len (c := 32) hp; omega
  clear HSt HC hhd
  cases is with
  | false =>
    have HSp := Lib.hid (HSn.out (HNo.out rfl))
    clear hown hwl hws
    generalize cutAt 32 hd = W at *
    go_wp2_with fail
    go_quiet (fail)
    go_wp2_with fail
    go_ret3
    exact ⟨_, _, _, rfl, by rw [HSp.out]; exact ⟨by decide, rfl⟩, fun h => (by rw [HSp.out] at h; cases h), Bdn hb2' _⟩
  | true =>
  by_cases h5 : (cutAt 32 hd).length = 5
  case neg =>
    have HSp := Lib.hid (HSn.out (HLe.out h5))
    have g5 : (((cutAt 32 hd).length : Int) != 5) = true := by simp; omega
    clear hown hws h5 HLe HFv
    generalize cutAt 32 hd = W at *
    go_wp2_with fail
    go_quiet (fail)
    go_wp2_with fail
    go_ret3
    exact ⟨_, _, _, rfl, by rw [HSp.out]; exact ⟨by decide, rfl⟩, fun h => (by rw [HSp.out] at h; cases h), Bdn hb2' _⟩
  obtain ⟨t, n1, n2, n3, n4, hW⟩ := five_strs h5
  have HHe := Lib.hid (HFv.out t n1 n2 n3 n4 rfl hW)
  rw [hW] at hown hws ⊢
  have HWS := Lib.hid hws
  clear hws hW h5 hwl HLe HNo HFv
  obtain ⟨a', c', b', o', hv', ha', hc', hcm', hx'⟩ := hown.at encS_enc
  obtain ⟨rfl, rfl⟩ : a' = some ⟨w1.heap.size, 0, none⟩ ∧ c' = 5 := by cases hv'; exact ⟨rfl, rfl⟩
  obtain ⟨rfl, rfl⟩ : b' = w1.heap.size ∧ o' = 0 := by have := ha' (by simp); cases this; exact ⟨rfl, rfl⟩
  obtain ⟨b3, o3, c3, hrun, hat3⟩ := slice_from (enc := encS) (sz := 1) Tryz.underlying39 szStr ha' hc' hcm' hx' 1 (by simp) (by simp)
  have x0 := hx' 0 _ rfl 0 _ rfl
  simp only [List.length_cons, List.length_nil, Nat.zero_add, Nat.reduceAdd, Nat.reduceSub, Nat.mul_one, Nat.add_zero, List.drop_succ_cons, List.drop_zero] at hrun hat3 x0
  have e2 : ((1 : Nat) : Int) = 1 := rfl
  rw [e2] at hrun
  have hl6 : [t, n1, n2, n3, n4].length = 5 := rfl
  rw [hl6]
  clear hv' ha' hx' hown hcm' hc' e2 hl6
  by_cases hw : t = word
  case neg =>
    have gw : (t == word) = false := by simpa using hw
    have HSp := Lib.hid (HSn.out (by rw [HHe.out, if_neg hw]))
    clear hw hat3 hrun
    go_wp2_with fail
    go_quiet (fail)
    go_wp2_with fail
    go_ret3
    exact ⟨_, _, _, rfl, by rw [HSp.out]; exact ⟨by decide, rfl⟩, fun h => (by rw [HSp.out] at h; cases h), Bdn hb2' _⟩
  subst hw
  have HHe2 : Hid (headN t s = numsOf [n1, n2, n3, n4]) := Lib.hid (by rw [HHe.out, if_pos rfl])
  clear HHe
  go_wp2_with fail
  refine (numbers_any B _ [n1, n2, n3, n4] _ (X.out _ hb2').1 hat3 (by simp) (fun x hx => by have := HWS.out x (List.mem_cons_of_mem _ hx); omega)).mono ?_
  rintro e w3 ⟨v', rfl, hv1, hv2, hb3⟩
  have hb3' := hb2'.trans (hb3.mono hb2'.size)
  clear v1 v2 v3 hrun hat3 x0
  obtain ⟨v1, v2, v3⟩ := HE1.out _ hb3'
  cases hn : numsOf [n1, n2, n3, n4] with
  | none =>
    rw [hn] at hv2
    obtain rfl := hv2 rfl
    have HSp := Lib.hid (HSn.out (by rw [HHe2.out, hn]))
    clear hn hv1 hv2
    simp only [Option.isSome_none]
    go_wp2_with fail
    go_quiet (fail)
    go_wp2_with fail
    go_ret3
    exact ⟨_, _, _, rfl, by rw [HSp.out]; exact ⟨by decide, rfl⟩, fun h => (by rw [HSp.out] at h; cases h), Bdn hb3' _⟩
  | some ns =>
    have hown := hv1 ns hn
    have hnl := mapM_len _ hn
    obtain ⟨m0, m1, m2, m3, rfl⟩ := four_ints (l := ns) (by simpa using hnl)
    have HSp := Lib.hid (HSo.out _ (HHe2.out.trans hn))
    have HNs : Hid (splitN t s = [m0, m1, m2, m3]) := Lib.hid (by unfold splitN; rw [HHe2.out, hn]; rfl)
    clear hn hv1 hv2 hnl HSo HSn HHe2
    simp only [Option.isSome_some]
    have hownB := hown.base hb2'.size
    obtain ⟨a4, c4, b4, o4, hv4, ha4, hc4, hcm4, hx4⟩ := hown.at encI_enc
    subst hv4
    obtain rfl := ha4 (by simp)
    have z3 := hx4 3 _ rfl 0 _ rfl
    simp only [Nat.mul_one, Nat.add_zero] at z3
    have hl4 : [m0, m1, m2, m3].length = 4 := rfl
    rw [hl4] at hownB ⊢
    have HOwn := Lib.hid hownB
    have HSum := Lib.hid (fun W => sum_any bd W (by omega))
    have hsl := sumOf_lt bd
    simp only [List.getD_cons_zero, List.getD_cons_succ] at HSp
    obtain ⟨sm, hsm⟩ : ∃ sm, sumOf bd = sm := ⟨_, rfl⟩
    rw [hsm] at HSum HSp hsl
    have hwr : IntKind.i64.wrap (sm : Int) = (sm : Int) := by rw [IntKind.wrap_i64]; omega
    have Z3 := Lib.hid (fun W (h : Below w3.heap.size w3 W) => (h.cell (World.block_lt_of_cell? w3 _ z3)).trans z3)
    clear hx4 hown ha4 hc4 hcm4 hl4 hownB hsm z3
    have z3 := Z3.out _ (Below.refl w3.heap.size w3).drew
    go_wp2_with fail
    go_region_held3 (fun w' => w'.cell? ⟨b4, o4 + 3, none⟩ = some (.int .i64 m3)) (exact z3) ((go_at_call 172; (with_reducible refine (HSum.out _).mono ?_); rintro e w4 ⟨rfl, hb4⟩; have hb34 := (Below.refl w3.heap.size w3).drew.trans (hb4.mono (Below.refl w3.heap.size w3).drew.size); clear z3; have z3 := Z3.out _ hb34))
    all_goals
      have hb4' := hb3'.trans (hb34.mono hb3'.size)
      clear z3 v1 v2 v3
      obtain ⟨v1, v2, v3⟩ := HE1.out _ hb4'
      by_cases hq : m3 = (sm : Int)
      case neg =>
        have gq : (m3 != (sm : Int)) = true := by simpa using hq
        have HSp2 : Hid (splitE t s = .bare 10) := Lib.hid (by rw [HSp.out, if_neg hq])
        clear hq
        go_wp2_with fail
        go_quiet (fail)
        go_wp2_with fail
        go_ret3
        exact ⟨_, _, _, rfl, by rw [HSp2.out]; exact ⟨by decide, rfl⟩, fun h => (by rw [HSp2.out] at h; cases h), Bdn hb4' _⟩
      have gq : (m3 != (sm : Int)) = false := by simpa using hq
      have HSp2 : Hid (splitE t s = .nil) := Lib.hid (by rw [HSp.out, if_pos hq])
      have HSt := Lib.hid (fun W (h : Below w.heap.size w W) => split1_any B bd 10 W (X.out _ h).2 (by omega))
      clear hq
      go_wp2_with fail
      refine (HSt.out _ hb4').mono ?_
      rintro e w5 ⟨rfl, hown5, hb5⟩
      go_wp2_with fail
      go_ret3
      exact ⟨_, _, _, rfl, by rw [HSp2.out]; rfl, fun _ => ⟨by rw [HNs.out]; exact (HOwn.out.below hb34).below hb5, by rw [HLs.out]; exact hown5.base hb4'.size⟩, hb4'.trans (hb5.mono hb4'.size)⟩
/-- What data.Each answers. -/
theorem lineF_last {bad : Nat → Nat} {ls : List Str} {k : Nat} (h : k + 1 = ls.length) {x : Str} (hx : ls[k]? = some x) (hn : x ≠ []) : lineF bad ls k = 1 := by
  unfold lineF; rw [if_pos h, if_neg (by rw [hx]; simpa using hn)]
theorem lineF_end {bad : Nat → Nat} {ls : List Str} {k : Nat} (h : k + 1 = ls.length) (hx : ls[k]? = some []) : lineF bad ls k = 0 := by
  unfold lineF; rw [if_pos h, if_pos hx]
theorem lineF_mid {bad : Nat → Nat} {ls : List Str} {k : Nat} (h : k + 1 ≠ ls.length) : lineF bad ls k = bad k := by unfold lineF; rw [if_neg h]
set_option maxHeartbeats 2000000 in
set_option maxRecDepth 20000 in
theorem dataEach_any (E : Nat → Addr) (B : Nat) (v : Value) (ls : List Str) (f : FuncId) (caps : Array Value) (bad : Nat → Nat) (J : Nat → World → Prop) (n₀ : Nat) (w : World) (hE : Errs [1] E B w) (hBn : B ≤ n₀) (hn₀ : n₀ ≤ w.heap.size) (hf : Clo Tryz.prog f) (w0 : World) (hl : StrsAt w0 v ls) (h0n : w0.heap.size ≤ n₀) (hb0 : Below w0.heap.size w0 w) (hn : ls.length ≤ 100000) (hJ0 : J 0 w)
    (hdo : ∀ (i : Nat) (s : Str) W, ls[i]? = some s → J i W → Below n₀ w W → Calls Tryz.prog f (#[.int .i64 i, S s] ++ caps) W fun e W' => ∃ ev, e = .returned ev ∧ ErV E W' ev (erOf (bad i)) ∧ (bad i = 0 → J (i + 1) W') ∧ Below n₀ W W') :
    Calls Tryz.prog 136 #[v, .func (.func f) #[] caps] w fun e w' => ∃ ev, e = .returned ev ∧ ErV E w' ev (eachEr bad ls) ∧ (eachEr bad ls = .nil → J (ls.length - 1) w') ∧ Below n₀ w w' := by
  have hif := isIfaceE
  obtain ⟨a, c, b, o, rfl, ha, hc, hcm, hx⟩ := hl
  unfold maxLen at hcm
  have HX := Lib.hid hx
  have HDo := Lib.hid hdo
  have hf' := hf
  unfold Clo at hf'
  clear hx hdo
  have hV := fun W (h : Below n₀ w W) => (hE.below' h hBn).var 1 (by decide)
  simp only [errG] at hV
  have HV := Lib.hid hV
  clear hV
  go_enter Tryz.func136, Tryz.ntmps136
  go_wp2_with fail
  go_loopw [11] (fun i wr => ∃ k : Nat, k ≤ ls.length ∧ k + 1 ≤ ls.length + 1 ∧ i = .int .i64 k ∧ Hid (k < ls.length ∨ ls.length = 0) ∧ Hid (∀ j < k, lineF bad ls j = 0) ∧ Hid (J k wr) ∧ Below n₀ w wr) (fun i _ => ls.length - (intOf i).toNat)
  case atStart => exact ⟨0, by omega, by omega, rfl, Lib.hid (by omega), Lib.hid fun j hj => absurd hj (by omega), Lib.hid hJ0, Below.refl _ _⟩
  case round =>
    obtain ⟨k, hk, -, rfl, hkk, hj, hJk, hb⟩ := hrel
    obtain ⟨wo, rfl⟩ : ∃ wo, wo = wr := ⟨wr, rfl⟩
    by_cases hlt : k < ls.length
    case neg =>
      have h0 : ls.length = 0 := by have := hkk.out; omega
      have hk0 : k = 0 := by omega
      have HE0 : Hid (eachEr bad ls = .nil) := Lib.hid (firstErr_all fun j hj' => by omega)
      have HJ : Hid (J (ls.length - 1) wo) := Lib.hid (by rw [h0]; have := hJk.out; rwa [hk0] at this)
      have f : decide ((k : Int) < (ls.length : Int)) = false := by simp; omega
      clear h0 hk0
      go_wp2_with fail
      go_ret
      exact ⟨_, rfl, by rw [HE0.out]; rfl, fun _ => HJ.out, hb⟩
    obtain ⟨x, hxk⟩ := get_ex hlt
    have hbW := hb0.trans (hb.mono h0n)
    have c1 := HX.out k x hxk 0 _ rfl
    have c1 := (hbW.cell (World.block_lt_of_cell? w0 _ c1)).trans c1
    have i1 := idx_at (c := c) 1 Tryz.underlying39 szStr ha k hlt
    have hk1 : (k : Int) < (ls.length : Int) := by omega
    simp only [Nat.mul_one, Nat.add_zero] at c1 i1
    have HDk := Lib.hid (HDo.out k x wo hxk hJk.out hb)
    have HXk := Lib.hid hxk
    have hs0 : (0 : Int) ≤ (ls.length : Int) - 1 := by omega
    have hs1 : (ls.length : Int) - 1 < (ls.length : Int) := by omega
    clear hxk hbW
    by_cases hlast : k + 1 = ls.length
    case pos =>
      have gk : ((k : Int) == (ls.length : Int) - 1) = true := by simp; omega
      by_cases hx0 : x = []
      case pos =>
        subst hx0
        have HE0 : Hid (eachEr bad ls = .nil) := Lib.hid (firstErr_all fun j hj' => by
          rcases Nat.lt_or_ge j k with h | h
          · exact hj.out j h
          · obtain rfl : j = k := by omega
            exact lineF_end hlast HXk.out)
        have HJ : Hid (J (ls.length - 1) wo) := Lib.hid (by rw [← hlast]; exact hJk.out)
        clear hlast
        go_wp2_with fail
        go_ret
        exact ⟨_, rfl, by rw [HE0.out]; rfl, fun _ => HJ.out, hb⟩
      have gx : (x == []) = false := by simpa using hx0
      have gx2 : x.isEmpty = false := by cases x with | nil => exact absurd rfl hx0 | cons _ _ => rfl
      have HE0 : Hid (eachEr bad ls = .loc 1 k) := Lib.hid (by
        have hf1 := lineF_last (bad := bad) hlast HXk.out hx0
        unfold eachEr
        rw [firstErr_hit hlt hj.out (by rw [hf1]; decide), hf1])
      clear hlast hx0
      go_wp2_with fail
      refine HDk.out.mono ?_
      rintro e w2 ⟨ev, rfl, hev, -, hb2⟩
      have hb2' := hb.trans hb2
      have v1 := HV.out _ hb2'
      clear c1 hev
      go_wp2_with fail
      go_ret
      have hsz : n₀ ≤ w2.heap.size := Nat.le_trans hn₀ hb2'.size
      exact ⟨_, rfl, by rw [HE0.out]; exact ErV.fresh (by decide) _ _ _ _ rfl, fun h => (by rw [HE0.out] at h; cases h), hb2'.alloc hsz _⟩
    have gk : ((k : Int) == (ls.length : Int) - 1) = false := by simp; omega
    have hmid := lineF_mid (bad := bad) hlast
    by_cases hbk : bad k = 0
    case pos =>
      have HJ1 : Hid (∀ j < k + 1, lineF bad ls j = 0) := Lib.hid fun j hj' => (by
        rcases Nat.lt_or_ge j k with h | h
        · exact hj.out j h
        · obtain rfl : j = k := by omega
          exact hmid.trans hbk)
      have HK1 : Hid (k + 1 < ls.length ∨ ls.length = 0) := Lib.hid (by omega)
      have HBk := Lib.hid hbk
      clear hmid hbk hlast
      go_wp2_with fail
      refine HDk.out.mono ?_
      rintro e w2 ⟨ev, rfl, hev, hjj, hb2⟩
      rw [HBk.out] at hev
      obtain rfl : ev = .nilIface := hev
      have hb2' := hb.trans hb2
      have HJn := Lib.hid (hjj HBk.out)
      clear c1 hjj
      go_wp2_with fail
      go_roundw
      case rel => exact ⟨k + 1, by omega, by omega, by go_num, HK1, HJ1, HJn, hb2'⟩
      case measure => simp [intOf]; omega
    have HE0 : Hid (eachEr bad ls = .loc (bad k) k) := Lib.hid (by
      unfold eachEr
      rw [firstErr_hit hlt hj.out (by rw [hmid]; exact hbk), hmid])
    have HBk := Lib.hid hbk
    clear hmid hbk hlast
    go_wp2_with fail
    refine HDk.out.mono ?_
    rintro e w2 ⟨ev, rfl, hev, -, hb2⟩
    rw [show erOf (bad k) = .bare (bad k) from if_neg HBk.out] at hev
    obtain ⟨hcr, rfl⟩ := hev
    have hb2' := hb.trans hb2
    have HCr := Lib.hid hcr
    clear c1 hcr
    go_wp2_with fail
    go_ret
    have hsz : n₀ ≤ w2.heap.size := Nat.le_trans hn₀ hb2'.size
    exact ⟨_, rfl, by rw [HE0.out]; exact ErV.fresh HCr.out _ _ _ _ rfl, fun h => (by rw [HE0.out] at h; cases h), hb2'.alloc hsz _⟩
end Go.Proofs.YtpfohfihkmjnaaaGreatDoor
namespace Go.Proofs.YtpfohfihkmjnaaaGreatDoor
open Go.RowKit

set_option maxHeartbeats 2000000 in
set_option maxRecDepth 20000 in
theorem dataFits_any (v : Value) (n0 n1 n2 n3 : Int) (u : Value) (keys : List Int) (w : World) (hl : IntsAt w v [n0, n1, n2, n3]) (hk : IntsAt w u keys) (hn : keys.length ≤ 100000) :
    Calls Tryz.prog 139 #[v, u] w fun e w' => e = .returned (.bool (decide (fitsI [n0, n1, n2, n3] keys))) ∧ Below w.heap.size w w' := by
  obtain ⟨a4, c4, b4, o4, hv4, ha4, hc4, hcm4, hx4⟩ := hl
  subst hv4
  obtain rfl := ha4 (by simp)
  have z0 := hx4 0 _ rfl 0 _ rfl
  have z1 := hx4 1 _ rfl 0 _ rfl
  have z2 := hx4 2 _ rfl 0 _ rfl
  simp only [Nat.mul_one, Nat.add_zero] at z0 z1 z2
  have hl4 : [n0, n1, n2, n3].length = 4 := rfl
  rw [hl4]
  clear hx4 ha4 hc4 hcm4 hl4
  have hf : fitsI [n0, n1, n2, n3] keys ↔ n0 = keys.length ∧ n1 = (endsI keys).1 ∧ n2 = (endsI keys).2 := Iff.rfl
  by_cases h0 : keys = []
  · subst h0
    obtain ⟨a, c, rfl, -, -⟩ := hk.form'
    have e0 : endsI [] = (0, 0) := rfl
    rw [e0] at hf
    simp only [List.length_nil] at hf ⊢
    have HF := Lib.hid hf
    clear hf hk e0
    by_cases h1 : n0 = 0
    case neg =>
      have g1 : (n0 == 0) = false := by simpa using h1
      have hd : decide (fitsI [n0, n1, n2, n3] []) = false := decide_eq_false fun h => h1 (HF.out.1 h).1
      rw [hd]
      clear hd h1
      go_enter Tryz.func139, Tryz.ntmps139
      go_wp2_with fail
      go_ret
      exact ⟨rfl, Below.refl _ _⟩
    have g1 : (n0 == 0) = true := by simpa using h1
    by_cases h2 : n1 = 0
    case neg =>
      have g2 : (n1 == 0) = false := by simpa using h2
      have hd : decide (fitsI [n0, n1, n2, n3] []) = false := decide_eq_false fun h => h2 (HF.out.1 h).2.1
      rw [hd]
      clear hd h1 h2
      go_enter Tryz.func139, Tryz.ntmps139
      go_wp2_with fail
      go_ret
      exact ⟨rfl, Below.refl _ _⟩
    have g2 : (n1 == 0) = true := by simpa using h2
    by_cases h3 : n2 = 0
    case neg =>
      have g3 : (n2 == 0) = false := by simpa using h3
      have hd : decide (fitsI [n0, n1, n2, n3] []) = false := decide_eq_false fun h => h3 (HF.out.1 h).2.2
      rw [hd]
      clear hd h1 h2 h3
      go_enter Tryz.func139, Tryz.ntmps139
      go_wp2_with fail
      go_ret
      exact ⟨rfl, Below.refl _ _⟩
    have g3 : (n2 == 0) = true := by simpa using h3
    have hd : decide (fitsI [n0, n1, n2, n3] []) = true := decide_eq_true (HF.out.2 ⟨h1, h2, h3⟩)
    rw [hd]
    clear hd h1 h2 h3
    go_enter Tryz.func139, Tryz.ntmps139
    go_wp2_with fail
    go_ret
    exact ⟨rfl, Below.refl _ _⟩
  · have HMin := Lib.hid (fun q => (minI_any u keys (w.drewN q) (hk.below (Bdn (Below.refl _ _) q)) h0 hn).mono fun e w' (h : _ ∧ w.drewN q = w') => (⟨h.1, h.2.symm⟩ : _ ∧ w' = w.drewN q))
    have HMax := Lib.hid (fun q => (maxI_any u keys (w.drewN q) (hk.below (Bdn (Below.refl _ _) q)) h0 hn).mono fun e w' (h : _ ∧ w.drewN q = w') => (⟨h.1, h.2.symm⟩ : _ ∧ w' = w.drewN q))
    obtain ⟨a, c, rfl, -, -⟩ := hk.form'
    have hpos : 0 < keys.length := List.length_pos_iff.2 h0
    have gk : ((keys.length : Int) == 0) = false := by simp; omega
    obtain ⟨lo, hlo⟩ : ∃ lo, (endsI keys).1 = lo := ⟨_, rfl⟩
    obtain ⟨hi, hhi⟩ : ∃ hi, (endsI keys).2 = hi := ⟨_, rfl⟩
    rw [hlo, hhi] at hf
    simp only [hlo, hhi] at HMin HMax
    have HF := Lib.hid hf
    clear hf hk h0 hlo hhi hpos
    by_cases h1 : n0 = keys.length
    case neg =>
      have g1 : (n0 == (keys.length : Int)) = false := by simpa using h1
      have hd : decide (fitsI [n0, n1, n2, n3] keys) = false := decide_eq_false fun h => h1 (HF.out.1 h).1
      rw [hd]
      clear hd h1
      go_enter Tryz.func139, Tryz.ntmps139
      go_wp2_with fail
      go_quiet (first | (go_at_call 133; refine Calls.quiet_of_same (HMin.out _)) | (go_at_call 134; refine Calls.quiet_of_same (HMax.out _)))
      go_wp2_with fail
      go_ret
      exact ⟨rfl, Bdn (Below.refl _ _) _⟩
    have g1 : (n0 == (keys.length : Int)) = true := by simpa using h1
    by_cases h2 : n1 = lo
    case neg =>
      have g2 : (n1 == lo) = false := by simpa using h2
      have hd : decide (fitsI [n0, n1, n2, n3] keys) = false := decide_eq_false fun h => h2 (HF.out.1 h).2.1
      rw [hd]
      clear hd h1 h2
      go_enter Tryz.func139, Tryz.ntmps139
      go_wp2_with fail
      go_quiet (first | (go_at_call 133; refine Calls.quiet_of_same (HMin.out _)) | (go_at_call 134; refine Calls.quiet_of_same (HMax.out _)))
      go_wp2_with fail
      go_ret
      exact ⟨rfl, Bdn (Below.refl _ _) _⟩
    have g2 : (n1 == lo) = true := by simpa using h2
    by_cases h3 : n2 = hi
    case neg =>
      have g3 : (n2 == hi) = false := by simpa using h3
      have hd : decide (fitsI [n0, n1, n2, n3] keys) = false := decide_eq_false fun h => h3 (HF.out.1 h).2.2
      rw [hd]
      clear hd h1 h2 h3
      go_enter Tryz.func139, Tryz.ntmps139
      go_wp2_with fail
      go_quiet (first | (go_at_call 133; refine Calls.quiet_of_same (HMin.out _)) | (go_at_call 134; refine Calls.quiet_of_same (HMax.out _)))
      go_wp2_with fail
      go_ret
      exact ⟨rfl, Bdn (Below.refl _ _) _⟩
    have g3 : (n2 == hi) = true := by simpa using h3
    have hd : decide (fitsI [n0, n1, n2, n3] keys) = true := decide_eq_true (HF.out.2 ⟨h1, h2, h3⟩)
    rw [hd]
    clear hd h1 h2 h3
    go_enter Tryz.func139, Tryz.ntmps139
    go_wp2_with fail
    go_quiet (first | (go_at_call 133; refine Calls.quiet_of_same (HMin.out _)) | (go_at_call 134; refine Calls.quiet_of_same (HMax.out _)))
    go_wp2_with fail
    go_ret
    exact ⟨rfl, Bdn (Below.refl _ _) _⟩
end Go.Proofs.YtpfohfihkmjnaaaGreatDoor
namespace Go.Proofs.YtpfohfihkmjnaaaGreatDoor
open Go.RowKit

def rowD (s : Str) : Rw := (rowRead s).1
def keysR (l : List Rw) : List Int := l.map (·.key)
def dataBad (ls : List Str) (i : Nat) : Nat :=
  match ls[i]? with
  | none => 0
  | some s => if (rowRead s).2 ≠ 0 then (rowRead s).2 else if 0 < i ∧ ∃ t, ls[i - 1]? = some t ∧ lessR (rowD s) (rowD t) = true then 9 else 0
def dataE (s : Str) : Er := readEr kData s dataBad (fun l => keysR (l.map rowD))
def dataL (s : Str) : List Rw := if dataE s = .nil then (splitL s).dropLast.map rowD else []
/-- What is made of rows. -/
def rowF (l : List Rw) (i : Nat) : Nat := match l[i]? with | none => 0 | some r => rowCheck r
def makeE (l : List Rw) : Er := if 40 < l.length then .bare 8 else firstErr (rowF l) l.length
def dataText (l : List Rw) : Str := wholeT kData (keysR l) (bodyT (l.map rowLine))
def makeT (l : List Rw) : Str := if makeE l = .nil then wholeT kData (keysR l) (bodyT ((sortR l).map rowLine)) else []

theorem ends_perm {l m : List Int} (h : l.Perm m) : endsI l = endsI m := by
  by_cases hl : l = []
  · subst hl
    rw [List.Perm.nil_eq h]
  · have hm : m ≠ [] := fun e => hl (by rw [e] at h; exact h.eq_nil)
    obtain ⟨a1, a2, a3⟩ := ends_mem hl
    obtain ⟨b1, b2, b3⟩ := ends_mem hm
    have c1 := b3 _ (h.mem_iff.1 a1)
    have c2 := b3 _ (h.mem_iff.1 a2)
    have c3 := a3 _ (h.mem_iff.2 b1)
    have c4 := a3 _ (h.mem_iff.2 b2)
    apply Prod.ext <;> omega
theorem make_text {l : List Rw} (h : makeE l = .nil) : makeT l = dataText (sortR l) := by
  unfold makeT dataText
  rw [if_pos h]
  have hp : (keysR (sortR l)).Perm (keysR l) := (sort_perm l).map _
  unfold wholeT
  rw [ends_perm hp, hp.length_eq]
theorem rowLine_read {s : Str} (h : (rowRead s).2 = 0) : rowLine (rowRead s).1 = s ∧ rowCheck (rowRead s).1 = 0 := by
  refine ⟨?_, rowRead_check h⟩
  cases ho : rowOf (cutAt 32 s) with
  | none => rw [rowRead_none ho] at h; cases h
  | some r =>
    have he := rowRead_some ho
    by_cases hc : rowCheck r = 0
    case neg => rw [he, if_neg hc] at h; exact absurd h hc
    rw [he, if_pos hc]
    show rowLine r = s
    have hj := join_cut 32 s
    unfold rowOf at ho
    split at ho
    · rename_i p a b hcut
      split at ho
      · rename_i k v hn
        have e := (Option.some.inj ho).symm
        have hi := numsOf_inv hn
        rw [hcut, hi, joinC_itoa] at hj
        rw [e]
        exact hj
      · cases ho
    · cases ho
theorem rowLine_clean {r : Rw} (h : rowCheck r = 0) : (10 : UInt8) ∉ rowLine r := by
  intro hm
  unfold rowLine at hm
  rcases List.mem_append.1 hm with h1 | h1
  · have := (name_sign (rowCheck_zero h).1).1 _ h1
    revert this; decide
  · rcases nums_sign _ _ h1 with e | e | e
    · revert e; decide
    · revert e; decide
    · revert e; decide
theorem rowLine_len' {r : Rw} (h : rowCheck r = 0) : (rowLine r).length ≤ 60 := by
  obtain ⟨h1, h2, h3⟩ := rowCheck_zero h
  have hn := name_sign h1
  have k1 := near h2
  have k2 := near h3
  have l1 := itoa_len r.key (by omega) (by omega)
  have l2 := itoa_len r.val (by omega) (by omega)
  unfold rowLine numsTail
  simp only [List.flatMap_cons, List.flatMap_nil, List.append_nil, List.length_append, List.length_cons]
  omega
theorem map_rowD {l : List Rw} (h : ∀ r ∈ l, rowCheck r = 0) : (l.map rowLine).map rowD = l := by
  rw [List.map_map]
  conv => rhs; rw [← List.map_id l]
  exact List.map_congr_left fun r hr => by
    show (rowRead (rowLine r)).1 = r
    rw [rowRead_line (h r hr)]
theorem data_bad {l : List Rw} (hup : upR l) (h : ∀ r ∈ l, rowCheck r = 0) : ∀ i, i < (l.map rowLine).length → dataBad (l.map rowLine ++ [[]]) i = 0 := by
  intro i hi
  have hi' : i < l.length := by simpa using hi
  unfold dataBad
  rw [List.getElem?_append_left hi, List.getElem?_map, List.getElem?_eq_getElem hi']
  simp only [Option.map_some]
  have e := rowRead_line (h _ (List.getElem_mem hi'))
  unfold rowD
  rw [e]
  simp only [ne_eq, not_true_eq_false, if_false]
  rw [if_neg]
  rintro ⟨h0, t, ht, hle⟩
  rw [List.getElem?_append_left (by omega), List.getElem?_map, List.getElem?_eq_getElem (show i - 1 < l.length by omega)] at ht
  have : t = rowLine (l[i - 1]'(by omega)) := by simpa using ht.symm
  rw [this, rowRead_line (h _ (List.getElem_mem (by omega)))] at hle
  have := List.pairwise_iff_getElem.1 hup (i - 1) i (by omega) hi' (by omega)
  rw [this] at hle
  cases hle
theorem keysR_near {l : List Rw} (h : ∀ r ∈ l, rowCheck r = 0) : ∀ x ∈ keysR l, ¬ farN x := fun x hx => by
  obtain ⟨r, hr, rfl⟩ := List.mem_map.1 hx
  exact (rowCheck_zero (h r hr)).2.1
theorem dataText_len {l : List Rw} (h : ∀ r ∈ l, rowCheck r = 0) (hk : l.length ≤ 40) : (dataText l).length ≤ 2700 := by
  have hs := sumOf_lt (bodyT (l.map rowLine))
  obtain ⟨e1, e2⟩ := ends_within (B := 1073741824) (by omega) fun x hx => near (keysR_near h x hx)
  have hkl : (keysR l).length = l.length := List.length_map _
  have h1 := blk_head_len (word := kData) (keysR l).length (endsI (keysR l)).1 (endsI (keysR l)).2 (sumOf (bodyT (l.map rowLine))) (by decide) (by omega) (by omega) (by omega) (by omega)
  have h2 := body_len (m := 60) (ls := l.map rowLine) fun s hs => by
    obtain ⟨r, hr, rfl⟩ := List.mem_map.1 hs
    exact rowLine_len' (h r hr)
  rw [List.length_map] at h2
  unfold dataText wholeT
  rw [List.length_append, List.length_cons]
  omega
theorem dataRead_text {l : List Rw} (hup : upR l) (h : ∀ r ∈ l, rowCheck r = 0) (hk : l.length ≤ 40) : dataE (dataText l) = .nil ∧ dataL (dataText l) = l := by
  have hm := map_rowD h
  have hlen := dataText_len h hk
  have hkl : (keysR l).length = l.length := List.length_map _
  unfold dataText at hlen
  have hr := readEr_of (word := kData) (ls := l.map rowLine) (bad := dataBad) (keys := fun l => keysR (l.map rowD)) (by decide) (by decide) (fun x hx => by
      obtain ⟨r, hr, rfl⟩ := List.mem_map.1 hx
      exact rowLine_clean (h r hr)) (by simp only [hm]; omega) (by simp only [hm]; omega) (by
      simp only [hm]
      obtain ⟨e1, e2⟩ := ends_within (B := 1073741824) (by omega) fun x hx => near (keysR_near h x hx)
      omega) (data_bad hup h)
  simp only [hm] at hr
  obtain ⟨h1, h2⟩ := hr
  have hE : dataE (dataText l) = .nil := h1
  refine ⟨hE, ?_⟩
  unfold dataL
  rw [if_pos hE]
  unfold dataText
  rw [h2, List.dropLast_concat, hm]
theorem data_line {s : Str} (h : dataE s = .nil) {i : Nat} (hi : i < (splitL s).dropLast.length) : (rowRead (splitL s).dropLast[i]).2 = 0 := by
  obtain ⟨-, e2, -, e4, -⟩ := readEr_text h
  have hb := e4 i (by rw [List.length_dropLast] at hi; omega)
  have hg : (splitL s)[i]? = some (splitL s).dropLast[i] := by
    rw [List.getElem_dropLast, List.getElem?_eq_getElem]
  unfold dataBad at hb
  rw [hg] at hb
  simp only at hb
  split at hb
  · rename_i hne; exact absurd hb hne
  · rename_i hz; simpa using hz
/-- WHAT IS READ WITHOUT AN ERROR IS THE TEXT OF ITS ROWS. -/
theorem data_text {s : Str} (h : dataE s = .nil) : s = dataText (dataL s) ∧ ∀ r ∈ dataL s, rowCheck r = 0 := by
  obtain ⟨e1, -, -, -, -⟩ := readEr_text h
  have hL : dataL s = (splitL s).dropLast.map rowD := by unfold dataL; rw [if_pos h]
  have hlines : (dataL s).map rowLine = (splitL s).dropLast := by
    rw [hL, List.map_map]
    apply List.ext_getElem?
    intro i
    rw [List.getElem?_map]
    rcases Nat.lt_or_ge i (splitL s).dropLast.length with hi | hi
    · rw [List.getElem?_eq_getElem hi]
      simp only [Option.map_some, Function.comp_apply]
      exact congrArg some (rowLine_read (data_line h hi)).1
    · rw [List.getElem?_eq_none hi]; rfl
  refine ⟨?_, fun r hr => ?_⟩
  · unfold dataText
    rw [hlines, hL]
    exact e1
  · rw [hL] at hr
    obtain ⟨x, hx, rfl⟩ := List.mem_map.1 hr
    obtain ⟨i, hi, rfl⟩ := List.getElem_of_mem hx
    exact (rowLine_read (data_line h hi)).2
theorem rows_of_lines {a b : List Rw} (ha : ∀ r ∈ a, rowCheck r = 0) (hb : ∀ r ∈ b, rowCheck r = 0) (h : a.map rowLine = b.map rowLine) : a = b := by
  rw [← map_rowD ha, h, map_rowD hb]
/-- One byte another one: none. -/
theorem data_one {l : List Rw} {i : Nat} {c x : UInt8} (hr : ∀ r ∈ l, rowCheck r = 0) (hx : (dataText l)[i]? = some x) (hne : x ≠ c) : dataE ((dataText l).set i c) ≠ .nil := by
  intro h
  obtain ⟨e, hr'⟩ := data_text h
  have hcl : ∀ (l : List Rw), (∀ r ∈ l, rowCheck r = 0) → ∀ s ∈ l.map rowLine, (10 : UInt8) ∉ s := fun l h s hs => by
    obtain ⟨r, hr, rfl⟩ := List.mem_map.1 hs
    exact rowLine_clean (h r hr)
  exact block_one (word := kData) (by decide) (by decide) (by simp [keysR]) (by simp [keysR]) (hcl _ hr) (hcl _ hr') (fun e => congrArg keysR (rows_of_lines hr hr' e)) hx hne e
theorem makeE_nil {l : List Rw} (h : makeE l = .nil) : l.length ≤ 40 ∧ ∀ r ∈ l, rowCheck r = 0 := by
  unfold makeE at h
  split at h
  · cases h
  refine ⟨by omega, fun r hr => ?_⟩
  obtain ⟨j, hj, he⟩ := List.getElem_of_mem hr
  have := firstErr_nil h j hj
  unfold rowF at this
  rw [List.getElem?_eq_getElem hj, he] at this
  exact this
theorem make_right {l : List Rw} (h : makeE l = .nil) : (sortR l).length ≤ 40 ∧ (∀ r ∈ sortR l, rowCheck r = 0) ∧ upR (sortR l) := by
  obtain ⟨h1, h2⟩ := makeE_nil h
  exact ⟨by rw [sort_len]; exact h1, fun r hr => h2 r ((sort_perm l).mem_iff.1 hr), sort_up l⟩
end Go.Proofs.YtpfohfihkmjnaaaGreatDoor
namespace Go.Proofs.YtpfohfihkmjnaaaGreatDoor
open Go.RowKit Go.Shelf
attribute [local go_sem] Oper.semAt_some

set_option maxRecDepth 100000 in
set_option maxHeartbeats 2000000 in
/-- slices.Values's closure, for every loop body that keeps what lay below n₀. -/
theorem values1R_in (F : Fence) (n : Nat) (h7 : F.fn 148) (hro : F.round = none) (hn : 1 ≤ n) (l Bs n₀ : Nat) (a : Option Addr) (c b o : Nat) (zs : List Rw) (ha : 0 < zs.length → a = some ⟨b, o, none⟩) (hb : 0 < zs.length → b < n₀) (J Jx : List Rw → World → Prop)
    (W : World) (hJ : AbidesFrom W.heap.size J) (hn₀ : n₀ ≤ W.heap.size) (hcm : zs.length ≤ 9223372036854775807)
    (hY : ∀ pre x W1, J pre W1 → pre.length < zs.length → YieldAt F (n - 1) Tryz.prog l #[rowV x] W1 fun e W' =>
      (e = .returned (.bool true) ∧ J (pre ++ [x]) W' ∧ Below n₀ W1 W') ∨ (e = .returned (.bool false) ∧ Jx (pre ++ [x]) W'))
    (hBs : W.cell? ⟨Bs, 0, none⟩ = some (.slice a zs.length c)) (hx : ∀ (k : Nat) (x : Rw), zs[k]? = some x → ∀ (j : Nat) (u : Value), (encR x)[j]? = some u → W.cell? ⟨b, o + k * 3 + j, none⟩ = some u) (h0 : J [] W) :
    CallsIn F n Tryz.prog 148 #[.func (.yield l) #[] #[], .pointer (some ⟨Bs, 0, none⟩)] W fun e W' => (∃ v, e = .returned v) ∧ ((∃ ys, ys = zs ∧ J ys W') ∨ (∃ pre, pre <+: zs ∧ Jx pre W')) := by
  refine callsIn_of_wp Tryz.func148 rfl h7 ?_ hro
  simp only [Tryz.ntmps148, List.size_toArray, List.length_cons, List.length_nil, Nat.reduceAdd, Nat.reduceSub, Array.replicate_succ, Array.replicate_zero, List.push_toArray, List.append_toArray, List.nil_append, List.cons_append]
  gi_wp2
  gi_loopw [7] (fun i wr => ∃ k : Nat, k ≤ zs.length ∧ i = .int .i64 k ∧ J (zs.take k) wr ∧ Below n₀ W wr) (fun i _ => zs.length - (intOf i).toNat)
  case atStart => exact ⟨0, Nat.zero_le _, rfl, h0, Below.refl _ _⟩
  case round =>
    obtain ⟨k, hk, rfl, hJs, hnx⟩ := hrel
    by_cases hlt : k < zs.length
    case neg =>
      obtain rfl : k = zs.length := by omega
      rw [List.take_length] at hJs
      gi_wp2
      go_end0
      exact ⟨⟨_, rfl⟩, .inl ⟨_, rfl, hJs⟩⟩
    obtain ⟨x, hxk⟩ := get_ex hlt
    have hbn := hb (by omega)
    have hcl := fun j u hu => (hnx.cell (p := ⟨b, o + k * 3 + j, none⟩) hbn).trans (hx k x hxk j u hu)
    have c0 := hcl 0 _ rfl
    have c1 := hcl 1 _ rfl
    have c2 := hcl 2 _ rfl
    have i1 := idx_at (c := c) 3 Tryz.underlying44 szRw ha k hlt
    have hk1 : (k : Int) < (zs.length : Int) := by omega
    simp only [Nat.add_zero] at c0 c1 c2
    obtain ⟨e0, e1, e2⟩ := rowCells (r := x) (w := wr) rfl (Below.refl _ _)
    have hJa : J (zs.take k) (wr.alloc (.cells #[S x.part, .int .i64 x.key, .int .i64 x.val] 106)) := hJ _ _ _ none hJs (World.grownBy_alloc wr _ none) (fun r e => by cases e)
    obtain ⟨fn, tmps, assign, body, hy, hR⟩ := hY _ x _ hJa (by rw [List.length_take]; omega)
    have hsn := take_snoc' hxk
    have HSn := Lib.hid hsn
    clear hsn hxk hcl
    gi_wp2
    refine hR.mono ?_
    rintro e W3 (⟨rfl, hJ3, hk3⟩ | ⟨rfl, hJx3⟩)
    · gi_wp2
      go_roundw
      case rel => exact ⟨k + 1, by omega, by simp, by rw [HSn.out]; exact hJ3, (hnx.alloc (Nat.le_trans hn₀ hnx.size) _).trans hk3⟩
      case measure => simp [intOf]; omega
    · gi_wp2
      refine bodyPost_ret (results_none rfl _ _ _) rfl ?_
      exact ⟨⟨_, rfl⟩, .inr ⟨_, by rw [← HSn.out]; exact List.take_prefix _ _, hJx3⟩⟩
theorem valuesR_in (F : Fence) (n : Nat) (h5 : F.fn 106) (hro : F.round = none) (a : Option Addr) (len cap : Nat) (w : World) :
    CallsIn F n Tryz.prog 106 #[.slice a len cap] w fun e w' => e = .returned (.func (.func 148) #[] #[.pointer (some ⟨w.heap.size, 0, none⟩)]) ∧ w' = w.alloc (.cells #[.slice a len cap] 44) := by
  refine callsIn_of_wp Tryz.func106 rfl h5 ?_ hro
  simp only [Tryz.ntmps106, List.size_toArray, List.length_cons, List.length_nil, Nat.reduceAdd, Nat.reduceSub, Array.replicate_succ, Array.replicate_zero, List.push_toArray, List.append_toArray, List.nil_append, List.cons_append]
  gi_wp2
  go_ret
  exact ⟨rfl, rfl⟩
/-- slices.Values(l) hands back a value that yields all of l, in order. -/
theorem valuesR_stops (F : Fence) (n : Nat) (h7 : F.fn 148) (hro : F.round = none) (hn : 1 ≤ n) (Bs n₀ : Nat) (v : Value) (zs : List Rw) (w0 w : World) (hBs : Bs < w.heap.size) (hn₀ : n₀ ≤ w.heap.size)
    (hc : w.cell? ⟨Bs, 0, none⟩ = some v) (hl : RowsAt w0 v zs) (hlow : w0.heap.size ≤ n₀) (hb0 : Below w0.heap.size w0 w) :
    SeqStopsK F n Tryz.prog 148 #[.pointer (some ⟨Bs, 0, none⟩)] (fun x : Rw => #[rowV x]) (Below n₀) (fun ys => ys = zs) (fun pre => pre <+: zs) zs.length w := fun l J Jx W hW hJ _ hY h0 => by
  obtain ⟨a, c, b, o, rfl, ha, hcc, hcm, hx⟩ := hl
  have hbn : 0 < zs.length → b < w0.heap.size := fun h => by
    obtain ⟨x, hxk⟩ := get_ex (l := zs) (k := 0) h
    exact World.block_lt_of_cell? w0 ⟨b, o + 0 * 3 + 0, none⟩ (hx 0 x hxk 0 _ rfl)
  have hbW := hb0.trans (hW.mono hb0.size)
  refine values1R_in F n h7 hro hn l Bs n₀ a c b o zs ha (fun h => Nat.lt_of_lt_of_le (hbn h) hlow) J Jx W hJ (Nat.le_trans hn₀ hW.size) (by unfold maxLen at hcm; omega) hY ((hW.cell (p := ⟨Bs, 0, none⟩) hBs).trans hc) (fun k x hk j u hu => ?_) h0
  have h1 := hx k x hk j u hu
  exact (hbW.cell (World.block_lt_of_cell? w0 _ h1)).trans h1

theorem cells_new3 (w : World) (cs : List Value) (t : TypeId) : ∀ j u, cs[j]? = some u → (w.alloc (.cells cs.toArray t)).cell? ((⟨w.heap.size, 0, none⟩ : Addr).add j) = some u := fun j u hu => by
  rw [add_lit, cell_of_row (w.alloc _) w.heap.size _ cs.toArray t (0, 0) (heap_alloc_new w _)]
  simpa using hu
theorem infoRw : (Tryz.prog.info? 106).map (fun i => (i.zero, i.size, i.bytes)) = some (some (.agg #[.string ByteArray.empty, .int .i64 0, .int .i64 0]), 3, 32) := by kernel_rfl
set_option maxRecDepth 100000 in
set_option maxHeartbeats 2000000 in
/-- slices.AppendSeq(nil, seq): all that seq yields. -/
theorem appendSeqR_in (F : Fence) (n : Nat) (h3 : F.fn 177) (hro : F.round = none) (hn : 3 ≤ n) (gf : Nat) (lb : Array Value) (hFg : F.fn gf) (eg : ∀ args w, (callFunc gf args).run Tryz.prog w = .ok (.enter gf args) w) (zs : List Rw) (hz : zs.length ≤ 100000) (n₀ : Nat) (w : World) (hn₀ : n₀ ≤ w.heap.size)
    (hseq : SeqStopsK F (n - 1) Tryz.prog gf lb (fun x : Rw => #[rowV x]) (Below n₀) (fun ys => ys = zs) (fun pre => pre <+: zs) zs.length w) :
    CallsIn F n Tryz.prog 177 #[.slice none 0 0, .func (.func gf) #[] lb] w fun e w' => ∃ v, e = .returned v ∧ Own encR 106 3 w.heap.size w' v zs ∧ Below w.heap.size w w' := by
  have h1 : 1 ≤ n := by omega
  obtain ⟨i0, hi, hz0, hz1, hz2⟩ := info_parts infoRw
  refine callsIn_of_wp_marks Tryz.func177 rfl h3 ?_ hro
  simp only [Tryz.ntmps177, List.size_toArray, List.length_cons, List.length_nil, Nat.reduceAdd, Nat.reduceSub, Array.replicate_succ, Array.replicate_zero, List.push_toArray, List.append_toArray, List.nil_append, List.cons_append]
  gi_wp2
  have bO := Boxed.new w 44 (.slice none 0 0)
  have hB0 : Below w.heap.size w (w.alloc (.cells #[.slice none 0 0] 44)) := (Below.refl _ w).alloc (Nat.le_refl _) _
  have hsz : (w.alloc (.cells #[.slice none 0 0] 44)).heap.size = w.heap.size + 1 := by simp
  have hseq' : SeqStopsK F (n - 1) Tryz.prog gf lb (fun x : Rw => #[rowV x]) (Below n₀) (fun ys => ys = zs) (fun pre => pre <+: zs) zs.length (w.alloc (.cells #[.slice none 0 0] 44)) := fun l J Jx W hW => hseq l J Jx W (hB0.trans (hW.mono hB0.size))
  obtain ⟨W0, hW0⟩ : ∃ W0, w.alloc (.cells #[.slice none 0 0] 44) = W0 := ⟨_, rfl⟩
  rw [hW0] at bO hB0 hsz hseq' ⊢
  clear hW0
  refine wpIn_rangeFunc_ownH hro h1 (gf := gf) (lb := lb) rfl hFg eg hseq' belowK_t (belowK_b (by omega)) (Below.refl _ _) (fun _ => rfl)
    (fun pre W => (∃ v, Boxed W w.heap.size 44 v ∧ W.ownsRow w.heap.size 106 3 v pre.length (pre.flatMap encR) ∧ True) ∧ Below w.heap.size w W)
    (fun _ _ _ => False)
    (OwnFrom.and (Go.Own.from (holdsRow_own w.heap.size w.heap.size 44 106 3 (fun pre : List Rw => pre.length) (fun pre => pre.flatMap encR) (fun _ _ => True)) _) (ownFrom_below (Nat.le_refl _) (by omega)))
    (fun _ _ _ _ _ hs _ _ => hs)
    ⟨⟨_, bO, World.ownsRow_nil _ _ _ _, trivial⟩, hB0⟩
    (fun x a' W => ∃ Bx, w.heap.size < Bx ∧ W.heap[Bx]? = some (.cells #[S x.part, .int .i64 x.key, .int .i64 x.val] 106 (0, 0)) ∧ a' = { tmps := #[.slice none 0 0, .func (.func gf) #[] lb, .pointer (some ⟨w.heap.size, 0, none⟩), undef, .slice none 0 0, .pointer (some ⟨Bx, 0, none⟩), .func (.func gf) #[] lb, rowV x, undef, undef, undef, undef, undef], defers := [] })
    (fun x a' _ X Y row hs hg hr => by
      obtain ⟨Bx, h1, h2, h3⟩ := hs
      refine ⟨Bx, h1, (hg.block Bx (Array.getElem?_eq_some_iff.1 h2).1 (fun e => ?_)).trans h2, h3⟩
      obtain ⟨_, o, ho, hc⟩ := hr _ e.symm
      rw [h2] at ho; cases ho; cases hc)
    ?assign ?body ?done ?stop
  case assign =>
    rintro l pre x W K ⟨⟨v, hv, hrow, -⟩, hB1⟩ hK
    gi_wp2
    exact hK _ _ ((KeepsOthers.alloc _ _).from _) ((Below.refl _ W).alloc (Nat.le_trans hn₀ hB1.size) _) ⟨⟨v, hv.alloc _, hrow.alloc _, trivial⟩, hB1.alloc hB1.size _⟩ ⟨W.heap.size, hv.lt, World.alloc_heap_new W _, rfl⟩
  case body =>
    rintro l pre x a' W hl ⟨r, hr⟩ ⟨⟨v, hv, hrow, -⟩, hB⟩ ⟨Bx, hBx, bX, rfl⟩ hlt
    have hc := hv.cell
    have c0 : W.cell? ⟨Bx, 0, none⟩ = some (S x.part) := by simp [World.cell?, bX]
    have c1 : W.cell? ⟨Bx, 1, none⟩ = some (.int .i64 x.key) := by simp [World.cell?, bX]
    have c2 : W.cell? ⟨Bx, 2, none⟩ = some (.int .i64 x.val) := by simp [World.cell?, bX]
    gi_wp2_with (gi_at_builtin; refine wpListIn_append_own _ rfl _ _ 44 rfl w.heap.size 106 i0 _ 3 32 Tryz.underlying44 hi hz0 hz1 hz2 rfl (by decide) _ _ _ rfl (hrow.alloc _) ⟨W.heap.size, 0, none⟩ 1 1 (encR x) rfl rfl (cells_new3 _ _ _) (by simp [Value.oneCell']) (by unfold maxLen; omega) (by omega) (by have := hB.size; simp; omega) ?_; intro v' w1 hown' hgrow _; obtain ⟨g', cap', rfl⟩ := ownsRow_succ hown'; obtain ⟨hv1, hv2, hr2, hk2, hb2⟩ := hv.appended (by decide) hrow hB.size (Nat.le_refl _) hown' hgrow; have hc1 := hv1.cell; have hf1 := hv1.frozen)
    exact ⟨hk2.from _, hb2.mono hn₀, ⟨_, hv2, by simpa using hr2, trivial⟩, hB.trans hb2⟩
  case done =>
    rintro D ys W hD rfl ⟨⟨v, hv, hrow, -⟩, hB⟩ hK
    have hc := hv.cell
    gi_wp2
    refine ⟨by simp, .inl ⟨_, _, rfl, run_takeDeferred hK, ?_⟩⟩
    exact ⟨_, results_tmp rfl _ _ _, v, rfl, ownsRow_putObj hrow _ hK rfl, hB.trans (belowK_b (w := w) (Nat.le_refl _) W D _ _ (by omega) hK rfl rfl)⟩
  case stop =>
    rintro D c pre W _ _ h _
    exact h.elim
theorem collectR_in (F : Fence) (n : Nat) (h3 : F.fn 177) (h4 : F.fn 146) (hro : F.round = none) (hn : 4 ≤ n) (gf : Nat) (lb : Array Value) (hFg : F.fn gf) (eg : ∀ args w, (callFunc gf args).run Tryz.prog w = .ok (.enter gf args) w) (zs : List Rw) (hz : zs.length ≤ 100000) (n₀ : Nat) (w : World) (hn₀ : n₀ ≤ w.heap.size)
    (hseq : SeqStopsK F (n - 1 - 1) Tryz.prog gf lb (fun x : Rw => #[rowV x]) (Below n₀) (fun ys => ys = zs) (fun pre => pre <+: zs) zs.length w) :
    CallsIn F n Tryz.prog 146 #[.func (.func gf) #[] lb] w fun e w' => ∃ v, e = .returned v ∧ Own encR 106 3 w.heap.size w' v zs ∧ Below w.heap.size w w' := by
  have h1 : 1 ≤ n := by omega
  refine callsIn_of_wp Tryz.func146 rfl h4 ?_ hro
  simp only [Tryz.ntmps146, List.size_toArray, List.length_cons, List.length_nil, Nat.reduceAdd, Nat.reduceSub, Array.replicate_succ, Array.replicate_zero, List.push_toArray, List.append_toArray, List.nil_append, List.cons_append]
  gi_wp2_with (gi_at_call 177; refine (appendSeqR_in F (n - 1) h3 hro (by omega) gf lb hFg eg zs hz n₀ _ hn₀ hseq).mono ?_; rintro e w' ⟨v, rfl, hown, hb⟩)
  go_ret
  exact ⟨_, rfl, hown, hb⟩
end Go.Proofs.YtpfohfihkmjnaaaGreatDoor
