/- snap.Rows: the walk. deedboxref2.SameFiles. deedboxlaw2.one, listed. A slice that the call owns, and a store into another block. Of no program. snap.First; the statements' own helpers on snaps: OwnSnap, LongSnap, SameSnap, snapped. Snaps that came in: by value, and in a slice. A witness's world that has both: all listed data laid by the function, and the handle that errors.As reads. deedboxref1.ReadRow: the walk. deedboxref3.With: the walk. deedboxref1.SortRows: the walk. -/
import Derived.Test.YtcdcfolhnjgigaaGreatDoorBx12
import Derived.Test.YtcdcfolhnjgigaaGreatDoorBx5
import Derived.Laws.StructEq
import Derived.Test.YtcdcfolhnjgigaaGreatDoorBx9
import Derived.Test.YtcdcfolhnjgigaaGreatDoorBx2
import Derived.Test.YtcdcfolhnjgigaaGreatDoorBx13
import Derived.Test.YtcdcfolhnjgigaaGreatDoorBx4
import Derived.Test.YtcdcfolhnjgigaaGreatDoorBx11
import Derived.Lay
import Derived.LaidMore
import Derived.LaidHandle
import Derived.ProofKit
import Derived.Test.YtcdcfolhnjgigaaGreatDoorBx14
import Derived.Test.YtcdcfolhnjgigaaGreatDoorBx1
import Derived.Outline
import Derived.Deep.CutBlock
import Derived.Deep.DeepCutAuto
import Derived.Deep.RegionWith
import Derived.Deep.RegionHeld3
namespace Go.Proofs.YtcdcfolhnjgigaaGreatDoor
open Go.RowKit

def rowsL (l : List Fl) : Int := (l.map fun f => if f.part = [45] then 0 else f.n).sum
def keysL (l : List Fl) : Int := (l.map fun f => if f.part = [45] then f.n else 0).sum
theorem rows_snoc {l : List Fl} {k : Nat} {x : Fl} (h : l[k]? = some x) : rowsL (l.take (k + 1)) = rowsL (l.take k) + (if x.part = [45] then 0 else x.n) ∧ keysL (l.take (k + 1)) = keysL (l.take k) + (if x.part = [45] then x.n else 0) := by
  unfold rowsL keysL
  rw [List.take_add_one, h]
  simp
theorem rows_low {l : List Fl} (h : ∀ f ∈ l, 0 ≤ f.n ∧ f.n ≤ 40) : ∀ k, 0 ≤ rowsL (l.take k) ∧ rowsL (l.take k) ≤ k * 40 ∧ 0 ≤ keysL (l.take k) ∧ keysL (l.take k) ≤ k * 40
  | 0 => by simp [rowsL, keysL]
  | k + 1 => by
    have ih := rows_low h k
    cases hx : l[k]? with
    | none =>
      rw [List.take_add_one, hx]
      simp only [Option.toList_none, List.append_nil]
      omega
    | some x =>
      obtain ⟨e1, e2⟩ := rows_snoc hx
      have hn := h x (List.mem_of_getElem? hx)
      rw [e1, e2]
      split <;> omega
theorem right_n {l : List Fl} (h : RightL l) : ∀ f ∈ l, 0 ≤ f.n ∧ f.n ≤ 40 := fun f hf => by
  obtain ⟨_, _, _, _, hb⟩ := checkF_zero (h.ok f hf)
  unfold boundF at hb
  omega

set_option maxRecDepth 20000 in
set_option maxHeartbeats 1000000 in
theorem snapRows_any (E : Nat → Addr) (B : Nat) (s : Sn) (v : Value) (w : World) (hE : Errs [2, 4, 5, 8, 9] E B w) (hT : LNum B w) (hM : LMax B w) (hl : FilesAt w v s.files) (hs : ∀ x ∈ s.files, midF x) :
    Calls Tryz.prog 39 #[snapV s v] w fun e w' => e = .returned (.tuple #[.int .i64 (if snapCheck s = .nil then rowsL s.files else 0), .int .i64 (if snapCheck s = .nil then keysL s.files else 0)]) ∧ Below w.heap.size w w' := by
  have hBw := hE.le
  have hif := isIfaceE
  obtain ⟨rv, hrv⟩ : ∃ rv, (if snapCheck s = .nil then rowsL s.files else 0) = rv := ⟨_, rfl⟩
  obtain ⟨kv, hkv⟩ : ∃ kv, (if snapCheck s = .nil then keysL s.files else 0) = kv := ⟨_, rfl⟩
  rw [hrv, hkv]
  have HRv := Lib.hid hrv
  have HKv := Lib.hid hkv
  clear hrv hkv
  have hb0 : Below w.heap.size w (w.alloc (.cells #[.int .i64 s.id, .int .i64 s.parent, .int .i64 s.seq, .int .i64 s.day, .int .i64 s.index, S s.op, v] 58)) := (Below.refl _ _).alloc (Nat.le_refl _) _
  have CS := Lib.hid (fun w6 (h : Below (w.alloc (.cells #[.int .i64 s.id, .int .i64 s.parent, .int .i64 s.seq, .int .i64 s.day, .int .i64 s.index, S s.op, v] 58)).heap.size (w.alloc (.cells #[.int .i64 s.id, .int .i64 s.parent, .int .i64 s.seq, .int .i64 s.day, .int .i64 s.index, S s.op, v] 58)) w6) => snapCells h)
  obtain ⟨c0, c1, c2, c3, c4, c5, c6⟩ := CS.out _ (Below.refl _ _)
  have hC := snapCheck_any E B s v (w.alloc (.cells #[.int .i64 s.id, .int .i64 s.parent, .int .i64 s.seq, .int .i64 s.day, .int .i64 s.index, S s.op, v] 58)) (hE.below' hb0 hBw) (hT.below' hb0 hBw) (hM.below' hb0 hBw) (hl.below hb0) hs
  have HC := Lib.hid hC; clear hC
  obtain ⟨a, c, b, o, rfl, ha, hc, hcm, hx⟩ := hl
  unfold maxLen at hcm
  go_enter Tryz.func39, Tryz.ntmps39
  go_wp2_with fail
  generalize w.alloc (.cells #[.int .i64 s.id, .int .i64 s.parent, .int .i64 s.seq, .int .i64 s.day, .int .i64 s.index, S s.op, .slice a s.files.length c] 58) = w1 at *
  refine HC.out.mono ?_
  rintro e w2 ⟨ev, rfl, hev, hb2⟩
  have hb2' := hb0.trans (hb2.mono hb0.size)
  by_cases hck : snapCheck s = .nil
  case neg =>
    obtain ⟨u, x, rfl⟩ := hev.iface hck
    obtain rfl : rv = 0 := by rw [← HRv.out, if_neg hck]
    obtain rfl : kv = 0 := by rw [← HKv.out, if_neg hck]
    clear hck hev c0 c1 c2 c3 c4 c5 c6
    go_wp2_with fail
    go_ret2
    exact ⟨rfl, hb2'⟩
  have HRv' : Hid (rowsL s.files = rv) := Lib.hid (by rw [← HRv.out, if_pos hck])
  have HKv' : Hid (keysL s.files = kv) := Lib.hid (by rw [← HKv.out, if_pos hck])
  clear HRv HKv
  have hR := ((snap_iff s).1 hck).lst
  have hn60 := hR.len
  have hrn := rows_low (right_n hR)
  have HRn := Lib.hid hrn
  rw [hck] at hev
  obtain rfl : ev = .nilIface := hev
  clear c0 c1 c2 c3 c4 c5 c6 hrn hR hck
  have c6 := (CS.out _ hb2).2.2.2.2.2.2
  obtain ⟨fl, hfl⟩ : ∃ fl, s.files = fl := ⟨_, rfl⟩
  rw [hfl] at hx ha hc c6 HRn hn60 HRv' HKv' ⊢
  clear hfl HC
  go_wp2_with fail
  clear c6
  go_loopw [4, 5, 14] (fun r q i wr => ∃ k : Nat, k ≤ fl.length ∧ i = .int .i64 k ∧ r = .int .i64 (rowsL (fl.take k)) ∧ q = .int .i64 (keysL (fl.take k)) ∧ Below w.heap.size w wr) (fun _ _ i _ => fl.length - (intOf i).toNat)
  case atStart => exact ⟨0, by omega, rfl, rfl, rfl, hb2'⟩
  case round =>
    obtain ⟨k, hk, rfl, rfl, rfl, hb⟩ := hrel
    by_cases hlt : k < fl.length
    case neg =>
      obtain rfl : k = fl.length := by omega
      have f : decide ((fl.length : Int) < (fl.length : Int)) = false := by simp
      rw [List.take_length, HRv'.out, HKv'.out]
      go_wp2_with fail
      go_ret2
      exact ⟨rfl, hb⟩
    obtain ⟨x, hxk⟩ := get_ex hlt
    obtain ⟨q0, q1, q2, q3, q4, q5⟩ := flCells hx hb hxk
    have i1 := idx_at (c := c) 6 Tryz.underlying56 szFl ha k hlt
    have f : (k : Int) < (fl.length : Int) := by omega
    obtain ⟨s1, s2⟩ := rows_snoc hxk
    obtain ⟨r1, r2, r3, r4⟩ := HRn.out k
    obtain ⟨r5, r6, r7, r8⟩ := HRn.out (k + 1)
    have HS1 := Lib.hid s1; have HS2 := Lib.hid s2
    obtain ⟨p0, p1, p2, -⟩ := fileCells (w := wr) (f := x) rfl (Below.refl _ _)
    have hbA : Below w.heap.size w (wr.alloc (fileO x)) := hb.alloc hb.size _
    clear hxk s1 s2
    go_upto_region 7 with fail
    generalize wr.alloc (fileO x) = wA at *
    clear q0 q1 q2 q3 q4 q5
    by_cases hp : x.part = [45]
    · have g : (x.part == [45]) = true := by simpa using hp
      have e1 := HS1.out; have e2 := HS2.out
      rw [if_pos hp] at e1 e2
      rw [e2] at r8
      have E1 : Hid (rowsL (fl.take k) = rowsL (fl.take (k + 1))) := Lib.hid (by rw [e1]; omega)
      have E2 : Hid (keysL (fl.take k) + x.n = keysL (fl.take (k + 1))) := Lib.hid e2.symm
      have hxn : 0 ≤ x.n + keysL (fl.take k) := by omega
      clear e1 e2 hp r5 r6 r7
      generalize rowsL (fl.take k) = rk at *
      generalize keysL (fl.take k) = kk at *
      go_wp2_with fail
      go_roundw
      case rel => exact ⟨k + 1, by omega, by go_num, by rw [E1.out], by rw [E2.out], hbA⟩
      case measure => simp [intOf]; omega
    · have g : (x.part == [45]) = false := by simpa using hp
      have e1 := HS1.out; have e2 := HS2.out
      rw [if_neg hp] at e1 e2
      rw [e1] at r5 r6
      have E1 : Hid (rowsL (fl.take k) + x.n = rowsL (fl.take (k + 1))) := Lib.hid e1.symm
      have E2 : Hid (keysL (fl.take k) = keysL (fl.take (k + 1))) := Lib.hid (by rw [e2]; omega)
      clear e1 e2 hp r7 r8
      generalize rowsL (fl.take k) = rk at *
      generalize keysL (fl.take k) = kk at *
      go_wp2_with fail
      go_roundw
      case rel => exact ⟨k + 1, by omega, by go_num, by rw [E1.out], by rw [E2.out], hbA⟩
      case measure => simp [intOf]; omega
end Go.Proofs.YtcdcfolhnjgigaaGreatDoor
namespace Go.Proofs.YtcdcfolhnjgigaaGreatDoor
open Go.RowKit

theorem fl_equalIn (x y : Fl) (w : World) : (Op.equalIn 10000 69 (fileV x) (fileV y)).run Tryz.prog w = .ok (decide (x = y)) w := by
  have uS := Tryz.underlying9
  have uI := Tryz.underlying3
  have aS := Tryz.isAgg9
  have aI := Tryz.isAgg3
  have zS := Tryz.sizeOf9
  have zI := Tryz.sizeOf3
  have hS : Tryz.prog.underlying 69 = some (.struct (Tryz.prog.fieldsOf 69)) := by kernel_rfl
  have hp : Tryz.prog.stoodInHeld 69 = false := by kernel_rfl
  rw [show (10000 : Nat) = 9999 + 1 from rfl, run_equalIn_agg w 9999 69 _ _ hS hp]
  simp only [Program.fieldsOf, Tryz.underlying69]
  go_simp
  cases x with
  | mk p1 q1 n1 a1 b1 s1 =>
  cases y with
  | mk p2 q2 n2 a2 b2 s2 =>
  by_cases h1 : p1 = p2 <;> by_cases h2 : q1 = q2 <;> by_cases h3 : n1 = n2 <;> by_cases h4 : a1 = a2 <;> by_cases h5 : b1 = b2 <;> by_cases h6 : s1 = s2 <;> simp [h1, h2, h3, h4, h5, h6]
theorem fl_neq (x y : Fl) (w : World) : (binOp .neq 69 (fileV x) (fileV y)).run Tryz.prog w = .ok (.bool (!decide (x = y))) w := by
  rw [run_neq_struct, fl_equalIn]; rfl
theorem fl_eql (x y : Fl) (w : World) : (binOp .eql 69 (fileV x) (fileV y)).run Tryz.prog w = .ok (.bool (decide (x = y))) w := by
  rw [run_eql_struct, fl_equalIn]; rfl
theorem fl_guard : Tryz.prog.eqGuardType Tryz.prog.depth 69 = false := by kernel_rfl
set_option maxRecDepth 20000 in
theorem sameFiles_any (v u : Value) (l m : List Fl) (w : World) (hl : FilesAt w v l) (hm : FilesAt w u m) :
    Calls Tryz.prog 113 #[v, u] w fun e w' => e = .returned (.bool (decide (l = m))) ∧ Below w.heap.size w w' := by
  obtain ⟨a, c, b, o, rfl, ha, hc, hcm, hx⟩ := hl
  obtain ⟨a', c', b', o', rfl, ha', hc', hcm', hx'⟩ := hm
  unfold maxLen at hcm hcm'
  by_cases hlen : l.length = m.length
  case neg =>
    have hne : ((l.length : Int) != (m.length : Int)) = true := by simp; omega
    go_enter Tryz.func113, Tryz.ntmps113
    go_wp2_with fail
    go_ret
    exact ⟨ret_bool (decide_eq_false fun e => hlen (by rw [e])).symm, Below.refl _ _⟩
  have hne : ((l.length : Int) != (m.length : Int)) = false := by simp [hlen]
  have Hl := Lib.hid hlen; clear hlen
  go_enter Tryz.func113, Tryz.ntmps113
  go_wp2_with fail
  go_loopw [5] (fun i wr => ∃ k : Nat, k ≤ l.length ∧ i = .int .i64 k ∧ Hid (∀ j < k, l[j]? = m[j]?) ∧ Below w.heap.size w wr) (fun i _ => l.length - (intOf i).toNat)
  case atStart => exact ⟨0, by omega, rfl, Lib.hid fun j hj => absurd hj (by omega), Below.refl _ _⟩
  case round =>
    obtain ⟨k, hk, rfl, hj, hb⟩ := hrel
    by_cases hlt : k < l.length
    case neg =>
      obtain rfl : k = l.length := by omega
      go_wp2_with fail
      go_ret
      exact ⟨ret_bool (decide_eq_true (list_ext_upto Hl.out hj.out)).symm, hb⟩
    obtain ⟨x, hxk⟩ := get_ex hlt
    obtain ⟨y, hyk⟩ := get_ex (l := m) (k := k) (by rw [← Hl.out]; exact hlt)
    obtain ⟨c0, c1, c2, c3, c4, c5⟩ := flCells hx hb hxk
    obtain ⟨d0, d1, d2, d3, d4, d5⟩ := flCells hx' hb hyk
    have i1 := idx_at (c := c) 6 Tryz.underlying56 szFl ha k hlt
    have i2 := idx_at (c := c') 6 Tryz.underlying56 szFl ha' k (by rw [← Hl.out]; exact hlt)
    have hk1 : (k : Int) < (l.length : Int) := by omega
    have hn := fl_neq x y
    have hgd := fl_guard
    have Hx := Lib.hid hxk; clear hxk
    have Hy := Lib.hid hyk; clear hyk
    go_wp2_with fail
    go_quiet (fail)
    by_cases he : x = y
    · rw [decide_eq_true he]
      have He := Lib.hid he; clear he
      go_wp2_with fail
      go_roundw
      case rel => exact ⟨k + 1, by omega, by go_num, (Lib.hid fun j hj' => by
        rcases Nat.lt_or_ge j k with h | h
        · exact hj.out j h
        · obtain rfl : j = k := by omega
          rw [Hx.out, Hy.out, He.out]), Bdn hb _⟩
      case measure => simp [intOf]; omega
    · rw [decide_eq_false he]
      have He := Lib.hid he; clear he
      go_wp2_with fail
      go_ret
      refine ⟨ret_bool (decide_eq_false fun e => He.out ?_).symm, Bdn hb _⟩
      have := Hx.out; rw [e, Hy.out] at this; exact (Option.some.inj this).symm
end Go.Proofs.YtcdcfolhnjgigaaGreatDoor
namespace Go.Proofs.YtcdcfolhnjgigaaGreatDoor
open Go.RowKit

abbrev oneF (p : Str) (n : Int) : Fl := ⟨p, [97], 1, 0, 0, n⟩
abbrev pD1 : Str := [100, 97, 116, 97, 47, 49]
abbrev pD2 : Str := [100, 97, 116, 97, 47, 50]
theorem itoa0 : Lib.itoa 0 = [48] := (Lib.itoa_nonneg 0).trans (Lib.decDigits_one (by decide))
theorem itoa1 : Lib.itoa 1 = [49] := (Lib.itoa_nonneg 1).trans (Lib.decDigits_one (by decide))
theorem itoa2 : Lib.itoa 2 = [50] := (Lib.itoa_nonneg 2).trans (Lib.decDigits_one (by decide))
theorem pathD1 : pathF pD1 = some (kData, 1) := by
  have h : numOf [49] = some 1 := by have := numOf_itoa (n := 1) (by decide) (by decide); rwa [itoa1] at this
  have hc : Lib.cut pD1 [47] = (kData, [49], true) := cut_app1 (c := 47) (p := kData) (q := [49]) (by decide)
  unfold pathF
  rw [hc]
  simp only [h]
  rfl
theorem pathD2 : pathF pD2 = some (kData, 2) := by
  have h : numOf [50] = some 2 := by have := numOf_itoa (n := 2) (by decide) (by decide); rwa [itoa2] at this
  have hc : Lib.cut pD2 [47] = (kData, [50], true) := cut_app1 (c := 47) (p := kData) (q := [50]) (by decide)
  unfold pathF
  rw [hc]
  simp only [h]
  rfl
theorem check_one {p : Str} {n : Int} (h : pathF p = some (kData, n)) : checkF (oneF p 1) = 0 := by
  refine checkF_right h ?_ (by unfold boundF farN; simp)
  have : kindF p = kData := by unfold kindF; rw [h]; rfl
  show partOk (kindF p) [97] = true
  rw [this]; decide
theorem keyD1 : keyP pD1 = 2147483649 := by unfold keyP; rw [pathD1]; rfl
theorem keyD2 : keyP pD2 = 2147483650 := by unfold keyP; rw [pathD2]; rfl
theorem right_two : RightL [oneF pD1 1, oneF pD2 1] :=
  ⟨by decide, fun f hf => by
    rcases List.mem_cons.1 hf with rfl | hf
    · exact check_one pathD1
    · obtain rfl := List.mem_singleton.1 hf
      exact check_one pathD2, List.pairwise_cons.2 ⟨fun g hg => by
    obtain rfl := List.mem_singleton.1 hg
    show keyP pD1 < keyP pD2
    rw [keyD1, keyD2]; decide, by simp⟩⟩
theorem text_two : listText [oneF pD1 1, oneF pD2 1] = [100, 97, 116, 97, 47, 49, 32, 97, 32, 49, 32, 48, 32, 48, 32, 49, 10, 100, 97, 116, 97, 47, 50, 32, 97, 32, 49, 32, 48, 32, 48, 32, 49, 10] := by
  simp [listText, fileLine, numsTail, itoa0, itoa1]

theorem file_new (f : Fl) (w : World) (t : TypeId) (H : Nat) (hH : w.heap.size = H) : FilesAt (w.alloc (.cells #[S f.path, S f.part, .int .i64 f.n, .int .i64 f.lo, .int .i64 f.hi, .int .i64 f.seq] t)) (.slice (some ⟨H, 0, none⟩) 1 1) [f] := by
  subst hH
  refine ⟨_, _, w.heap.size, 0, rfl, fun _ => rfl, Nat.le_refl 1, (by decide : 1 ≤ maxLen), fun k z hk j u hu => ?_⟩
  have hk' : k = 0 := by
    rcases Nat.eq_zero_or_pos k with h | h
    · exact h
    · rw [List.getElem?_eq_none (by simp; omega)] at hk; cases hk
  subst hk'
  obtain rfl : f = z := by simpa using hk
  rw [cell_of_row (w.alloc _) w.heap.size _ _ t (0, 0) (heap_alloc_new w _)]
  simpa using hu
end Go.Proofs.YtcdcfolhnjgigaaGreatDoor
namespace Go.Proofs.YtcdcfolhnjgigaaGreatDoor
open Go.RowKit

theorem grown_set (w : World) (g i : Nat) (x : Value) : w.grownBy (w.setCell ⟨g, i, none⟩ x) (some g) := by
  refine ⟨rfl, rfl, rfl, by simp [World.setCell], fun k _ hne => ?_⟩
  have : g ≠ k := fun e => hne (by rw [e])
  simp [World.setCell, Array.getElem?_modify, this]
theorem Own.store {α : Type} {enc : α → List Value} {e : TypeId} {sz B : Nat} {w : World} {v : Value} {l : List α} (h : Own enc e sz B w v l) {g : Nat} (hg : g < B) (i : Nat) (x : Value) : Own enc e sz B (w.setCell ⟨g, i, none⟩ x) v l := by
  refine World.ownsRow.kept h (grown_set w g i x) ?_
  cases hv : v.ownBlock with
  | none => exact .inl rfl
  | some k =>
    refine .inr fun e => ?_
    cases e
    have := (World.ownsRow.lt h g hv).1
    omega
end Go.Proofs.YtcdcfolhnjgigaaGreatDoor
namespace Go.Proofs.YtcdcfolhnjgigaaGreatDoor
open Go.RowKit

def firstSn : Sn := ⟨1, 0, 0, 0, 0, kStart, []⟩
theorem right_first : RightSn firstSn := ⟨by decide, by decide, ⟨by decide, fun f h => absurd h (by simp [firstSn]), by simp [firstSn]⟩, fun f h => absurd h (by simp [firstSn])⟩
theorem text_first : snapText firstSn = [115, 110, 97, 112, 32, 49, 32, 48, 32, 48, 32, 48, 32, 48, 32, 115, 116, 97, 114, 116, 32, 48, 10] := by
  have h : sumOf (listText firstSn.files) = 0 := by decide
  unfold snapText
  rw [h]
  simp [snapHead, numsTail, firstSn, listText, itoa0, itoa1]

theorem snapFirst_any (w : World) : Calls Tryz.prog 43 #[] w fun e w' => e = .returned (snapV firstSn (.slice none 0 0)) ∧ Below w.heap.size w w' := by
  go_enter Tryz.func43, Tryz.ntmps43
  go_wp2_with fail
  exact bodyPost_ret (results_cell_row rfl _ _ w.heap.size _ _ (0, 0) _ rfl (heap_alloc_new w _) Tryz.underlying58 rfl (by kernel_rfl)) rfl ⟨rfl, (Below.refl _ _).alloc (Nat.le_refl _) _⟩

theorem own_low {α : Type} {enc : α → List Value} {e : TypeId} {sz B B' : Nat} {w : World} {v : Value} {l : List α} (h : Own enc e sz B' w v l) (hB : B ≤ B') : Own enc e sz B w v l := by
  obtain ⟨h1, h2⟩ := h
  refine ⟨h1, ?_⟩
  rcases h2 with h0 | ⟨g, cap, cur, hv, hg, rest⟩
  · exact .inl h0
  · exact .inr ⟨g, cap, cur, hv, Nat.le_trans hB hg, rest⟩
set_option maxRecDepth 20000 in
theorem ownSnapO_any (s : Sn) (v : Value) (w : World) (hl : FilesAt w v s.files) (hn : s.files.length ≤ 100000) :
    Calls Tryz.prog 33 #[snapV s v] w fun e w' => ∃ u, e = .returned (snapV s u) ∧ Own encF 69 6 w.heap.size w' u s.files ∧ Below w.heap.size w w' := by
  obtain ⟨w1, hw1⟩ : ∃ w1, w1 = w.alloc (.cells #[.int .i64 s.id, .int .i64 s.parent, .int .i64 s.seq, .int .i64 s.day, .int .i64 s.index, S s.op, v] 58) := ⟨_, rfl⟩
  have hb1 : Below w.heap.size w w1 := hw1 ▸ (Below.refl _ _).alloc (Nat.le_refl _) _
  have hs1 : w1.heap.size = w.heap.size + 1 := by rw [hw1]; simp
  have hba : Below w1.heap.size w1 (w1.alloc (.cells #[.int .i64 0, .int .i64 0, .int .i64 0, .int .i64 0, .int .i64 0, S [], .slice none 0 0] 58)) := (Below.refl _ _).alloc (Nat.le_refl _) _
  have CS := Lib.hid (fun w6 (h : Below w1.heap.size w1 w6) => snapCells (s := s) (v := v) (t := 58) (hw1 ▸ h))
  have HGs := Lib.hid (fun w6 (h : Below w1.heap.size w1 w6) => (h.block w.heap.size (by omega)).trans (hw1 ▸ heap_alloc_new w _ : w1.heap[w.heap.size]? = some (.cells #[.int .i64 s.id, .int .i64 s.parent, .int .i64 s.seq, .int .i64 s.day, .int .i64 s.index, S s.op, v] 58)))
  have HW := Lib.hid hw1
  have CZ := Lib.hid (fun w6 (h : Below (w1.alloc (.cells #[.int .i64 0, .int .i64 0, .int .i64 0, .int .i64 0, .int .i64 0, S [], .slice none 0 0] 58)).heap.size (w1.alloc (.cells #[.int .i64 0, .int .i64 0, .int .i64 0, .int .i64 0, .int .i64 0, S [], .slice none 0 0] 58)) w6) => snapCells (s := zeroSn) (v := .slice none 0 0) h)
  have HGz := Lib.hid (fun w6 (h : Below (w1.alloc (.cells #[.int .i64 0, .int .i64 0, .int .i64 0, .int .i64 0, .int .i64 0, S [], .slice none 0 0] 58)).heap.size (w1.alloc (.cells #[.int .i64 0, .int .i64 0, .int .i64 0, .int .i64 0, .int .i64 0, S [], .slice none 0 0] 58)) w6) => (h.block w1.heap.size (by simp)).trans (heap_alloc_new w1 (.cells #[.int .i64 0, .int .i64 0, .int .i64 0, .int .i64 0, .int .i64 0, S [], .slice none 0 0] 58)))
  have HSz : Hid ((w1.alloc (.cells #[.int .i64 0, .int .i64 0, .int .i64 0, .int .i64 0, .int .i64 0, S [], .slice none 0 0] 58)).heap.size = w.heap.size + 2) := Lib.hid (by simp [hs1])
  go_enter Tryz.func33, Tryz.ntmps33
  obtain ⟨c0, c1, c2, c3, c4, c5, c6⟩ := CS.out _ hba
  go_wp2_with fail
  rw [← HW.out]
  generalize w1.alloc (.cells #[.int .i64 0, .int .i64 0, .int .i64 0, .int .i64 0, .int .i64 0, S [], .slice none 0 0] 58) = w2 at *
  refine (ownFiles_any v s.files w2 (hl.below (hb1.trans (hba.mono hb1.size))) hn).mono ?_
  rintro e w3 ⟨u, rfl, hown, hb3⟩
  have hb13 := hba.trans (hb3.mono hba.size)
  have hb03 := hb1.trans (hb13.mono hb1.size)
  clear c0 c1 c2 c3 c4 c5 c6
  obtain ⟨c0, c1, c2, c3, c4, c5, c6⟩ := CS.out _ hb13
  obtain ⟨d0, d1, d2, d3, d4, d5, d6⟩ := CZ.out _ hb3
  rw [hs1] at d0 d1 d2 d3 d4 d5 d6
  have hg1 := HGs.out _ hb13
  have hg2 := HGz.out _ hb3
  rw [hs1] at hg2
  have f6 : w3.frozen? ⟨w.heap.size, 6, none⟩ = false := frozen_row hg1
  have fz : ∀ j, w3.frozen? ⟨w.heap.size + 1, j, none⟩ = false := fun j => frozen_row hg2
  have e0 := fz 0; have e1 := fz 1; have e2 := fz 2; have e3 := fz 3; have e4 := fz 4; have e5 := fz 5; have e6 := fz 6
  have HG2 := Lib.hid hg2
  clear fz hg1 hg2
  have hne : ¬ (w.heap.size + 1 = w.heap.size) := by omega
  obtain ⟨au, nu, cu, rfl⟩ : ∃ au nu cu, u = .slice au nu cu := by
    obtain ⟨a', c', h', -⟩ := (hown.at encF_enc).form'
    exact ⟨_, _, _, h'⟩
  go_wp2_with fail
  refine bodyPost_ret (results_cell_row rfl _ _ (w.heap.size + 1) 58 #[.int .i64 s.id, .int .i64 s.parent, .int .i64 s.seq, .int .i64 s.day, .int .i64 s.index, S s.op, .slice au nu cu] (0, 0) _ rfl (sev_new ((heap_setCell_other _ _ _ _ (by simp)).trans HG2.out) _ _ _ _ _ _ _) Tryz.underlying58 rfl (by kernel_rfl)) rfl ⟨_, rfl, ?_, ?_⟩
  · have hz := HSz.out
    have k0 : w.heap.size < w2.heap.size := by omega
    have k1 : w.heap.size + 1 < w2.heap.size := by omega
    exact own_low ((((((((hown.store k0 6 _).store k1 0 _).store k1 1 _).store k1 2 _).store k1 3 _).store k1 4 _).store k1 5 _).store k1 6 _) (by omega)
  · exact sev_below (hb03.setCell (p := ⟨w.heap.size, 6, none⟩) (Nat.le_refl _) _) (by omega) _ _ _ _ _ _ _
theorem ownSnap_any (s : Sn) (v : Value) (w : World) (hl : FilesAt w v s.files) (hn : s.files.length ≤ 100000) :
    Calls Tryz.prog 33 #[snapV s v] w fun e w' => ∃ u, e = .returned (snapV s u) ∧ FilesAt w' u s.files ∧ Below w.heap.size w w' :=
  (ownSnapO_any s v w hl hn).mono fun _ _ ⟨u, h1, h2, h3⟩ => ⟨u, h1, h2.at encF_enc, h3⟩

set_option maxRecDepth 20000 in
theorem longSnap_any (s : Sn) (v : Value) (w : World) (hl : FilesAt w v s.files) :
    Calls Tryz.prog 32 #[snapV s v] w fun e w' => (e = .returned (.int .i64 1) ∨ (e = .returned (.int .i64 0) ∧ s.op.length ≤ 30 ∧ s.files.length ≤ 61 ∧ ∀ f ∈ s.files, shortF f)) ∧ Below w.heap.size w w' := by
  have hb0 : Below w.heap.size w (w.alloc (.cells #[.int .i64 s.id, .int .i64 s.parent, .int .i64 s.seq, .int .i64 s.day, .int .i64 s.index, S s.op, v] 58)) := (Below.refl _ _).alloc (Nat.le_refl _) _
  obtain ⟨c0, c1, c2, c3, c4, c5, c6⟩ := snapCells (s := s) (v := v) (t := 58) (Below.refl _ (w.alloc (.cells #[.int .i64 s.id, .int .i64 s.parent, .int .i64 s.seq, .int .i64 s.day, .int .i64 s.index, S s.op, v] 58)))
  have hL := longFiles_any v s.files (w.alloc (.cells #[.int .i64 s.id, .int .i64 s.parent, .int .i64 s.seq, .int .i64 s.day, .int .i64 s.index, S s.op, v] 58)) (hl.below hb0)
  have HL := Lib.hid hL; clear hL
  by_cases h1 : s.op.length ≤ 30
  · have g1 : decide ((30 : Int) < (s.op.length : Int)) = false := by simp; omega
    go_enter Tryz.func32, Tryz.ntmps32
    go_wp2_with fail
    refine HL.out.mono ?_
    rintro e w2 ⟨he, hb2⟩
    have hb2' := hb0.trans (hb2.mono hb0.size)
    clear c0 c1 c2 c3 c4 c5 c6
    rcases he with rfl | ⟨rfl, hlen, hsh⟩
    · go_wp2_with fail
      go_ret
      exact ⟨.inl rfl, hb2'⟩
    · have HS := Lib.hid hsh; clear hsh
      go_wp2_with fail
      go_ret
      exact ⟨.inr ⟨rfl, h1, hlen, HS.out⟩, hb2'⟩
  · have g1 : (30 : Int) < (s.op.length : Int) := by omega
    clear h1
    go_enter Tryz.func32, Tryz.ntmps32
    go_wp2_with fail
    go_ret
    exact ⟨.inl rfl, hb0⟩

theorem sn_ways (a b : Sn) : (decide (a = b) = false ∧ ((a.id != b.id) = true ∨ ((a.id != b.id) = false ∧ ((a.parent != b.parent) = true ∨ ((a.parent != b.parent) = false ∧ ((a.seq != b.seq) = true ∨ ((a.seq != b.seq) = false ∧ ((a.day != b.day) = true ∨ ((a.day != b.day) = false ∧ (a.index != b.index) = true)))))))) ) ∨
    ((a.id != b.id) = false ∧ (a.parent != b.parent) = false ∧ (a.seq != b.seq) = false ∧ (a.day != b.day) = false ∧ (a.index != b.index) = false ∧ decide (a = b) = ((a.op == b.op) && decide (a.files = b.files))) := by
  obtain ⟨a1, a2, a3, a4, a5, a6, a7⟩ := a
  obtain ⟨b1, b2, b3, b4, b5, b6, b7⟩ := b
  by_cases h1 : a1 = b1 <;> by_cases h2 : a2 = b2 <;> by_cases h3 : a3 = b3 <;> by_cases h4 : a4 = b4 <;> by_cases h5 : a5 = b5 <;> simp [h1, h2, h3, h4, h5]
  rw [Bool.eq_iff_iff]; simp
set_option maxHeartbeats 1000000 in
set_option maxRecDepth 20000 in
theorem sameSnap_any (a b : Sn) (u v : Value) (w : World) (ha : FilesAt w u a.files) (hb : FilesAt w v b.files) :
    Calls Tryz.prog 42 #[snapV a u, snapV b v] w fun e w' => e = .returned (.bool (decide (a = b))) ∧ Below w.heap.size w w' := by
  obtain ⟨w1, hw1⟩ : ∃ w1, w1 = w.alloc (.cells #[.int .i64 a.id, .int .i64 a.parent, .int .i64 a.seq, .int .i64 a.day, .int .i64 a.index, S a.op, u] 58) := ⟨_, rfl⟩
  have hb1 : Below w.heap.size w w1 := hw1 ▸ (Below.refl _ _).alloc (Nat.le_refl _) _
  obtain ⟨w2, hw2⟩ : ∃ w2, w2 = w1.alloc (.cells #[.int .i64 b.id, .int .i64 b.parent, .int .i64 b.seq, .int .i64 b.day, .int .i64 b.index, S b.op, v] 58) := ⟨_, rfl⟩
  have hb12 : Below w1.heap.size w1 w2 := hw2 ▸ (Below.refl _ _).alloc (Nat.le_refl _) _
  have hb2 := hb1.trans (hb12.mono hb1.size)
  obtain ⟨c0, c1, c2, c3, c4, c5, c6⟩ := snapCells (s := a) (v := u) (t := 58) (hw1 ▸ hb12)
  obtain ⟨d0, d1, d2, d3, d4, d5, d6⟩ := snapCells (w := w1) (s := b) (v := v) (t := 58) (w6 := w2) (by rw [hw2]; exact Below.refl _ _)
  have hs1 : w1.heap.size = w.heap.size + 1 := by rw [hw1]; simp
  rw [hs1] at d0 d1 d2 d3 d4 d5 d6
  have hS := sameFiles_any u v a.files b.files w2 (ha.below hb2) (hb.below hb2)
  have HSm := Lib.hid hS
  clear hS hs1
  rcases sn_ways a b with ⟨hne, hw⟩ | ⟨g1, g2, g3, g4, g5, he⟩
  · rw [hne]
    clear hne
    rcases hw with g1 | ⟨g1, g2 | ⟨g2, g3 | ⟨g3, g4 | ⟨g4, g5⟩⟩⟩⟩
    all_goals
      go_enter Tryz.func42, Tryz.ntmps42
      go_wp2_with fail
      rw [← hw1, ← hw2]
      go_wp2_with fail
      go_ret
      exact ⟨rfl, hb2⟩
  rw [he]
  clear he
  by_cases ho : a.op = b.op
  · have g6 : (a.op == b.op) = true := by simpa using ho
    rw [g6, Bool.true_and]
    clear ho
    go_enter Tryz.func42, Tryz.ntmps42
    go_wp2_with fail
    rw [← hw1, ← hw2]
    go_wp2_with fail
    refine HSm.out.mono ?_
    rintro e w3 ⟨rfl, hb3⟩
    go_wp2_with fail
    go_ret
    exact ⟨rfl, hb2.trans (hb3.mono hb2.size)⟩
  · have g6 : (a.op == b.op) = false := by simpa using ho
    rw [g6, Bool.false_and]
    clear ho
    go_enter Tryz.func42, Tryz.ntmps42
    go_wp2_with fail
    rw [← hw1, ← hw2]
    go_wp2_with fail
    go_ret
    exact ⟨rfl, hb2⟩

set_option maxRecDepth 20000 in
theorem snapped_any (E : Nat → Addr) (B : Nat) (w : World) (hE : Errs [1, 2, 4, 5, 8, 9, 10] E B w) (hT : LNum B w) (hM : LMax B w) :
    Calls Tryz.prog 31 #[] w fun e w' => e = .returned (.bool true) ∧ Below w.heap.size w w' := by
  have hBw := hE.le
  have hif := isIfaceE
  have htx : snapTextR firstSn = _ := (if_pos ((snap_iff _).2 right_first)).trans text_first
  have hck := (snap_iff _).2 right_first
  have hrd := snapRead_text right_first
  rw [text_first] at hrd
  go_enter Tryz.func31, Tryz.ntmps31
  go_wp2_with fail
  refine (snapFirst_any w).mono ?_
  rintro e w1 ⟨rfl, hb1⟩
  have hT1 := snapText_any E B firstSn (.slice none 0 0) w1 ((hE.sub (by decide)).below' hb1 hBw) (hT.below' hb1 hBw) (hM.below' hb1 hBw) (At.nil _ _ _) (fun x h => absurd h (by simp [firstSn]))
  rw [htx, hck] at hT1
  have HT1 := Lib.hid hT1; have HRd := Lib.hid hrd
  clear hT1 htx hck hrd
  go_wp2_with fail
  refine HT1.out.mono ?_
  rintro e w2 ⟨ev, rfl, hev, hb2⟩
  obtain rfl : ev = .nilIface := hev
  have hb2' := hb1.trans (hb2.mono hb1.size)
  have hR := snapRead_any E B [115, 110, 97, 112, 32, 49, 32, 48, 32, 48, 32, 48, 32, 48, 32, 115, 116, 97, 114, 116, 32, 48, 10] w2 (hE.below' hb2' hBw) (hT.below' hb2' hBw) (hM.below' hb2' hBw) (.inl (by decide)) (by decide)
  rw [HRd.out] at hR
  have HR := Lib.hid hR; clear hR HT1
  go_wp2_with fail
  refine HR.out.mono ?_
  rintro e w3 ⟨u, ev, rfl, hu, hev, hb3⟩
  obtain rfl : ev = .nilIface := hev
  have hb3' := hb2'.trans (hb3.mono hb2'.size)
  obtain ⟨au, nu, cu, rfl⟩ : ∃ au nu cu, u = .slice au nu cu := by
    obtain ⟨a', c', h', -⟩ := hu.form'
    exact ⟨_, _, _, h'⟩
  go_wp2_with fail
  go_ret
  exact ⟨rfl, hb3'.alloc hb3'.size _⟩
end Go.Proofs.YtcdcfolhnjgigaaGreatDoor
namespace Go.Proofs.YtcdcfolhnjgigaaGreatDoor
open Go.ChangeShapes Go.WideShapes Go.ChangeAt Go.RowKit

theorem cellsSnap : Tryz.prog.cellsOf 58 = 7 := by kernel_rfl
theorem cellsFiles : Tryz.prog.cellsOf 56 = 1 := by kernel_rfl
theorem seven_of {α : Type} : ∀ {l : List α}, l.length = 7 → ∃ a b c d e f g, l = [a, b, c, d, e, f, g]
  | [a, b, c, d, e, f, g], _ => ⟨a, b, c, d, e, f, g, rfl⟩
structure SnWf (s : Sn) : Prop where
  id : inI s.id
  parent : inI s.parent
  seq : inI s.seq
  day : inI s.day
  index : inI s.index
  files : ∀ x ∈ s.files, FileWf x
theorem snap_of_trod {H : Type} {enc : TypeId × Value → H} {W : World} {base fuel : Nat} {sp : Nat → Bool} {held : Bool} {cs : List Value} {y : DataW H × List MemPlace} (h : DataW.trod enc Tryz.prog W base sp held fuel 58 cs = some y) :
    ∃ (u : Value) (x : Sn), cs = [.int .i64 x.id, .int .i64 x.parent, .int .i64 x.seq, .int .i64 x.day, .int .i64 x.index, S x.op, u] ∧ FilesAt W u x.files ∧ SnWf x := by
  obtain ⟨xs, n, _, _, hl, hxs, hf⟩ := DataW.trod_struct Tryz.underlying58 h
  rw [cellsSnap] at hl
  obtain ⟨c0, c1, c2, c3, c4, c5, c6, rfl⟩ := seven_of hl
  have f0 := hf 0 _ rfl
  have f1 := hf 1 _ rfl
  have f2 := hf 2 _ rfl
  have f3 := hf 3 _ rfl
  have f4 := hf 4 _ rfl
  have f5 := hf 5 _ rfl
  have f6 := hf 6 _ rfl
  obtain ⟨x0, e0⟩ := some_ix hxs (k := 0) (by decide)
  obtain ⟨x1, e1⟩ := some_ix hxs (k := 1) (by decide)
  obtain ⟨x2, e2⟩ := some_ix hxs (k := 2) (by decide)
  obtain ⟨x3, e3⟩ := some_ix hxs (k := 3) (by decide)
  obtain ⟨x4, e4⟩ := some_ix hxs (k := 4) (by decide)
  obtain ⟨x5, e5⟩ := some_ix hxs (k := 5) (by decide)
  obtain ⟨x6, e6⟩ := some_ix hxs (k := 6) (by decide)
  rw [e0] at f0; rw [e1] at f1; rw [e2] at f2; rw [e3] at f3; rw [e4] at f4; rw [e5] at f5; rw [e6] at f6
  obtain ⟨m0, h0, _, w0⟩ := DataW.trod_int Tryz.underlying3 f0
  obtain ⟨m1, h1, _, w1⟩ := DataW.trod_int Tryz.underlying3 f1
  obtain ⟨m2, h2, _, w2⟩ := DataW.trod_int Tryz.underlying3 f2
  obtain ⟨m3, h3, _, w3⟩ := DataW.trod_int Tryz.underlying3 f3
  obtain ⟨m4, h4, _, w4⟩ := DataW.trod_int Tryz.underlying3 f4
  obtain ⟨s5, h5, _, _⟩ := DataW.trod_string Tryz.underlying9 f5
  obtain ⟨u, l, h6, ha, hw⟩ := slice_came encF 6 (by decide) _ _ Tryz.underlying56 cellsFile FileWf (fun _ _ _ _ _ ht => file_of_trod ht) f6
  simp [cellsStrF, cellsInt, cellsFiles] at h0 h1 h2 h3 h4 h5 h6
  subst h0 h1 h2 h3 h4 h5 h6
  exact ⟨_, ⟨m0, m1, m2, m3, m4, s5.data.toList, l⟩, by simp, ha, ⟨bounds_i64 w0, bounds_i64 w1, bounds_i64 w2, bounds_i64 w3, bounds_i64 w4, hw⟩⟩
set_option maxRecDepth 100000 in
/-- A snap by value. -/
theorem snap_came {H : Type} {enc : TypeId × Value → H} {W : World} {base : Nat} {sp : Nat → Bool} {v : Value} {d : DataW H} {p : List MemPlace} (hv : Value.okWide Tryz.prog W .any base 58 v)
    (h : DataW.Trod enc Tryz.prog W 0 sp true 58 v d p) : ∃ u s, v = snapV s u ∧ FilesAt W u s.files ∧ SnWf s := by
  obtain ⟨cs, rfl, hsz⟩ := okWide_struct Tryz.underlying58 hv
  obtain ⟨fuel, hf⟩ := h
  obtain ⟨u, x, h1, h2, h3⟩ := snap_of_trod hf
  refine ⟨u, x, ?_, h2, h3⟩
  simp only [Value.cells] at h1
  exact congrArg Value.agg (Array.toList_inj.1 h1)
end Go.Proofs.YtcdcfolhnjgigaaGreatDoor
namespace Go.Proofs.YtcdcfolhnjgigaaGreatDoor
open Go.ChangeShapes Go.WideShapes Go.ChangeAt Go.RowKit

theorem laidMet_layVars_all {P : Program} {w0 w' : World} {l : List (String × DataW Unit)} (hh : w'.heap = (w0.layVars P l).heap) (hf : w0.layFits P l [] = true) (hi : w0.layIfaces P l w' = true) : laidMet P l w' := by
  have e1 : (l.filter fun x => (l.map (·.1)).contains x.1) = l := List.filter_eq_self.2 fun x hx => List.contains_iff_mem.2 (List.mem_map.2 ⟨x, hx, rfl⟩)
  have e2 : (l.filter fun x => !(l.map (·.1)).contains x.1) = [] := List.filter_eq_nil_iff.2 fun x hx => by rw [List.contains_iff_mem.2 (List.mem_map.2 ⟨x, hx, rfl⟩)]; simp
  exact laidMet_layVars (w0 := w0) (l.map (·.1)) [] (by rw [e1]; exact hh) (by rw [e1]; exact hf) (by rw [e1]; exact hi) (by rw [e2]; exact LaidIn.none)

/-- The world at the beginning, the handle laid. -/
noncomputable def handleW (os : Os) : World := (World.holding Tryz.prog os ⟨#[], #[], []⟩).setCell ⟨13, 0, none⟩ (.iface 280 (.agg #[.pointer (some ⟨21, 27, none⟩)]))
noncomputable def witW (os : Os) (l : List (String × DataW Unit)) : World := (handleW os).layVars Tryz.prog (l.filter fun x => x.2.handleName?.isNone)
theorem witW_os (os : Os) (l : List (String × DataW Unit)) : (witW os l).os = os := World.layVars_os _ _ _
theorem witW_met (os : Os) (l : List (String × DataW Unit)) (args : Array Value) (hf : (handleW os).layFits Tryz.prog (l.filter fun x => x.2.handleName?.isNone) [] = true) (hi : (handleW os).layIfaces Tryz.prog (l.filter fun x => x.2.handleName?.isNone) (witW os l) = true)
    (hh : (l.filter fun x => x.2.handleName?.isSome).all (handleAtB Tryz.prog ((witW os l).forCall (fun _ _ => 0) ⟨#[], args, []⟩).memory) = true) :
    laidMetH Tryz.prog l ((witW os l).forCall (fun _ _ => 0) ⟨#[], args, []⟩).memory := by
  have h : laidMet Tryz.prog (l.filter fun x => x.2.handleName?.isNone) (witW os l) := laidMet_layVars_all (w0 := handleW os) rfl hf hi
  exact laidMetH_of_parts (h.of_heap (by simp [World.memory, World.forCall, Input.heap])) hh
end Go.Proofs.YtcdcfolhnjgigaaGreatDoor
namespace Go.Proofs.YtcdcfolhnjgigaaGreatDoor
open Go.RowKit

set_option maxHeartbeats 1000000 in
set_option maxRecDepth 20000 in
theorem refReadRow_any (s : Str) (w : World) (hs : s.length ≤ 10000) :
    Calls Tryz.prog 54 #[S s] w fun e w' => e = .returned (.tuple #[rowV (rowRead s).1, .int .i64 ((rowRead s).2 : Nat)]) ∧ Below w.heap.size w w' := by
  have hwl : (cutAt 32 s).length ≤ 10001 := by
    have := cutAt_length 32 s
    have h2 : s.count 32 ≤ s.length := List.count_le_length
    omega
  have hwp : 0 < (cutAt 32 s).length := by rw [cutAt_length]; omega
  have hws : ∀ p ∈ cutAt 32 s, p.length ≤ 10000 := fun p hp => by
    have := cutAt_mem_len (c := 32) hp; omega
  have hba : Below w.heap.size w (w.alloc (.cells #[S [], .int .i64 0, .int .i64 0] 36)) := (Below.refl _ _).alloc (Nat.le_refl _) _
  have hsp := cut32_any s (w.alloc (.cells #[S [], .int .i64 0, .int .i64 0] 36)) (by omega)
  have hcs := fun w6 (h : Below (w.alloc (.cells #[S [], .int .i64 0, .int .i64 0] 36)).heap.size (w.alloc (.cells #[S [], .int .i64 0, .int .i64 0] 36)) w6) => rowCells (r := zeroR) rfl h
  have CZ := Lib.hid hcs; clear hcs
  have hhg := fun w6 (h : Below (w.alloc (.cells #[S [], .int .i64 0, .int .i64 0] 36)).heap.size (w.alloc (.cells #[S [], .int .i64 0, .int .i64 0] 36)) w6) => (h.block w.heap.size (by simp)).trans (heap_alloc_new w (.cells #[S [], .int .i64 0, .int .i64 0] 36))
  have HG := Lib.hid hhg; clear hhg
  by_cases h6 : (cutAt 32 s).length = 3
  case neg =>
    have HF := Lib.hid (rowRead_none (rowOf_len h6))
    have g6 : (((cutAt 32 s).length : Int) != 3) = true := by simp; omega
    clear hws
    go_enter Tryz.func54, Tryz.ntmps54
    go_wp2_with fail
    generalize w.alloc (.cells #[S [], .int .i64 0, .int .i64 0] 36) = w1 at *
    refine hsp.mono ?_
    rintro e w2 ⟨v', rfl, hown, hb2⟩
    have hb2' := hba.trans (hb2.mono hba.size)
    obtain ⟨g', cap, cur, rfl, -⟩ := hown.open hwp
    obtain ⟨c0, c1, c2⟩ := CZ.out _ hb2
    have hg2 := HG.out _ hb2
    have fz : ∀ j, w2.frozen? ⟨w.heap.size, j, none⟩ = false := fun j => frozen_row hg2
    have f0 := fz 0; have f1 := fz 1; have f2 := fz 2
    have HGz := Lib.hid hg2
    clear fz hg2 hown
    generalize cutAt 32 s = W at *
    go_wp2_with fail
    refine bodyPost_ret (ret_row rfl _ _ w.heap.size 36 #[S [], .int .i64 0, .int .i64 0] (0, 0) _ rfl (thr_new HGz.out _ _ _) Tryz.underlying36 rfl (by kernel_rfl)) rfl ⟨?_, thr_below hb2' (Nat.le_refl _) _ _ _⟩
    rw [HF.out]; rfl
  obtain ⟨p, n1, n2, hW⟩ := three_strs h6
  rw [hW] at hsp hws
  have hfo : rowOf (cutAt 32 s) = match numsOf [n1, n2] with | some [n, lo] => some ⟨p, n, lo⟩ | _ => none := by rw [hW]; rfl
  have HFO := Lib.hid hfo; have HWS := Lib.hid hws
  clear hfo hws hW h6 hwl hwp
  go_enter Tryz.func54, Tryz.ntmps54
  go_wp2_with fail
  generalize w.alloc (.cells #[S [], .int .i64 0, .int .i64 0] 36) = w1 at *
  refine hsp.mono ?_
  rintro e w2 ⟨v', rfl, hown, hb2⟩
  have hb2' := hba.trans (hb2.mono hba.size)
  obtain ⟨a', c', b', o', hv', ha', hc', hcm', hx'⟩ := hown.at encS_enc
  subst hv'
  obtain rfl := ha' (by simp)
  obtain ⟨b3, o3, c3, hrun, hat3⟩ := slice_from (enc := encS) (sz := 1) Tryz.underlying115 szStr ha' hc' hcm' hx' 1 (by simp) (by simp)
  have x0 := hx' 0 _ rfl 0 _ rfl
  simp only [List.length_cons, List.length_nil, Nat.zero_add, Nat.reduceAdd, Nat.reduceSub, Nat.mul_one, Nat.add_zero, List.drop_succ_cons, List.drop_zero] at hrun hat3 x0
  have e2 : ((1 : Nat) : Int) = 1 := rfl
  rw [e2] at hrun
  clear ha' hx' hown hcm' e2 hsp
  have hl6 : [p, n1, n2].length = 3 := rfl
  rw [hl6] at hc' ⊢
  go_wp2_with fail
  refine (numbersOf_any _ [n1, n2] _ hat3 (by simp) (fun x hx => by have := HWS.out x (by simp at hx ⊢; rcases hx with h | h <;> simp [h]); omega)).mono ?_
  rintro e w3 ⟨v', rfl, hv1, hv2, hb3⟩
  have hb31 := hb2.trans (hb3.mono hb2.size)
  have hb3' := hb2'.trans (hb3.mono hb2'.size)
  have y0 := (hb3.cell (World.block_lt_of_cell? w2 _ x0)).trans x0
  clear hrun hat3 x0 hl6
  cases hn : numsOf [n1, n2] with
  | none =>
    rw [hn] at hv2
    obtain rfl := hv2 rfl
    have HF := Lib.hid (rowRead_none (s := s) (by rw [HFO.out, hn]))
    clear hn hv1 hv2
    simp only [Option.isSome_none]
    obtain ⟨c0, c1, c2⟩ := CZ.out _ hb31
    have hg2 := HG.out _ hb31
    have fz : ∀ j, w3.frozen? ⟨w.heap.size, j, none⟩ = false := fun j => frozen_row hg2
    have f0 := fz 0; have f1 := fz 1; have f2 := fz 2
    have HGz := Lib.hid hg2
    clear fz hg2
    go_wp2_with fail
    refine bodyPost_ret (ret_row rfl _ _ w.heap.size 36 #[S [], .int .i64 0, .int .i64 0] (0, 0) _ rfl (thr_new HGz.out _ _ _) Tryz.underlying36 rfl (by kernel_rfl)) rfl ⟨?_, thr_below hb3' (Nat.le_refl _) _ _ _⟩
    rw [HF.out]; rfl
  | some ns =>
    have hown := hv1 ns hn
    have hnl := mapM_len _ hn
    obtain ⟨m1, m2, rfl⟩ := two_ints (l := ns) (by simpa using hnl)
    have HF := Lib.hid (rowRead_some (s := s) (r := ⟨p, m1, m2⟩) (by rw [HFO.out, hn]))
    clear hn hv1 hv2 hnl
    simp only [Option.isSome_some]
    obtain ⟨a4, c4, b4, o4, hv4, ha4, hc4, hcm4, hx4⟩ := hown.at encI_enc
    subst hv4
    obtain rfl := ha4 (by simp)
    have z0 := hx4 0 _ rfl 0 _ rfl
    have z1 := hx4 1 _ rfl 0 _ rfl
    simp only [Nat.mul_one, Nat.add_zero] at z0 z1
    have hl4 : [m1, m2].length = 2 := rfl
    rw [hl4]
    clear hx4 hown ha4 hc4 hcm4 hl4
    have hks := fun w6 (h : Below w3.heap.size w3 w6) => (⟨(h.cell (World.block_lt_of_cell? w3 _ y0)).trans y0, (h.cell (World.block_lt_of_cell? w3 _ z0)).trans z0, (h.cell (World.block_lt_of_cell? w3 _ z1)).trans z1⟩ : _ ∧ _ ∧ _)
    have KS := Lib.hid hks; clear hks
    go_wp2_with fail
    go_region_held3 (fun w' => w'.cell? ⟨b', o', none⟩ = some (S p) ∧ w'.cell? ⟨b4, o4, none⟩ = some (.int .i64 m1) ∧ w'.cell? ⟨b4, o4 + 1, none⟩ = some (.int .i64 m2)) (first | exact ⟨y0, z0, z1⟩ | exact KS.out _ (((Below.refl _ _).alloc (Nat.le_refl _) _).drew) | exact KS.out _ ((Below.refl _ _).drew.alloc (Nat.le_refl _) _)) (fail)
    have hb4 : Below w3.heap.size w3 (w3.alloc (.cells #[S p, .int .i64 m1, .int .i64 m2] 36)).drew := ((Below.refl _ _).alloc (Nat.le_refl _) _).drew
    have CF := Lib.hid (fun w6 (h : Below (w3.alloc (.cells #[S p, .int .i64 m1, .int .i64 m2] 36)).heap.size (w3.alloc (.cells #[S p, .int .i64 m1, .int .i64 m2] 36)).drew w6) => rowCells (r := ⟨p, m1, m2⟩) rfl (((Below.refl _ _).drew).trans h))
    have hsz : (w3.alloc (.cells #[S p, .int .i64 m1, .int .i64 m2] 36)).heap.size = (w3.alloc (.cells #[S p, .int .i64 m1, .int .i64 m2] 36)).drew.heap.size := rfl
    rw [hsz] at CF
    generalize (w3.alloc (.cells #[S p, .int .i64 m1, .int .i64 m2] 36)).drew = w4 at *
    have hb4' := hb3'.trans (hb4.mono hb3'.size)
    have hb41 := hb31.trans (hb4.mono hb31.size)
    obtain ⟨c0, c1, c2⟩ := CF.out w4 (Below.refl _ _)
    clear y0 z0 z1 hsz
    go_wp2_with fail
    refine (rowError_any ⟨p, m1, m2⟩ _ (by have := HWS.out p (by simp); show p.length ≤ _; omega)).mono ?_
    rintro e w5 ⟨rfl, hb5⟩
    have hb5' := hb4'.trans (hb5.mono hb4'.size)
    have hb51 := hb41.trans (hb5.mono hb41.size)
    have hg2 := HG.out _ hb51
    have fz : ∀ j, w5.frozen? ⟨w.heap.size, j, none⟩ = false := fun j => frozen_row hg2
    have f0 := fz 0; have f1 := fz 1; have f2 := fz 2
    have HGz := Lib.hid hg2
    obtain ⟨d0, d1, d2⟩ := CZ.out _ hb51
    clear c0 c1 c2 fz hg2
    obtain ⟨c0, c1, c2⟩ := CF.out w5 hb5
    by_cases hck : rowCheck ⟨p, m1, m2⟩ = 0
    case neg =>
      have HR : Hid (rowRead s = (zeroR, rowCheck ⟨p, m1, m2⟩)) := Lib.hid (by rw [HF.out, if_neg hck])
      have g1 : (0 : Int) < ((rowCheck ⟨p, m1, m2⟩ : Nat) : Int) := by omega
      clear hck
      generalize rowCheck ⟨p, m1, m2⟩ = ce at *
      go_wp2_with fail
      refine bodyPost_ret (ret_row rfl _ _ w.heap.size 36 #[S [], .int .i64 0, .int .i64 0] (0, 0) _ rfl (thr_new HGz.out _ _ _) Tryz.underlying36 rfl (by kernel_rfl)) rfl ⟨?_, thr_below hb5' (Nat.le_refl _) _ _ _⟩
      rw [HR.out]; rfl
    have HR : Hid (rowRead s = (⟨p, m1, m2⟩, 0)) := Lib.hid (by rw [HF.out, if_pos hck])
    rw [hck]
    clear hck
    go_wp2_with fail
    refine bodyPost_ret (ret_row rfl _ _ w.heap.size 36 #[S p, .int .i64 m1, .int .i64 m2] (0, 0) _ rfl (thr_new HGz.out _ _ _) Tryz.underlying36 rfl (by kernel_rfl)) rfl ⟨?_, thr_below hb5' (Nat.le_refl _) _ _ _⟩
    rw [HR.out]; rfl
end Go.Proofs.YtcdcfolhnjgigaaGreatDoor
namespace Go.Proofs.YtcdcfolhnjgigaaGreatDoor
open Go.RowKit

theorem less_bef' : ∀ a b : Str, Op.bytesLess a b = bef a b
  | [], [] => by simp [Op.bytesLess, bytesBefore]
  | [], _ :: _ => by simp [Op.bytesLess, bytesBefore]
  | _ :: _, [] => by simp [Op.bytesLess, bytesBefore]
  | a :: r, b :: s => by
    have ih := less_bef' r s
    show Op.bytesLess (a :: r) (b :: s) = (decide (a < b) || (a == b && bytesBefore r s))
    unfold Op.bytesLess
    rw [ih]
theorem at_take {α : Type} {enc : α → List Value} {sz : Nat} {w : World} {a : Option Addr} {n c : Nat} {l : List α} (h : At enc sz w (.slice a n c) l) {k : Nat} (hk : k ≤ l.length) : At enc sz w (.slice a k c) (l.take k) := by
  obtain ⟨a', c', b, o, hv, ha, hc, hm, hx⟩ := h
  cases hv
  have hl : (l.take k).length = k := by rw [List.length_take]; omega
  refine ⟨a, c, b, o, by rw [hl], fun h0 => ha (by omega), by omega, hm, fun i x hi j u hu => hx i x ?_ j u hu⟩
  rw [List.getElem?_take] at hi
  split at hi
  · exact hi
  · cases hi
theorem at_drop {α : Type} {enc : α → List Value} {sz : Nat} {w : World} {b o n c : Nat} {l : List α} (h : At enc sz w (.slice (some ⟨b, o, none⟩) n c) l) {k : Nat} (hk : k ≤ l.length) : At enc sz w (.slice (some ⟨b, o + k * sz, none⟩) (n - k) (c - k)) (l.drop k) := by
  obtain ⟨a', c', b', o', hv, ha, hc, hm, hx⟩ := h
  cases hv
  have hl : (l.drop k).length = l.length - k := List.length_drop
  refine ⟨_, c - k, b, o + k * sz, by rw [hl], fun _ => rfl, by omega, by omega, fun i x hi j u hu => ?_⟩
  rw [List.getElem?_drop] at hi
  have hlt := (List.getElem?_eq_some_iff.1 hi).1
  have h1 := hx _ x hi j u hu
  have h2 := ha (by omega)
  simp only [Option.some.injEq, Addr.mk.injEq, and_true] at h2
  obtain ⟨rfl, rfl⟩ := h2
  rw [show o + k * sz + i * sz + j = o + (k + i) * sz + j by rw [Nat.add_mul]; omega]
  exact h1

/-- s[:k] and s[k:] of a slice. -/
theorem sl_to {α : Type} {P : Program} {t e : TypeId} {enc : α → List Value} {sz : Nat} {w : World} {a : Option Addr} {c : Nat} {l : List α} (ht : P.underlying t = some (.slice e)) (hsz : ∀ w, (sizeOf e).run P w = .ok sz w) (h : At enc sz w (.slice a l.length c) l) (k : Nat) (hk : k ≤ l.length) :
    (∀ W, (Instr.slice t (.slice a l.length c) none (some (.int .i64 (k : Int))) none).run P W = .ok (.slice a k c) W) ∧ At enc sz w (.slice a k c) (l.take k) := by
  refine ⟨fun W => ?_, at_take h hk⟩
  have hc : l.length ≤ c := by obtain ⟨_, _, _, _, hv, _, hc, _⟩ := h; cases hv; exact hc
  have h2 : (k : Int) ≤ (c : Int) := by omega
  cases a with
  | none => simp [Instr.slice, Instr.sliceBounds, run_underlying ht, hsz, go_sem, h2]
  | some ad =>
    simp [Instr.slice, Instr.sliceBounds, run_underlying ht, hsz, go_sem, h2]
theorem sl_from {α : Type} {P : Program} {t e : TypeId} {enc : α → List Value} {sz : Nat} {w : World} {a : Option Addr} {c : Nat} {l : List α} (ht : P.underlying t = some (.slice e)) (hsz : ∀ w, (sizeOf e).run P w = .ok sz w) (h : At enc sz w (.slice a l.length c) l) (k : Nat) (hk : k ≤ l.length) :
    ∃ a2 c2, (∀ W, (Instr.slice t (.slice a l.length c) (some (.int .i64 (k : Int))) none none).run P W = .ok (.slice a2 (l.length - k) c2) W) ∧ At enc sz w (.slice a2 (l.length - k) c2) (l.drop k) := by
  obtain ⟨a', c', b, o, hv, ha, hc, hm, hx⟩ := h
  cases hv
  rcases Nat.eq_zero_or_pos l.length with h0 | h0
  · have hk0 : k = 0 := by omega
    subst hk0
    refine ⟨a, c, fun W => ?_, ⟨a, c, b, o, by rw [List.length_drop], fun h => absurd h (by rw [List.length_drop]; omega), by rw [List.length_drop]; omega, hm, fun j y hj => absurd (List.getElem?_eq_some_iff.1 hj).1 (by rw [List.length_drop]; omega)⟩⟩
    have h3 : (0 : Int) ≤ (c : Int) := by omega
    cases a with
    | none => simp [Instr.slice, Instr.sliceBounds, run_underlying ht, hsz, go_sem, h0]
    | some ad =>
      have h0' : ad.add 0 = ad := by unfold Addr.add; split <;> simp_all
      simp [Instr.slice, Instr.sliceBounds, run_underlying ht, hsz, go_sem, h0, h0']
  · obtain rfl := ha h0
    have hadd : (⟨b, o, none⟩ : Addr).add (k * sz) = ⟨b, o + k * sz, none⟩ := by unfold Addr.add; split <;> simp_all
    by_cases h : c = k
    · refine ⟨some ⟨b, o, none⟩, c - k, fun W => ?_, ?_⟩
      · have hk' : (k : Int) ≤ l.length := by omega
        simp [Instr.slice, Instr.sliceBounds, run_underlying ht, hsz, hk, h, go_sem]
      · have hl : l.length = k := by omega
        refine ⟨_, c - k, b, o, by rw [List.length_drop], fun _ => rfl, by simp; omega, by omega, fun i x hi j u hu => ?_⟩
        rw [List.drop_of_length_le (by omega)] at hi; simp at hi
    · refine ⟨some ⟨b, o + k * sz, none⟩, c - k, fun W => ?_, ?_⟩
      · have hk' : (k : Int) ≤ l.length := by omega
        simp [Instr.slice, Instr.sliceBounds, run_underlying ht, hsz, hk, h, go_sem]
      · refine ⟨_, c - k, b, o + k * sz, by rw [List.length_drop], fun _ => rfl, by simp; omega, by omega, fun i x hi j u hu => ?_⟩
        rw [List.getElem?_drop] at hi
        have := hx (k + i) x hi j u hu
        rwa [show o + k * sz + i * sz + j = o + (k + i) * sz + j by rw [Nat.add_mul]; omega]

end Go.Proofs.YtcdcfolhnjgigaaGreatDoor
namespace Go.Proofs.YtcdcfolhnjgigaaGreatDoor
open Go.RowKit

theorem insR_from {x : Rw} {l : List Rw} {p : Nat} (hu : upR l) (hp : p ≤ l.length) (h1 : ∀ (j : Nat) (y : Rw), p ≤ j → l[j]? = some y → lessR x y = true) (h2 : ∀ y, 0 < p → l[p - 1]? = some y → lessR x y = false) : insR x l = l.take p ++ x :: l.drop p := by
  refine insR_at hp (fun j hj y hy => ?_) (fun y hy => h1 p y (Nat.le_refl _) hy)
  obtain ⟨z, hz⟩ := get_ex (l := l) (k := p - 1) (by omega)
  have hxz := h2 z (by omega) hz
  rcases Nat.lt_or_ge j (p - 1) with h | h
  · have hyz : lessR z y = false := by
      have e := List.pairwise_iff_getElem.1 hu j (p - 1) (List.getElem?_eq_some_iff.1 hy).1 (List.getElem?_eq_some_iff.1 hz).1 h
      rw [(List.getElem?_eq_some_iff.1 hy).2, (List.getElem?_eq_some_iff.1 hz).2] at e
      exact e
    cases hxy : lessR x y with
    | false => rfl
    | true =>
      have := le_trans' hyz hxz
      rw [hxy] at this; cases this
  · obtain rfl : j = p - 1 := by omega
    rw [hz] at hy; cases hy; exact hxz
set_option maxHeartbeats 2000000 in
set_option maxRecDepth 20000 in
theorem refSortRows_any (v : Value) (l : List Rw) (w : World) (hl : RowsAt w v l) (hn : l.length ≤ 10000) :
    Calls Tryz.prog 59 #[v] w fun e w' => ∃ v', e = .returned v' ∧ RowsAt w' v' (sortR l) ∧ Below w.heap.size w w' := by
  obtain ⟨a, c, b, o, rfl, ha, hc, hcm, hx⟩ := hl
  unfold maxLen at hcm
  go_enter Tryz.func59, Tryz.ntmps59
  go_wp2_with fail
  go_loopw [3, 4] (fun u i wr => ∃ (k : Nat) (q : List Rw), k ≤ l.length ∧ i = .int .i64 k ∧ Hid (q = sortR (l.take k)) ∧ q.length = k ∧ RowsAt wr u q ∧ Below w.heap.size w wr) (fun _ i _ => l.length - (intOf i).toNat)
  case atStart => exact ⟨0, [], by omega, rfl, Lib.hid rfl, rfl, At.nil _ _ _, Below.refl _ _⟩
  case round =>
    obtain ⟨k, q, hk, rfl, hq, hql, hu, hb⟩ := hrel
    obtain ⟨wo, rfl⟩ : ∃ wo, wo = wr := ⟨wr, rfl⟩
    by_cases hlt : k < l.length
    case neg =>
      obtain rfl : k = l.length := by omega
      have f : decide ((l.length : Int) < (l.length : Int)) = false := by simp
      have HE : Hid (q = sortR l) := Lib.hid (by rw [hq.out, List.take_length])
      clear hql
      go_wp2_with fail
      go_ret
      exact ⟨_, rfl, by rw [← HE.out]; exact hu, hb⟩
    obtain ⟨x, hxk⟩ := get_ex hlt
    have CX := Lib.hid (fun W (h : Below w.heap.size w W) => rwCells hx h hxk)
    have i1 := idx_at (c := c) 3 Tryz.underlying22 szRw ha k hlt
    have hk1 : (k : Int) < (l.length : Int) := by omega
    have hup : upR q := by rw [hq.out]; exact sort_up _
    have HQ2 : Hid (sortR (l.take (k + 1)) = insR x q) := Lib.hid (by rw [take_snoc' hxk, sort_snoc, hq.out])
    have HUp := Lib.hid hup
    have HU := Lib.hid hu
    obtain ⟨au, cu, bu, ou, rfl, hau, hcu, hcmu, hxu⟩ := hu
    unfold maxLen at hcmu
    rw [hql] at hau hcu ⊢
    have Hql := Lib.hid hql
    clear hq hup hxk hql
    go_upto_block 2 with fail
    go_cut [5] (fun u wx => ∃ p : Nat, u = .int .i64 p ∧ p ≤ k ∧ (∀ (j : Nat) (y : Rw), p ≤ j → q[j]? = some y → lessR x y = true) ∧ (∀ y, 0 < p → q[p - 1]? = some y → lessR x y = false) ∧ Below wo.heap.size wo wx)
    case first =>
      go_wp2_with fail
      go_loopw [5] (fun u wx => ∃ p : Nat, u = .int .i64 p ∧ p ≤ k ∧ Hid (∀ (j : Nat) (y : Rw), p ≤ j → q[j]? = some y → lessR x y = true) ∧ Below wo.heap.size wo wx) (fun i _ => (intOf i).toNat)
      case atStart => exact ⟨k, rfl, Nat.le_refl _, Lib.hid fun j y hj hy => absurd (List.getElem?_eq_some_iff.1 hy).1 (by have := Hql.out; omega), Below.refl _ _⟩
      case round =>
        obtain ⟨p, rfl, hp, hj, hbx⟩ := hrel
        by_cases hp0 : p = 0
        · subst hp0
          go_wp2_with fail
          go_meet
          exact ⟨0, rfl, by omega, hj.out, fun y h => absurd h (by omega), hbx⟩
        have hp1 : (0 : Int) < p := by omega
        obtain ⟨y, hyp⟩ := get_ex (l := q) (k := p - 1) (by have := Hql.out; omega)
        have hcast : ((p - 1 : Nat) : Int) = (p : Int) - 1 := by omega
        have i2 := idx_at (c := cu) 3 Tryz.underlying22 szRw hau (p - 1) (by omega)
        simp only [hcast] at i2
        have hwk : IntKind.i64.wrap ((p : Int) - 1) = (p : Int) - 1 := by rw [IntKind.wrap_i64]; omega
        have hp2 : (0 : Int) ≤ (p : Int) - 1 := by omega
        have hp3 : (1 : Int) ≤ (p : Int) := by omega
        have hbD : Below wo.heap.size wo wr.drew := hbx.drew
        obtain ⟨c0, c1, c2⟩ := CX.out _ (hb.trans (hbD.mono hb.size))
        obtain ⟨d0, d1, d2⟩ := rwCells hxu hbD hyp
        have hC := fun W => isLess_any x y W
        have HY := Lib.hid hyp
        clear hyp hcast hp0
        cases hls : lessR x y with
        | true =>
          rw [hls] at hC
          have HC := Lib.hid hC; have HLs := Lib.hid hls
          clear hC hls
          go_wp2_with fail
          go_region_held3 (fun w' => w'.cell? ⟨b, o + k * 3, none⟩ = some (S x.part) ∧ w'.cell? ⟨b, o + k * 3 + 1, none⟩ = some (.int .i64 x.key) ∧ w'.cell? ⟨b, o + k * 3 + 2, none⟩ = some (.int .i64 x.val) ∧ w'.cell? ⟨bu, ou + (p - 1) * 3, none⟩ = some (S y.part) ∧ w'.cell? ⟨bu, ou + (p - 1) * 3 + 1, none⟩ = some (.int .i64 y.key) ∧ w'.cell? ⟨bu, ou + (p - 1) * 3 + 2, none⟩ = some (.int .i64 y.val)) (exact ⟨c0, c1, c2, d0, d1, d2⟩) ((go_at_call 58; (with_reducible refine (HC.out _).mono ?_); rintro e w2 ⟨rfl, hb2⟩; have hb2' := hbD.trans (hb2.mono hbD.size); clear c0 c1 c2 d0 d1 d2; obtain ⟨c0, c1, c2⟩ := CX.out _ (hb.trans (hb2'.mono hb.size)); obtain ⟨d0, d1, d2⟩ := rwCells hxu hb2' HY.out))
          all_goals
            go_wp2_with fail
            refine ⟨⟨p - 1, by go_num, by omega, Lib.hid fun j z hj' hz => ?_, hb2'⟩, by simp [intOf]; omega⟩
            rcases Nat.lt_or_ge j p with h | h
            · obtain rfl : j = p - 1 := by omega
              rw [HY.out] at hz; cases hz; exact HLs.out
            · exact hj.out j z h hz
        | false =>
          rw [hls] at hC
          have HC := Lib.hid hC; have HLs := Lib.hid hls
          clear hC hls
          go_wp2_with fail
          go_region_held3 (fun w' => w'.cell? ⟨b, o + k * 3, none⟩ = some (S x.part) ∧ w'.cell? ⟨b, o + k * 3 + 1, none⟩ = some (.int .i64 x.key) ∧ w'.cell? ⟨b, o + k * 3 + 2, none⟩ = some (.int .i64 x.val) ∧ w'.cell? ⟨bu, ou + (p - 1) * 3, none⟩ = some (S y.part) ∧ w'.cell? ⟨bu, ou + (p - 1) * 3 + 1, none⟩ = some (.int .i64 y.key) ∧ w'.cell? ⟨bu, ou + (p - 1) * 3 + 2, none⟩ = some (.int .i64 y.val)) (exact ⟨c0, c1, c2, d0, d1, d2⟩) ((go_at_call 58; (with_reducible refine (HC.out _).mono ?_); rintro e w2 ⟨rfl, hb2⟩; have hb2' := hbD.trans (hb2.mono hbD.size); clear c0 c1 c2 d0 d1 d2; obtain ⟨c0, c1, c2⟩ := CX.out _ (hb.trans (hb2'.mono hb.size)); obtain ⟨d0, d1, d2⟩ := rwCells hxu hb2' HY.out))
          all_goals
            go_wp2_with fail
            go_meet
            refine ⟨p, rfl, hp, hj.out, fun z _ hz => ?_, hb2'⟩
            rw [HY.out] at hz; cases hz; exact HLs.out
    case rest =>
      obtain ⟨p, rfl, hp, h1, h2, hbx⟩ := hcut
      have HIns : Hid (insR x q = q.take p ++ x :: q.drop p) := Lib.hid (insR_from HUp.out (by rw [Hql.out]; exact hp) h1 h2)
      clear h1 h2
      have hbW := hb.trans (hbx.mono hb.size)
      have hU := HU.out
      rw [Hql.out] at hU
      obtain ⟨hs1, hsA⟩ := sl_to (P := Tryz.prog) Tryz.underlying22 szRw HU.out p (by rw [Hql.out]; exact hp)
      obtain ⟨a2, c2, hs2, hsB⟩ := sl_from (P := Tryz.prog) Tryz.underlying22 szRw HU.out p (by rw [Hql.out]; exact hp)
      rw [Hql.out] at hs1 hs2 hsB
      have hlt1 : (q.take p).length = p := by rw [List.length_take, Hql.out]; omega
      have hld1 : (q.drop p).length = k - p := by rw [List.length_drop, Hql.out]
      have hat1 := hsA.below hbx
      have hsrc1 := hat1.src encR_enc (by decide)
      rw [hlt1] at hsrc1
      have HB := Lib.hid (hsB.below hbx)
      have HLT := Lib.hid hlt1; have HLD := Lib.hid hld1
      clear hsA hsB hat1 hlt1 hld1 hU
      go_wp2_with (first
        | (at_builtin; refine wpList_app rfl _ _ _ rfl wc.heap.size elRw (.slice none 0 0) 0 [] rfl (Own.nil encR _ 3 _ _) _ _ _ rfl hsrc1 (by unfold maxLen; omega) (by omega) (Nat.le_refl _) ?_; intro v1 w2 hown1 hg1 _; have hown1' : Own encR 36 3 wc.heap.size w2 v1 (q.take p) := (by unfold Own; rw [HLT.out]; simpa using hown1); have hb2 : Below wc.heap.size wc w2 := (Below.refl _ _).grown hg1 (Nat.le_refl _) (fun k hk => by cases hk); obtain ⟨c0, c1, c2⟩ := CX.out _ (hbW.trans (hb2.mono hbW.size)); clear hown1 hg1 hsrc1)
        | (at_builtin; refine wpList_app rfl _ _ _ rfl wc.heap.size elRw v1 (q.take p).length _ rfl (hown1'.alloc _) (.slice (some ⟨w2.heap.size, 0, none⟩) 1 1) 1 (encR x) rfl (src_one rfl rfl (by simp [Value.oneCell'])) (by rw [HLT.out]; unfold maxLen; omega) (by rw [HLT.out]; omega) (by have := hb2.size; simp; omega) ?_; intro v2 w3 hown2 hg2 _; have hown2' := Own.snoc hown2; have hb3 : Below wc.heap.size wc w3 := (Bapp (hb2.alloc hb2.size _) (hown1'.alloc _) hg2 (Nat.le_refl _) (by have := hb2.size; simp; omega)); have hsrc3 := (HB.out.below hb3).src encR_enc (by decide); rw [HLD.out] at hsrc3; have hl3 : (q.take p ++ [x]).length = p + 1 := (by rw [List.length_append, HLT.out]; rfl); have HL3 := Lib.hid hl3; clear hown2 hg2 c0 c1 c2 hl3)
        | (at_builtin; refine wpList_app rfl _ _ _ rfl wc.heap.size elRw v2 (q.take p ++ [x]).length _ rfl hown2' _ _ _ rfl hsrc3 (by rw [HL3.out]; unfold maxLen; omega) (by rw [HL3.out]; omega) hb3.size ?_; intro v3 w4 hown3 hg3 _))
      have hown3' : Own encR 36 3 wc.heap.size w4 v3 (insR x q) := by
        rw [HIns.out, show q.take p ++ x :: q.drop p = (q.take p ++ [x]) ++ q.drop p by simp]
        unfold Own
        rw [List.length_append, List.flatMap_append, HLD.out]
        exact hown3
      have hb4 := Bapp hb3 hown2' hg3 (Nat.le_refl _) hb3.size
      have hbw4 := hbW.trans (hb4.mono hbW.size)
      go_roundw
      case rel => exact ⟨k + 1, insR x q, by omega, by go_num, Lib.hid HQ2.out.symm, by rw [(insR_perm x q).length_eq, List.length_cons, Hql.out], hown3'.at encR_enc, hbw4⟩
      case measure => simp [intOf]; omega
end Go.Proofs.YtcdcfolhnjgigaaGreatDoor
