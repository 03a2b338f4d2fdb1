/- snap.First; the statements' own helpers on snaps: OwnSnap, LongSnap, SameSnap, snapped. LongFiles, LongSnap, longChanges: what each answers, as a function of what it is given. LongRows, longPieces: what each answers, as a function of what it is given. deedboxref1.SumOf: the walk: the sum, bit by bit. deedboxref1's Ends, wholeText, headFault, GoneOf: the walks. deedboxref1's GoneOf, headFault: the walks. Printed by gen_refgone.py. -/
import Derived.Test.YtpfohfihkmjnaaaGreatDoorP15
import Derived.Test.YtpfohfihkmjnaaaGreatDoorP8
import Derived.Test.YtpfohfihkmjnaaaGreatDoorP2
import Derived.Test.YtpfohfihkmjnaaaGreatDoorP12
import Derived.Test.YtpfohfihkmjnaaaGreatDoorP14
import Derived.Test.YtpfohfihkmjnaaaGreatDoorP6
import Derived.Test.YtpfohfihkmjnaaaGreatDoorP3
import Derived.Laws.BitsAll
import Derived.Outline
namespace Go.Proofs.YtpfohfihkmjnaaaGreatDoor
open Go.RowKit

def firstSn : Sn := ⟨1, 0, 0, 0, 0, kStart, []⟩
theorem right_first : RightSn firstSn := ⟨by decide, by decide, ⟨by decide, fun f h => absurd h (by simp [firstSn]), by simp [firstSn]⟩, fun f h => absurd h (by simp [firstSn])⟩
theorem text_first : snapText firstSn = [115, 110, 97, 112, 32, 49, 32, 48, 32, 48, 32, 48, 32, 48, 32, 115, 116, 97, 114, 116, 32, 48, 10] := by
  have h : sumOf (listText firstSn.files) = 0 := by decide
  unfold snapText
  rw [h]
  simp [snapHead, numsTail, firstSn, listText, itoa0, itoa1]


theorem own_low {α : Type} {enc : α → List Value} {e : TypeId} {sz B B' : Nat} {w : World} {v : Value} {l : List α} (h : Own enc e sz B' w v l) (hB : B ≤ B') : Own enc e sz B w v l := by
  obtain ⟨h1, h2⟩ := h
  refine ⟨h1, ?_⟩
  rcases h2 with h0 | ⟨g, cap, cur, hv, hg, rest⟩
  · exact .inl h0
  · exact .inr ⟨g, cap, cur, hv, Nat.le_trans hB hg, rest⟩
set_option maxRecDepth 20000 in
theorem ownSnapO_any (s : Sn) (v : Value) (w : World) (hl : FilesAt w v s.files) (hn : s.files.length ≤ 100000) :
    Calls Tryz.prog 15 #[snapV s v] w fun e w' => ∃ u, e = .returned (snapV s u) ∧ Own encF 43 6 w.heap.size w' u s.files ∧ Below w.heap.size w w' := by
  obtain ⟨w1, hw1⟩ : ∃ w1, w1 = w.alloc (.cells #[.int .i64 s.id, .int .i64 s.parent, .int .i64 s.seq, .int .i64 s.day, .int .i64 s.index, S s.op, v] 25) := ⟨_, rfl⟩
  have hb1 : Below w.heap.size w w1 := hw1 ▸ (Below.refl _ _).alloc (Nat.le_refl _) _
  have hs1 : w1.heap.size = w.heap.size + 1 := by rw [hw1]; simp
  have hba : Below w1.heap.size w1 (w1.alloc (.cells #[.int .i64 0, .int .i64 0, .int .i64 0, .int .i64 0, .int .i64 0, S [], .slice none 0 0] 25)) := (Below.refl _ _).alloc (Nat.le_refl _) _
  have CS := Lib.hid (fun w6 (h : Below w1.heap.size w1 w6) => snapCells (s := s) (v := v) (t := 25) (hw1 ▸ h))
  have HGs := Lib.hid (fun w6 (h : Below w1.heap.size w1 w6) => (h.block w.heap.size (by omega)).trans (hw1 ▸ heap_alloc_new w _ : w1.heap[w.heap.size]? = some (.cells #[.int .i64 s.id, .int .i64 s.parent, .int .i64 s.seq, .int .i64 s.day, .int .i64 s.index, S s.op, v] 25)))
  have HW := Lib.hid hw1
  have CZ := Lib.hid (fun w6 (h : Below (w1.alloc (.cells #[.int .i64 0, .int .i64 0, .int .i64 0, .int .i64 0, .int .i64 0, S [], .slice none 0 0] 25)).heap.size (w1.alloc (.cells #[.int .i64 0, .int .i64 0, .int .i64 0, .int .i64 0, .int .i64 0, S [], .slice none 0 0] 25)) w6) => snapCells (s := zeroSn) (v := .slice none 0 0) h)
  have HGz := Lib.hid (fun w6 (h : Below (w1.alloc (.cells #[.int .i64 0, .int .i64 0, .int .i64 0, .int .i64 0, .int .i64 0, S [], .slice none 0 0] 25)).heap.size (w1.alloc (.cells #[.int .i64 0, .int .i64 0, .int .i64 0, .int .i64 0, .int .i64 0, S [], .slice none 0 0] 25)) w6) => (h.block w1.heap.size (by simp)).trans (heap_alloc_new w1 (.cells #[.int .i64 0, .int .i64 0, .int .i64 0, .int .i64 0, .int .i64 0, S [], .slice none 0 0] 25)))
  have HSz : Hid ((w1.alloc (.cells #[.int .i64 0, .int .i64 0, .int .i64 0, .int .i64 0, .int .i64 0, S [], .slice none 0 0] 25)).heap.size = w.heap.size + 2) := Lib.hid (by simp [hs1])
  go_enter Tryz.func15, Tryz.ntmps15
  obtain ⟨c0, c1, c2, c3, c4, c5, c6⟩ := CS.out _ hba
  go_wp2_with fail
  rw [← HW.out]
  generalize w1.alloc (.cells #[.int .i64 0, .int .i64 0, .int .i64 0, .int .i64 0, .int .i64 0, S [], .slice none 0 0] 25) = w2 at *
  refine (ownFiles_any v s.files w2 (hl.below (hb1.trans (hba.mono hb1.size))) hn).mono ?_
  rintro e w3 ⟨u, rfl, hown, hb3⟩
  have hb13 := hba.trans (hb3.mono hba.size)
  have hb03 := hb1.trans (hb13.mono hb1.size)
  clear c0 c1 c2 c3 c4 c5 c6
  obtain ⟨c0, c1, c2, c3, c4, c5, c6⟩ := CS.out _ hb13
  obtain ⟨d0, d1, d2, d3, d4, d5, d6⟩ := CZ.out _ hb3
  rw [hs1] at d0 d1 d2 d3 d4 d5 d6
  have hg1 := HGs.out _ hb13
  have hg2 := HGz.out _ hb3
  rw [hs1] at hg2
  have f6 : w3.frozen? ⟨w.heap.size, 6, none⟩ = false := frozen_row hg1
  have fz : ∀ j, w3.frozen? ⟨w.heap.size + 1, j, none⟩ = false := fun j => frozen_row hg2
  have e0 := fz 0; have e1 := fz 1; have e2 := fz 2; have e3 := fz 3; have e4 := fz 4; have e5 := fz 5; have e6 := fz 6
  have HG2 := Lib.hid hg2
  clear fz hg1 hg2
  have hne : ¬ (w.heap.size + 1 = w.heap.size) := by omega
  obtain ⟨au, nu, cu, rfl⟩ : ∃ au nu cu, u = .slice au nu cu := by
    obtain ⟨a', c', h', -⟩ := (hown.at encF_enc).form'
    exact ⟨_, _, _, h'⟩
  go_wp2_with fail
  refine bodyPost_ret (results_cell_row rfl _ _ (w.heap.size + 1) 25 #[.int .i64 s.id, .int .i64 s.parent, .int .i64 s.seq, .int .i64 s.day, .int .i64 s.index, S s.op, .slice au nu cu] (0, 0) _ rfl (sev_new ((heap_setCell_other _ _ _ _ (by simp)).trans HG2.out) _ _ _ _ _ _ _) Tryz.underlying25 rfl (by kernel_rfl)) rfl ⟨_, rfl, ?_, ?_⟩
  · have hz := HSz.out
    have k0 : w.heap.size < w2.heap.size := by omega
    have k1 : w.heap.size + 1 < w2.heap.size := by omega
    exact own_low ((((((((hown.store k0 6 _).store k1 0 _).store k1 1 _).store k1 2 _).store k1 3 _).store k1 4 _).store k1 5 _).store k1 6 _) (by omega)
  · exact sev_below (hb03.setCell (p := ⟨w.heap.size, 6, none⟩) (Nat.le_refl _) _) (by omega) _ _ _ _ _ _ _
theorem ownSnap_any (s : Sn) (v : Value) (w : World) (hl : FilesAt w v s.files) (hn : s.files.length ≤ 100000) :
    Calls Tryz.prog 15 #[snapV s v] w fun e w' => ∃ u, e = .returned (snapV s u) ∧ FilesAt w' u s.files ∧ Below w.heap.size w w' :=
  (ownSnapO_any s v w hl hn).mono fun _ _ ⟨u, h1, h2, h3⟩ => ⟨u, h1, h2.at encF_enc, h3⟩

set_option maxRecDepth 20000 in
theorem longSnap_any (s : Sn) (v : Value) (w : World) (hl : FilesAt w v s.files) :
    Calls Tryz.prog 8 #[snapV s v] w fun e w' => (e = .returned (.int .i64 1) ∨ (e = .returned (.int .i64 0) ∧ s.op.length ≤ 30 ∧ s.files.length ≤ 61 ∧ ∀ f ∈ s.files, shortF f)) ∧ Below w.heap.size w w' := by
  have hb0 : Below w.heap.size w (w.alloc (.cells #[.int .i64 s.id, .int .i64 s.parent, .int .i64 s.seq, .int .i64 s.day, .int .i64 s.index, S s.op, v] 25)) := (Below.refl _ _).alloc (Nat.le_refl _) _
  obtain ⟨c0, c1, c2, c3, c4, c5, c6⟩ := snapCells (s := s) (v := v) (t := 25) (Below.refl _ (w.alloc (.cells #[.int .i64 s.id, .int .i64 s.parent, .int .i64 s.seq, .int .i64 s.day, .int .i64 s.index, S s.op, v] 25)))
  have hL := longFiles_any v s.files (w.alloc (.cells #[.int .i64 s.id, .int .i64 s.parent, .int .i64 s.seq, .int .i64 s.day, .int .i64 s.index, S s.op, v] 25)) (hl.below hb0)
  have HL := Lib.hid hL; clear hL
  by_cases h1 : s.op.length ≤ 30
  · have g1 : decide ((30 : Int) < (s.op.length : Int)) = false := by simp; omega
    go_enter Tryz.func8, Tryz.ntmps8
    go_wp2_with fail
    refine HL.out.mono ?_
    rintro e w2 ⟨he, hb2⟩
    have hb2' := hb0.trans (hb2.mono hb0.size)
    clear c0 c1 c2 c3 c4 c5 c6
    rcases he with rfl | ⟨rfl, hlen, hsh⟩
    · go_wp2_with fail
      go_ret
      exact ⟨.inl rfl, hb2'⟩
    · have HS := Lib.hid hsh; clear hsh
      go_wp2_with fail
      go_ret
      exact ⟨.inr ⟨rfl, h1, hlen, HS.out⟩, hb2'⟩
  · have g1 : (30 : Int) < (s.op.length : Int) := by omega
    clear h1
    go_enter Tryz.func8, Tryz.ntmps8
    go_wp2_with fail
    go_ret
    exact ⟨.inl rfl, hb0⟩


end Go.Proofs.YtpfohfihkmjnaaaGreatDoor
namespace Go.Proofs.YtpfohfihkmjnaaaGreatDoor
open Go.RowKit

theorem ret_one {P : Prop} [Decidable P] {r : Int} (hr : (if P then 0 else 1) = r) (h : ¬ P) : Ending.returned (.int .i64 1) = .returned (.int .i64 r) := by rw [← hr, if_neg h]
theorem ret_zero {P : Prop} [Decidable P] {r : Int} (hr : (if P then 0 else 1) = r) (h : P) : Ending.returned (.int .i64 0) = .returned (.int .i64 r) := by rw [← hr, if_pos h]
theorem ret_true {P : Prop} [Decidable P] {r : Bool} (hr : (!decide P) = r) (h : ¬ P) : Ending.returned (.bool true) = .returned (.bool r) := by rw [← hr, decide_eq_false h]; rfl
theorem ret_false {P : Prop} [Decidable P] {r : Bool} (hr : (!decide P) = r) (h : P) : Ending.returned (.bool false) = .returned (.bool r) := by rw [← hr, decide_eq_true h]; rfl
def shortL (l : List Fl) : Prop := (l.length ≤ 40 ∨ l.length = 60 ∨ l.length = 61) ∧ ∀ f ∈ l, shortF f
instance (l : List Fl) : Decidable (shortL l) := inferInstanceAs (Decidable (_ ∧ _))
def shortS (s : Sn) : Prop := s.op.length ≤ 30 ∧ shortL s.files
instance (s : Sn) : Decidable (shortS s) := inferInstanceAs (Decidable (_ ∧ _))
theorem shortL.len {l : List Fl} (h : shortL l) : l.length ≤ 61 := by have := h.1; omega
theorem shortL.mid {l : List Fl} (h : shortL l) : ∀ f ∈ l, midF f := fun f hf => (h.2 f hf).mid

set_option maxRecDepth 20000 in
theorem longFilesD_any (v : Value) (l : List Fl) (w : World) (hl : FilesAt w v l) :
    Calls Tryz.prog 21 #[v] w fun e w' => e = .returned (.int .i64 (if shortL l then 0 else 1)) ∧ Below w.heap.size w w' := by
  obtain ⟨rv, hrv⟩ : ∃ rv : Int, (if shortL l then (0 : Int) else 1) = rv := ⟨_, rfl⟩
  rw [hrv]
  have HR := Lib.hid hrv
  clear hrv
  obtain ⟨a, c, b, o, rfl, ha, hc, hcm, hx⟩ := hl
  unfold maxLen at hcm
  by_cases h61 : l.length ≤ 40 ∨ l.length = 60 ∨ l.length = 61
  case neg =>
    have g1 : (40 : Int) < (l.length : Int) := by omega
    have g2 : ((l.length : Int) != 60) = true := by simp; omega
    have g3 : ((l.length : Int) != 61) = true := by simp; omega
    go_enter Tryz.func21, Tryz.ntmps21
    go_wp2_with fail
    go_ret
    exact ⟨ret_one HR.out (fun h : shortL l => h61 h.1), Below.refl _ _⟩
  have H61 := Lib.hid h61
  have hg : decide ((40 : Int) < (l.length : Int)) = false ∨ (decide ((40 : Int) < (l.length : Int)) = true ∧ (((l.length : Int) != 60) = false ∨ (((l.length : Int) != 60) = true ∧ ((l.length : Int) != 61) = false))) := by
    rcases h61 with h | h | h
    · exact .inl (by simp; omega)
    · exact .inr ⟨by simp; omega, .inl (by simp; omega)⟩
    · exact .inr ⟨by simp; omega, .inr ⟨by simp; omega, by simp; omega⟩⟩
  clear h61
  go_enter Tryz.func21, Tryz.ntmps21
  rcases hg with g1 | ⟨g1, g2 | ⟨g2, g3⟩⟩
  all_goals
    go_wp2_with fail
    go_loopw [3] (fun i wr => ∃ k : Nat, k ≤ l.length ∧ i = .int .i64 k ∧ Hid (∀ j < k, ∀ x, l[j]? = some x → shortF x) ∧ Below w.heap.size w wr) (fun i _ => l.length - (intOf i).toNat)
    case atStart => exact ⟨0, by omega, rfl, Lib.hid fun j hj => absurd hj (by omega), Below.refl _ _⟩
    case round =>
      obtain ⟨k, hk, rfl, hj, hb⟩ := hrel
      clear g1
      by_cases hlt : k < l.length
      case neg =>
        have f : decide ((k : Int) < (l.length : Int)) = false := by simp; omega
        go_wp2_with fail
        go_ret
        exact ⟨ret_zero HR.out (show shortL l from ⟨H61.out, fun x hx => by
          obtain ⟨j, hj'⟩ := List.getElem?_of_mem hx
          exact hj.out j (by have := (List.getElem?_eq_some_iff.1 hj').1; omega) x hj'⟩), hb⟩
      obtain ⟨x, hxk⟩ := get_ex hlt
      have c0 := hx k x hxk 0 _ rfl
      have c1 := hx k x hxk 1 _ rfl
      have c2 := hx k x hxk 2 _ rfl
      have c3 := hx k x hxk 3 _ rfl
      have c4 := hx k x hxk 4 _ rfl
      have c5 := hx k x hxk 5 _ rfl
      have c0 := (hb.cell (World.block_lt_of_cell? w _ c0)).trans c0
      have c1 := (hb.cell (World.block_lt_of_cell? w _ c1)).trans c1
      have c2 := (hb.cell (World.block_lt_of_cell? w _ c2)).trans c2
      have c3 := (hb.cell (World.block_lt_of_cell? w _ c3)).trans c3
      have c4 := (hb.cell (World.block_lt_of_cell? w _ c4)).trans c4
      have c5 := (hb.cell (World.block_lt_of_cell? w _ c5)).trans c5
      have i1 := idx_at (c := c) 6 Tryz.underlying23 szFl ha k hlt
      have f : (k : Int) < (l.length : Int) := by omega
      simp only [Nat.add_zero] at c0
      have Hx := Lib.hid hxk; clear hxk
      go_wp2_with fail
      refine (longFile_any x _).mono ?_
      rintro e w1 ⟨rfl, hb1⟩
      have hb' := hb.trans (hb1.mono hb.size)
      by_cases e1 : shortF x
      · rw [if_pos e1]
        have K1 := Lib.hid e1; clear e1
        go_wp2_with fail
        refine ⟨⟨k + 1, by omega, by go_num, Lib.hid fun j hj' y hy => by
          rcases Nat.lt_or_ge j k with h | h
          · exact hj.out j h y hy
          · obtain rfl : j = k := by omega
            rw [Hx.out] at hy
            cases hy
            exact K1.out, hb'⟩, ?_⟩
        simp [intOf]; omega
      · rw [if_neg e1]
        have K1 := Lib.hid e1; clear e1
        go_wp2_with fail
        go_ret
        exact ⟨ret_one HR.out (fun h : shortL l => K1.out (h.2 x (List.mem_of_getElem? Hx.out))), hb'⟩

set_option maxRecDepth 20000 in
theorem longSnapD_any (s : Sn) (v : Value) (w : World) (hl : FilesAt w v s.files) :
    Calls Tryz.prog 8 #[snapV s v] w fun e w' => e = .returned (.int .i64 (if shortS s then 0 else 1)) ∧ Below w.heap.size w w' := by
  obtain ⟨rv, hrv⟩ : ∃ rv : Int, (if shortS s then (0 : Int) else 1) = rv := ⟨_, rfl⟩
  rw [hrv]
  have HR := Lib.hid hrv
  clear hrv
  have hb0 : Below w.heap.size w (w.alloc (.cells #[.int .i64 s.id, .int .i64 s.parent, .int .i64 s.seq, .int .i64 s.day, .int .i64 s.index, S s.op, v] 25)) := (Below.refl _ _).alloc (Nat.le_refl _) _
  obtain ⟨c0, c1, c2, c3, c4, c5, c6⟩ := snapCells (s := s) (v := v) (t := 25) (Below.refl _ (w.alloc (.cells #[.int .i64 s.id, .int .i64 s.parent, .int .i64 s.seq, .int .i64 s.day, .int .i64 s.index, S s.op, v] 25)))
  have hL := longFilesD_any v s.files (w.alloc (.cells #[.int .i64 s.id, .int .i64 s.parent, .int .i64 s.seq, .int .i64 s.day, .int .i64 s.index, S s.op, v] 25)) (hl.below hb0)
  have HL := Lib.hid hL; clear hL
  by_cases h1 : s.op.length ≤ 30
  · have g1 : decide ((30 : Int) < (s.op.length : Int)) = false := by simp; omega
    go_enter Tryz.func8, Tryz.ntmps8
    go_wp2_with fail
    refine HL.out.mono ?_
    rintro e w2 ⟨rfl, hb2⟩
    have hb2' := hb0.trans (hb2.mono hb0.size)
    clear c0 c1 c2 c3 c4 c5 c6
    by_cases hsh : shortL s.files
    · rw [if_pos hsh]
      have HS := Lib.hid hsh; clear hsh
      go_wp2_with fail
      go_ret
      exact ⟨ret_zero HR.out (show shortS s from ⟨h1, HS.out⟩), hb2'⟩
    · rw [if_neg hsh]
      have HS := Lib.hid hsh; clear hsh
      go_wp2_with fail
      go_ret
      exact ⟨ret_one HR.out (fun h : shortS s => HS.out h.2), hb2'⟩
  · have g1 : (30 : Int) < (s.op.length : Int) := by omega
    have H1 := Lib.hid h1
    clear h1
    go_enter Tryz.func8, Tryz.ntmps8
    go_wp2_with fail
    go_ret
    exact ⟨ret_one HR.out (fun h : shortS s => H1.out h.1), hb0⟩

end Go.Proofs.YtpfohfihkmjnaaaGreatDoor
namespace Go.Proofs.YtpfohfihkmjnaaaGreatDoor
open Go.RowKit

def shortRws (n : Int) (l : List Rw) : Prop := (l.length : Int) ≤ n ∧ ∀ r ∈ l, r.part.length ≤ 30
instance (n : Int) (l : List Rw) : Decidable (shortRws n l) := inferInstanceAs (Decidable (_ ∧ _))
def shortPc (p : Pc) : Prop := p.path.length ≤ 20 ∧ p.part.length ≤ 20 ∧ p.spoil.length ≤ 200 ∧ shortRws 30 p.rows ∧ p.keys.length ≤ 30
instance (p : Pc) : Decidable (shortPc p) := inferInstanceAs (Decidable (_ ∧ _))
def shortPcs (l : List Pc) : Prop := l.length ≤ 15 ∧ ∀ p ∈ l, shortPc p
instance (l : List Pc) : Decidable (shortPcs l) := inferInstanceAs (Decidable (_ ∧ _))
set_option maxRecDepth 20000 in
theorem longRowsD_any (v : Value) (l : List Rw) (n : Int) (w : World) (hl : RowsAt w v l) :
    Calls Tryz.prog 29 #[v, .int .i64 n] w fun e w' => e = .returned (.int .i64 (if shortRws n l then 0 else 1)) ∧ w = w' := by
  obtain ⟨rv, hrv⟩ : ∃ rv : Int, (if shortRws n l then (0 : Int) else 1) = rv := ⟨_, rfl⟩
  rw [hrv]
  have HR := Lib.hid hrv
  clear hrv
  obtain ⟨a, c, b, o, rfl, ha, hc, hcm, hx⟩ := hl
  unfold maxLen at hcm
  by_cases h0 : n < (l.length : Int)
  · go_enter Tryz.func29, Tryz.ntmps29
    go_wp2_with fail
    go_ret
    exact ⟨ret_one HR.out (fun h : shortRws n l => by have := h.1; omega), rfl⟩
  have g0 : decide (n < (l.length : Int)) = false := by simpa using h0
  have H0 := Lib.hid (show (l.length : Int) ≤ n by omega)
  clear h0
  go_enter Tryz.func29, Tryz.ntmps29
  go_wp2_with fail
  go_loop [5] (fun i => ∃ k : Nat, k ≤ l.length ∧ i = .int .i64 k ∧ Hid (∀ r ∈ l.take k, r.part.length ≤ 30)) (fun i => l.length - (intOf i).toNat)
  case atStart => exact ⟨0, by omega, rfl, Lib.hid (by simp)⟩
  case round =>
    obtain ⟨k, hk, rfl, hj⟩ := hrel
    by_cases hlt : k < l.length
    case neg =>
      obtain rfl : k = l.length := by omega
      have f : decide ((l.length : Int) < (l.length : Int)) = false := by simp
      have HJ := Lib.hid (show ∀ r ∈ l, r.part.length ≤ 30 by have := hj.out; rwa [List.take_length] at this)
      go_wp2_with fail
      go_ret
      exact ⟨ret_zero HR.out (show shortRws n l from ⟨H0.out, HJ.out⟩), rfl⟩
    obtain ⟨x, hxk⟩ := get_ex hlt
    have c0 := hx k x hxk 0 _ rfl
    have i1 := idx_at (c := c) 3 Tryz.underlying44 szRw ha k hlt
    have hk1 : (k : Int) < (l.length : Int) := by omega
    simp only [Nat.add_zero] at c0
    have hsn := take_snoc' hxk
    by_cases hp : x.part.length ≤ 30
    · have g : decide ((30 : Int) < (x.part.length : Int)) = false := by simp; omega
      have HJ := Lib.hid (show ∀ r ∈ l.take (k + 1), r.part.length ≤ 30 by
        rw [hsn]
        intro r hr
        rcases List.mem_append.1 hr with h | h
        · exact hj.out r h
        · obtain rfl := List.mem_singleton.1 h
          exact hp)
      clear hsn hxk hp hj
      go_wp2_with fail
      go_round
      case rel => exact ⟨k + 1, by omega, by go_num, HJ⟩
      case measure => simp [intOf]; omega
    · have g : (30 : Int) < (x.part.length : Int) := by omega
      have Hx := Lib.hid hxk
      have Hp := Lib.hid hp
      clear hsn hxk hp hj
      go_wp2_with fail
      go_ret
      exact ⟨ret_one HR.out (fun h : shortRws n l => Hp.out (h.2 x (List.mem_of_getElem? Hx.out))), rfl⟩
set_option maxRecDepth 20000 in
theorem longPiecesD_any (v : Value) (l : List Pc) (w : World) (hl : PiecesAt w v l) (hh : HeldPc w l) :
    Calls Tryz.prog 7 #[v] w fun e w' => e = .returned (.bool (!decide (shortPcs l))) ∧ w = w' := by
  obtain ⟨rv, hrv⟩ : ∃ rv : Bool, (!decide (shortPcs l)) = rv := ⟨_, rfl⟩
  rw [hrv]
  have HR := Lib.hid hrv
  clear hrv
  obtain ⟨a, c, b, o, rfl, ha, hc, hcm, hx⟩ := hl
  unfold maxLen at hcm
  have HH := Lib.hid hh
  have HX := Lib.hid hx
  clear hh hx
  by_cases h30 : l.length ≤ 15
  case neg =>
    have g1 : (15 : Int) < (l.length : Int) := by omega
    go_enter Tryz.func7, Tryz.ntmps7
    go_wp2_with fail
    go_ret
    exact ⟨ret_true HR.out (fun h : shortPcs l => h30 h.1), rfl⟩
  have g1 : decide ((15 : Int) < (l.length : Int)) = false := by simp; omega
  go_enter Tryz.func7, Tryz.ntmps7
  go_wp2_with fail
  go_loop [3] (fun i => ∃ k : Nat, k ≤ l.length ∧ i = .int .i64 k ∧ Hid (∀ j < k, ∀ x, l[j]? = some x → shortPc x)) (fun i => l.length - (intOf i).toNat)
  case atStart => exact ⟨0, by omega, rfl, Lib.hid fun j hj => absurd hj (by omega)⟩
  case round =>
    obtain ⟨k, hk, rfl, hj⟩ := hrel
    clear g1
    by_cases hlt : k < l.length
    case neg =>
      have f : decide ((k : Int) < (l.length : Int)) = false := by simp; omega
      go_wp2_with fail
      go_ret
      exact ⟨ret_false HR.out (show shortPcs l from ⟨h30, fun x hx => by
        obtain ⟨j, hj'⟩ := List.getElem?_of_mem hx
        exact hj.out j (by have := (List.getElem?_eq_some_iff.1 hj').1; omega) x hj'⟩), rfl⟩
    obtain ⟨x, hxk⟩ := get_ex hlt
    obtain ⟨c0, c1, c2, c3, c4, c5⟩ := pcCells HX.out (Below.refl _ w) hxk
    have i1 := idx_at (c := c) 6 Tryz.underlying22 szPc ha k hlt
    have f : (k : Int) < (l.length : Int) := by omega
    have HLr := Lib.hid (longRowsD_any x.va x.rows 30 w (HH.out x (List.mem_of_getElem? hxk)).1)
    obtain ⟨ak, ck, hvk, -, -⟩ := At.form' (HH.out x (List.mem_of_getElem? hxk)).2
    rw [hvk] at c4
    have Hx := Lib.hid hxk; clear hxk hvk
    by_cases p1 : x.path.length ≤ 20
    case neg =>
      have q1 : (20 : Int) < (x.path.length : Int) := by omega
      have Hp := Lib.hid p1
      clear p1
      go_wp2_with fail
      go_ret
      exact ⟨ret_true HR.out (fun h : shortPcs l => Hp.out (h.2 x (List.mem_of_getElem? Hx.out)).1), rfl⟩
    have q1 : decide ((20 : Int) < (x.path.length : Int)) = false := by simp; omega
    have P1 := Lib.hid p1
    clear p1
    by_cases p2 : x.part.length ≤ 20
    case neg =>
      have q2 : (20 : Int) < (x.part.length : Int) := by omega
      have Hp := Lib.hid p2
      clear p2
      go_wp2_with fail
      go_ret
      exact ⟨ret_true HR.out (fun h : shortPcs l => Hp.out (h.2 x (List.mem_of_getElem? Hx.out)).2.1), rfl⟩
    have q2 : decide ((20 : Int) < (x.part.length : Int)) = false := by simp; omega
    have P2 := Lib.hid p2
    clear p2
    by_cases p3 : x.spoil.length ≤ 200
    case neg =>
      have q3 : (200 : Int) < (x.spoil.length : Int) := by omega
      have Hp := Lib.hid p3
      clear p3
      go_wp2_with fail
      go_ret
      exact ⟨ret_true HR.out (fun h : shortPcs l => Hp.out (h.2 x (List.mem_of_getElem? Hx.out)).2.2.1), rfl⟩
    have q3 : decide ((200 : Int) < (x.spoil.length : Int)) = false := by simp; omega
    have P3 := Lib.hid p3
    clear p3
    by_cases p4 : shortRws 30 x.rows
    case neg =>
      rw [if_neg p4] at HLr
      have Hp := Lib.hid p4
      clear p4
      go_wp2_with fail
      refine HLr.out.mono ?_
      rintro e w1 ⟨rfl, rfl⟩
      go_wp2_with fail
      go_ret
      exact ⟨ret_true HR.out (fun h : shortPcs l => Hp.out (h.2 x (List.mem_of_getElem? Hx.out)).2.2.2.1), rfl⟩
    rw [if_pos p4] at HLr
    have P4 := Lib.hid p4
    clear p4
    by_cases p5 : x.keys.length ≤ 30
    case neg =>
      have q5 : (30 : Int) < (x.keys.length : Int) := by omega
      have Hp := Lib.hid p5
      clear p5
      go_wp2_with fail
      refine HLr.out.mono ?_
      rintro e w1 ⟨rfl, rfl⟩
      go_wp2_with fail
      go_ret
      exact ⟨ret_true HR.out (fun h : shortPcs l => Hp.out (h.2 x (List.mem_of_getElem? Hx.out)).2.2.2.2), rfl⟩
    have q5 : decide ((30 : Int) < (x.keys.length : Int)) = false := by simp; omega
    have P5 := Lib.hid p5
    clear p5
    go_wp2_with fail
    refine HLr.out.mono ?_
    rintro e w1 ⟨rfl, rfl⟩
    go_wp2_with fail
    go_round
    case rel => exact ⟨k + 1, by omega, by go_num, Lib.hid fun j hj' y hy => by
      rcases Nat.lt_or_ge j k with h | h
      · exact hj.out j h y hy
      · obtain rfl : j = k := by omega
        rw [Hx.out] at hy
        obtain rfl := Option.some.inj hy
        exact ⟨P1.out, P2.out, P3.out, P4.out, P5.out⟩⟩
    case measure => simp [intOf]; omega
end Go.Proofs.YtpfohfihkmjnaaaGreatDoor
namespace Go.Proofs.YtpfohfihkmjnaaaGreatDoor
open Go.RowKit

theorem i64_xor_nat (a b : Nat) (ha : a < 4294967296) (hb : b < 4294967296) : bits .xor .i64 (a : Int) (b : Int) = ((a ^^^ b : Nat) : Int) := by
  have hx : a ^^^ b < 2 ^ 32 := Nat.xor_lt_two_pow (by omega) (by omega)
  show IntKind.i64.wrap ((BitVec.ofInt 64 (a : Int) ^^^ BitVec.ofInt 64 (b : Int)).toNat : Int) = _
  rw [BitVec.toNat_xor, ofInt_u64 a (by omega), ofInt_u64 b (by omega), IntKind.wrap_i64]
  omega
set_option maxRecDepth 400000 in
set_option maxHeartbeats 1000000 in
theorem refSum_any (s : Str) (w : World) (hs : s.length ≤ 100000) :
    Calls Tryz.prog 117 #[S s] w fun e w' => e = .returned (.int .i64 (sumOf s : Nat)) ∧ w = w' := by
  go_enter Tryz.func117, Tryz.ntmps117
  go_wp2_with fail
  go_loop [3, 4] (fun c i => ∃ k : Nat, k ≤ s.length ∧ i = .int .i64 k ∧ c = .int .i64 (crcFold 4294967295 (s.take k) : Nat)) (fun _ i => s.length - (intOf i).toNat)
  case atStart => exact ⟨0, by omega, rfl, rfl⟩
  case round =>
    obtain ⟨k, hk, rfl, rfl⟩ := hrel
    have hc : crcFold 4294967295 (s.take k) < 4294967296 := crcFold_lt _ (by omega)
    by_cases hlt : k < s.length
    case neg =>
      obtain rfl : k = s.length := by omega
      have f : decide ((s.length : Int) < (s.length : Int)) = false := by simp
      have hf := i64_xor_nat _ 4294967295 hc (by omega)
      rw [List.take_length] at hf hc ⊢
      have HF : Hid (bits .xor .i64 ((crcFold 4294967295 s : Nat) : Int) 4294967295 = (sumOf s : Nat)) := Lib.hid hf
      generalize crcFold 4294967295 s = c at *
      clear hf hc
      go_wp2_with fail
      go_ret
      exact ⟨show Ending.returned (.int .i64 (bits .xor .i64 (c : Int) 4294967295)) = _ by rw [HF.out], rfl⟩
    have hk1 : (k : Int) < s.length := by omega
    have hsn : crcFold 4294967295 (s.take (k + 1)) = crcStep (crcFold 4294967295 (s.take k)) s[k] := by
      rw [take_snoc' (x := s[k]) (by simp [hlt]), crcFold_snoc]
    have HSn := Lib.hid hsn; clear hsn
    generalize crcFold 4294967295 (s.take k) = c at *
    have hbk : (({ data := s.toArray } : ByteArray)[k]'(by simpa [ByteArray.size] using hlt)) = s[k] := rfl
    have hr1 := i64_xor_nat c s[k].toNat hc (by have := byte_lt s[k]; omega)
    have hx := xor_byte hc s[k]
    have hy0 : (0 : Int) ≤ (s[k].toNat : Int) := by omega
    have hy1 : (s[k].toNat : Int) < 256 := by have := byte_lt s[k]; omega
    have hst : crcStep c s[k] = crcIter 8 (c ^^^ s[k].toNat) := rfl
    rw [hst] at HSn
    clear hst
    have HSl := Lib.hid hlt
    generalize c ^^^ s[k].toNat = x at *
    go_wp2_with fail
    go_loop [3, 5] (fun d j => ∃ m : Nat, m ≤ 8 ∧ j = .int .i64 m ∧ d = .int .i64 (crcIter m x : Nat)) (fun _ j => 8 - (intOf j).toNat)
    case atStart => exact ⟨0, by omega, rfl, rfl⟩
    case round =>
      obtain ⟨m, hm, rfl, rfl⟩ := hrel
      by_cases hm8 : m < 8
      case neg =>
        obtain rfl : m = 8 := by omega
        go_wp2_with fail
        refine ⟨⟨k + 1, by omega, by go_num, by rw [HSn.out]⟩, ?_⟩
        simp [intOf]; omega
      have hm8' : (m : Int) < 8 := by omega
      have hd : crcIter m x < 4294967296 := crcIter_lt m hx
      have hsu : crcIter (m + 1) x = crcBit (crcIter m x) := crcIter_succ m x
      have HSu := Lib.hid hsu; clear hsu
      generalize crcIter m x = d at *
      have h1 : (0 : Int) ≤ d := by omega
      have h2 : (d : Int) < 4294967296 := by omega
      rcases Nat.mod_two_eq_zero_or_one d with hp | hp
      · have t1 : ((d : Int) % 2 == 1) = false := beq_eq_false_iff_ne.2 (by omega)
        have t2 : ((d : Int).tmod 2 == 1) = false := by rw [Int.tmod_eq_emod_of_nonneg h1]; exact t1
        have q0 : ((crcBit d : Nat) : Int) = (d : Int) / 2 := by unfold crcBit; rw [if_neg (by omega)]; omega
        have Q0 := Lib.hid q0
        clear hd hp q0
        go_wp2_with fail
        refine ⟨⟨m + 1, by omega, by go_num, by rw [HSu.out, Q0.out]⟩, ?_⟩
        simp [intOf]; omega
      · have t1 : ((d : Int) % 2 == 1) = true := by rw [beq_iff_eq]; omega
        have t2 : ((d : Int).tmod 2 == 1) = true := by rw [Int.tmod_eq_emod_of_nonneg h1]; exact t1
        have q1 : bits .xor .i64 ((d : Int) / 2) 3988292384 = ((crcBit d : Nat) : Int) := by
          have := i64_xor_nat (d / 2) 3988292384 (by omega) (by omega)
          rw [show ((d / 2 : Nat) : Int) = (d : Int) / 2 by omega] at this
          unfold crcBit crcP
          rw [if_pos hp]
          exact this
        have q2 : bits .xor .i64 ((d : Int).tdiv 2) 3988292384 = ((crcBit d : Nat) : Int) := by rw [Int.tdiv_eq_ediv_of_nonneg h1]; exact q1
        clear hd hp
        go_wp2_with fail
        refine ⟨⟨m + 1, by omega, by go_num, by rw [HSu.out]⟩, ?_⟩
        simp [intOf]; omega
end Go.Proofs.YtpfohfihkmjnaaaGreatDoor
namespace Go.Proofs.YtpfohfihkmjnaaaGreatDoor
open Go.RowKit

theorem ends_snoc {q : List Int} (h : q ≠ []) (x : Int) : endsI (q ++ [x]) = (if x < (endsI q).1 then x else (endsI q).1, if (endsI q).2 < x then x else (endsI q).2) := by
  match q, h with
  | a :: r, _ =>
    have h1 : Lib.minOf (a :: r ++ [x]) = min (Lib.minOf (a :: r)) x := by
      show ((a :: r) ++ [x]).foldl min a = min ((a :: r).foldl min a) x
      rw [List.foldl_append]; rfl
    have h2 : Lib.maxOf (a :: r ++ [x]) = max (Lib.maxOf (a :: r)) x := by
      show ((a :: r) ++ [x]).foldl max a = max ((a :: r).foldl max a) x
      rw [List.foldl_append]; rfl
    have e1 : endsI (a :: r) = (Lib.minOf (a :: r), Lib.maxOf (a :: r)) := if_neg (by simp)
    have e2 : endsI (a :: r ++ [x]) = (Lib.minOf (a :: r ++ [x]), Lib.maxOf (a :: r ++ [x])) := if_neg (by simp)
    rw [e2, e1, h1, h2]
    refine Prod.ext ?_ ?_
    · show min (Lib.minOf (a :: r)) x = if x < Lib.minOf (a :: r) then x else Lib.minOf (a :: r)
      split <;> omega
    · show max (Lib.maxOf (a :: r)) x = if Lib.maxOf (a :: r) < x then x else Lib.maxOf (a :: r)
      split <;> omega
theorem ends_one (x : Int) : endsI [x] = (x, x) := by
  unfold endsI
  rw [if_neg (by simp)]
  show (min x x, max x x) = (x, x)
  rw [Int.min_self, Int.max_self]
set_option maxHeartbeats 1000000 in
theorem refEnds_any (v : Value) (l : List Int) (w : World) (hl : IntsAt w v l) :
    Calls Tryz.prog 82 #[v] w fun e w' => e = .returned (.tuple #[.int .i64 (endsI l).1, .int .i64 (endsI l).2]) ∧ w = w' := by
  obtain ⟨a, c, b, o, rfl, ha, hc, hcm, hx⟩ := hl
  unfold maxLen at hcm
  rcases Nat.eq_zero_or_pos l.length with h0 | hpos
  · obtain rfl := List.eq_nil_of_length_eq_zero h0
    go_enter Tryz.func82, Tryz.ntmps82
    go_wp2_with fail
    go_ret2
    exact ⟨rfl, rfl⟩
  obtain rfl := ha hpos
  obtain ⟨x0, hx0⟩ := get_ex hpos
  have c0 := hx 0 x0 hx0 0 _ rfl
  have i0 := idx_at (c := c) (b := b) (o := o) 1 Tryz.underlying69 szInt (fun _ => rfl) 0 hpos
  simp only [Nat.zero_mul, Nat.add_zero] at c0 i0
  have e0 : ((0 : Nat) : Int) = 0 := rfl
  rw [e0] at i0
  have gk : ((l.length : Int) == 0) = false := beq_eq_false_iff_ne.2 (by omega)
  have hp1 : (0 : Int) < (l.length : Int) := by omega
  have H1 : Hid (endsI (l.take 1) = (x0, x0)) := Lib.hid (by
    rw [show l.take 1 = [x0] by rw [show (1 : Nat) = 0 + 1 from rfl, take_snoc' hx0]; rfl, ends_one])
  have HX := Lib.hid hx
  clear e0 hx0 hx
  go_enter Tryz.func82, Tryz.ntmps82
  go_wp2_with fail
  go_loop [4, 5, 6] (fun lo hi i => ∃ k : Nat, 1 ≤ k ∧ k ≤ l.length ∧ i = .int .i64 k ∧ ∃ m n, lo = .int .i64 m ∧ hi = .int .i64 n ∧ Hid (endsI (l.take k) = (m, n))) (fun _ _ i => l.length - (intOf i).toNat)
  case atStart => exact ⟨1, by omega, by omega, rfl, x0, x0, rfl, rfl, H1⟩
  case round =>
    obtain ⟨k, hk1, hk, rfl, m, n, rfl, rfl, hmn⟩ := hrel
    by_cases hlt : k < l.length
    case neg =>
      obtain rfl : k = l.length := by omega
      have f : decide ((l.length : Int) < (l.length : Int)) = false := by simp
      have HE : Hid (endsI l = (m, n)) := Lib.hid (by have := hmn.out; rwa [List.take_length] at this)
      go_wp2_with fail
      go_ret2
      exact ⟨by rw [HE.out]; rfl, rfl⟩
    obtain ⟨x, hxk⟩ := get_ex hlt
    have c1 := HX.out k x hxk 0 _ rfl
    have i1 := idx_at (c := c) (b := b) (o := o) 1 Tryz.underlying69 szInt (fun _ => rfl) k hlt
    simp only [Nat.mul_one, Nat.add_zero] at c1 i1
    have f : (k : Int) < (l.length : Int) := by omega
    have HN := Lib.hid (show endsI (l.take (k + 1)) = (if x < m then x else m, if n < x then x else n) by
      rw [take_snoc' hxk, ends_snoc (fun e => by have := congrArg List.length e; rw [List.length_take] at this; simp only [List.length_nil] at this; omega), hmn.out])
    clear hxk
    have hmw : (x < m ∧ (if x < m then x else m) = x) ∨ (decide (x < m) = false ∧ (if x < m then x else m) = m) := by
      by_cases h : x < m
      · exact .inl ⟨h, if_pos h⟩
      · exact .inr ⟨decide_eq_false h, if_neg h⟩
    have hnw : (n < x ∧ (if n < x then x else n) = x) ∨ (decide (n < x) = false ∧ (if n < x then x else n) = n) := by
      by_cases h : n < x
      · exact .inl ⟨h, if_pos h⟩
      · exact .inr ⟨decide_eq_false h, if_neg h⟩
    rcases hmw with ⟨g1, e1⟩ | ⟨g1, e1⟩
    all_goals
      rcases hnw with ⟨g2, e2⟩ | ⟨g2, e2⟩
      all_goals
        rw [e1, e2] at HN
        clear e1 e2
        go_wp2_with fail
        go_round
        case rel => exact ⟨k + 1, by omega, by omega, by go_num, _, _, rfl, rfl, HN⟩
        case measure => simp [intOf]; omega
set_option maxHeartbeats 1000000 in
theorem wholeText_any (word : Str) (v : Value) (keys : List Int) (body : Str) (w : World) (hk : IntsAt w v keys) (hw : word.length ≤ 10) (hn : keys.length ≤ 1000) (hend : (-9223372036854775808 ≤ (endsI keys).1 ∧ (endsI keys).1 ≤ 9223372036854775807) ∧ (-9223372036854775808 ≤ (endsI keys).2 ∧ (endsI keys).2 ≤ 9223372036854775807)) (hb : body.length ≤ 100000) :
    Calls Tryz.prog 74 #[S word, v, S body] w fun e w' => e = .returned (S (wholeT word keys body)) ∧ Below w.heap.size w w' := by
  have HE := Lib.hid (refEnds_any v keys w hk)
  obtain ⟨a, c, rfl, -, -⟩ := hk.form'
  have hsl := sumOf_lt body
  have HD := Lib.hid (fun m (h0 : -9223372036854775808 ≤ m) (h1 : m ≤ 9223372036854775807) W => decimalE_any m W h0 h1)
  have HSm := Lib.hid (fun W => refSum_any body W hb)
  have hW : wholeT word keys body = (((((((word ++ [32]) ++ Lib.itoa keys.length) ++ [32]) ++ Lib.itoa (endsI keys).1) ++ [32]) ++ Lib.itoa (endsI keys).2) ++ [32]) ++ Lib.itoa (sumOf body) ++ [10] ++ body := by
    unfold wholeT headT numsTail
    simp
  have HWh := Lib.hid hW
  have l0 := itoa_len keys.length (by omega) (by omega)
  have l1 := itoa_len (endsI keys).1 hend.1.1 hend.1.2
  have l2 := itoa_len (endsI keys).2 hend.2.1 hend.2.2
  have l3 := itoa_len (sumOf body) (by omega) (by omega)
  have HSl := Lib.hid hsl
  rw [hW]
  clear hW hk hsl
  generalize endsI keys = en at *
  obtain ⟨lo, hi⟩ := en
  simp only at HE HD l1 l2 hend HWh ⊢
  obtain ⟨t0, ht0⟩ : ∃ t, Lib.itoa (keys.length : Int) = t := ⟨_, rfl⟩
  obtain ⟨t1, ht1⟩ : ∃ t, Lib.itoa lo = t := ⟨_, rfl⟩
  obtain ⟨t2, ht2⟩ : ∃ t, Lib.itoa hi = t := ⟨_, rfl⟩
  obtain ⟨t3, ht3⟩ : ∃ t, Lib.itoa (sumOf body : Int) = t := ⟨_, rfl⟩
  have D0 := Lib.hid (fun W => HD.out keys.length (by omega) (by omega) W)
  have D1 := Lib.hid (fun W => HD.out lo hend.1.1 hend.1.2 W)
  have D2 := Lib.hid (fun W => HD.out hi hend.2.1 hend.2.2 W)
  have D3 := Lib.hid (fun W => HD.out (sumOf body : Int) (by omega) (by have := HSl.out; omega) W)
  rw [ht0] at D0 l0 ⊢
  rw [ht1] at D1 l1 ⊢
  rw [ht2] at D2 l2 ⊢
  rw [ht3] at D3 l3 ⊢
  clear ht0 ht1 ht2 ht3 HD HWh HSl hend
  generalize sumOf body = sm at *
  have app : ∀ (p q : Str), p.length + q.length ≤ 1000000 → ∀ W, (Op.stringOp .add ⟨p.toArray⟩ ⟨q.toArray⟩).run Tryz.prog W = .ok (.string ⟨(p ++ q).toArray⟩) W := fun p q h W => by
    have := cat_run ⟨p.toArray⟩ ⟨q.toArray⟩ p.length q.length rfl rfl h W
    rwa [S_app] at this
  have a1 := app word [32] (by simp; omega)
  have a2 := app (word ++ [32]) t0 (by simp; omega)
  have a3 := app ((word ++ [32]) ++ t0) [32] (by simp; omega)
  have a4 := app (((word ++ [32]) ++ t0) ++ [32]) t1 (by simp; omega)
  have a5 := app ((((word ++ [32]) ++ t0) ++ [32]) ++ t1) [32] (by simp; omega)
  have a6 := app (((((word ++ [32]) ++ t0) ++ [32]) ++ t1) ++ [32]) t2 (by simp; omega)
  have a7 := app ((((((word ++ [32]) ++ t0) ++ [32]) ++ t1) ++ [32]) ++ t2) [32] (by simp; omega)
  have a8 := app (((((((word ++ [32]) ++ t0) ++ [32]) ++ t1) ++ [32]) ++ t2) ++ [32]) t3 (by simp; omega)
  have a9 := app ((((((((word ++ [32]) ++ t0) ++ [32]) ++ t1) ++ [32]) ++ t2) ++ [32]) ++ t3) [10] (by simp; omega)
  have a10 := app (((((((((word ++ [32]) ++ t0) ++ [32]) ++ t1) ++ [32]) ++ t2) ++ [32]) ++ t3) ++ [10]) body (by simp; omega)
  clear app l0 l1 l2 l3
  generalize hA1 : word ++ [32] = A1 at *
  generalize hA2 : A1 ++ t0 = A2 at *
  generalize hA3 : A2 ++ [32] = A3 at *
  generalize hA4 : A3 ++ t1 = A4 at *
  generalize hA5 : A4 ++ [32] = A5 at *
  generalize hA6 : A5 ++ t2 = A6 at *
  generalize hA7 : A6 ++ [32] = A7 at *
  generalize hA8 : A7 ++ t3 = A8 at *
  generalize hA9 : A8 ++ [10] = A9 at *
  generalize hA10 : A9 ++ body = A10 at *
  clear hA1 hA2 hA3 hA4 hA5 hA6 hA7 hA8 hA9 hA10
  go_enter Tryz.func74, Tryz.ntmps74
  go_wp2_with fail
  refine HE.out.mono ?_
  rintro e w1 ⟨rfl, rfl⟩
  go_wp2_with fail
  refine (D0.out _).mono ?_
  rintro e w2 ⟨rfl, hb2⟩
  go_wp2_with fail
  refine (D1.out _).mono ?_
  rintro e w3 ⟨rfl, hb3⟩
  have hb3' := hb2.trans (hb3.mono hb2.size)
  go_wp2_with fail
  refine (D2.out _).mono ?_
  rintro e w4 ⟨rfl, hb4⟩
  have hb4' := hb3'.trans (hb4.mono hb3'.size)
  go_wp2_with fail
  refine (HSm.out _).mono ?_
  rintro e w5 ⟨rfl, rfl⟩
  go_wp2_with fail
  refine (D3.out _).mono ?_
  rintro e w6 ⟨rfl, hb6⟩
  go_wp2_with fail
  go_ret
  exact ⟨rfl, hb4'.trans (hb6.mono hb4'.size)⟩
end Go.Proofs.YtpfohfihkmjnaaaGreatDoor
namespace Go.Proofs.YtpfohfihkmjnaaaGreatDoor
open Go.RowKit

set_option maxHeartbeats 2000000 in
set_option maxRecDepth 20000 in
theorem goneOf_any (v : Value) (l : List Int) (w : World) (hl : IntsAt w v l) (hn : l.length ≤ 1000) :
    Calls Tryz.prog 33 #[v] w fun e w' => e = .returned (.tuple #[S (madeT l), faultOf (madeE l)]) ∧ Below w.heap.size w w' := by
  have hba : Below w.heap.size w (w.alloc (.cells #[.int .i64 0, .int .i64 0] 58)) := (Below.refl w.heap.size w).alloc (Nat.le_refl _) (.cells #[.int .i64 0, .int .i64 0] 58)
  have hG := fun W (h : Below (w.alloc (.cells #[.int .i64 0, .int .i64 0] 58)).heap.size (w.alloc (.cells #[.int .i64 0, .int .i64 0] 58)) W) => ((h.block w.heap.size (by simp)).trans (heap_alloc_new w (.cells #[.int .i64 0, .int .i64 0] 58)))
  have HG := Lib.hid hG; clear hG
  have HSz : Hid ((w.alloc (.cells #[.int .i64 0, .int .i64 0] 58)).heap.size = w.heap.size + 1) := Lib.hid (by simp)
  have HRi := Lib.hid (risingOf_any v l (w.alloc (.cells #[.int .i64 0, .int .i64 0] 58)) (hl.below ((Below.refl _ _).alloc (Nat.le_refl _) _)) (by omega))
  have hql := risOf_len l
  obtain ⟨a, c, b, o, rfl, ha, hc, hcm, hx⟩ := hl
  unfold maxLen at hcm
  have HX := Lib.hid hx
  have HM : Hid (madeE l = if 40 < (risOf l).length then .bare 8 else firstErr (farF l) l.length) := Lib.hid rfl
  have HMt : Hid (madeT l = if madeE l = .nil then goneText (risOf l) else []) := Lib.hid rfl
  have HNear : Hid (firstErr (farF l) l.length = .nil → ∀ n ∈ risOf l, ¬ farN n) := Lib.hid (fun h n hn => near_all h n (mem_risOf.1 hn))
  clear hx
  generalize risOf l = q at *
  go_enter Tryz.func33, Tryz.ntmps33
  go_wp2_with fail
  generalize w.alloc (.cells #[.int .i64 0, .int .i64 0] 58) = w0 at *
  refine HRi.out.mono ?_
  rintro e w1 ⟨u, rfl, hu, hb1⟩
  have hbw1 := hba.trans (hb1.mono hba.size)
  have HU := Lib.hid (fun W (h : Below w1.heap.size w1 W) => hu.below h)
  obtain ⟨aq, cq, bq, oq, rfl, haq, hcq, hcmq, hxq⟩ := hu
  unfold maxLen at hcmq
  have HXq := Lib.hid hxq
  clear hxq HRi
  by_cases h40 : 40 < q.length
  case pos =>
    have g : (40 : Int) < (q.length : Int) := by omega
    have hm : madeE l = .bare 8 := by rw [HM.out, if_pos h40]
    have HMe := Lib.hid hm
    have HMT : Hid (madeT l = []) := Lib.hid (by rw [HMt.out, hm]; rfl)
    clear h40 hm
    go_wp2_with fail
    refine (refBare_any 8 _).mono ?_
    rintro e wB ⟨rfl, hbB⟩
    have hb0B := (hb1).trans (hbB.mono (hb1).size)
    have hbwB := (hbw1).trans (hbB.mono (hbw1).size)
    have hg := HG.out _ (hb0B)
    have c0' : wB.cell? ⟨w.heap.size, 0, none⟩ = some (.int .i64 0) := by simp [World.cell?, hg]
    have c1' : wB.cell? ⟨w.heap.size, 1, none⟩ = some (.int .i64 0) := by simp [World.cell?, hg]
    have f0' : wB.frozen? ⟨w.heap.size, 0, none⟩ = false := by simp [World.frozen?, hg]
    have f1' : wB.frozen? ⟨w.heap.size, 1, none⟩ = false := by simp [World.frozen?, hg]
    have HGg := Lib.hid hg; clear hg
    unfold faultV
    go_wp2_with fail
    refine bodyPost_ret (fault_tc (g := w.heap.size) rfl rfl (set_two HGg.out _ _) rfl) rfl ⟨by rw [HMT.out, HMe.out]; rfl, ((hbwB).setCell (by simp) _).setCell (by simp) _⟩
  have g : decide ((40 : Int) < (q.length : Int)) = false := by simp; omega
  have HM2 : Hid (madeE l = firstErr (farF l) l.length) := Lib.hid (by rw [HM.out, if_neg h40])
  have hq40 : q.length ≤ 40 := by omega
  clear h40
  go_wp2_with fail
  go_loopw [5] (fun i wr => ∃ k : Nat, k ≤ l.length ∧ i = .int .i64 k ∧ Hid (∀ j < k, farF l j = 0) ∧ w1 = wr) (fun i _ => l.length - (intOf i).toNat)
  case atStart => exact ⟨0, by omega, rfl, Lib.hid fun j hj => absurd hj (by omega), rfl⟩
  case round =>
    obtain ⟨k, hk, rfl, hj, rfl⟩ := hrel
    by_cases hlt : k < l.length
    case pos =>
      obtain ⟨x, hxk⟩ := get_ex hlt
      have c1 := HX.out k x hxk 0 _ rfl
      have c1 := (hbw1.cell (World.block_lt_of_cell? w _ c1)).trans c1
      have i1 := idx_at (c := c) 1 Tryz.underlying69 szInt ha k hlt
      simp only [Nat.mul_one, Nat.add_zero] at c1 i1
      have f : (k : Int) < (l.length : Int) := by omega
      have hfk : farF l k = if farN x then 2 else 0 := by unfold farF; rw [hxk]
      have HFk := Lib.hid hfk
      clear hxk hfk
      by_cases hf : farN x
      case pos =>
        have hd : decide (farN x) = true := decide_eq_true hf
        have hm : madeE l = .loc 2 k := by rw [HM2.out, firstErr_hit hlt hj.out (by rw [HFk.out, if_pos hf]; decide), HFk.out, if_pos hf]
        have HMe := Lib.hid hm
        have HMT : Hid (madeT l = []) := Lib.hid (by rw [HMt.out, hm]; rfl)
        clear hm hf
        have hg := HG.out _ (hb1)
        have c0' : w1.cell? ⟨w.heap.size, 0, none⟩ = some (.int .i64 0) := by simp [World.cell?, hg]
        have c1' : w1.cell? ⟨w.heap.size, 1, none⟩ = some (.int .i64 0) := by simp [World.cell?, hg]
        have f0' : w1.frozen? ⟨w.heap.size, 0, none⟩ = false := by simp [World.frozen?, hg]
        have f1' : w1.frozen? ⟨w.heap.size, 1, none⟩ = false := by simp [World.frozen?, hg]
        have HGg := Lib.hid hg; clear hg
        go_wp2_with (first | (go_at_call 77; refine (isFar_any _ _).mono ?_; rintro e w' ⟨rfl, rfl⟩; try rw [hd]))
        refine bodyPost_ret (fault_tc (g := w.heap.size) rfl rfl (set_two HGg.out _ _) rfl) rfl ⟨by rw [HMT.out, HMe.out]; rfl, ((hbw1).setCell (by simp) _).setCell (by simp) _⟩
      have hd : decide (farN x) = false := decide_eq_false hf
      have HJ1 : Hid (∀ j < k + 1, farF l j = 0) := Lib.hid fun j hj' => (by
        rcases Nat.lt_or_ge j k with h | h
        · exact hj.out j h
        · obtain rfl : j = k := by omega
          rw [HFk.out, if_neg hf])
      clear hf
      go_wp2_with (first | (go_at_call 77; refine (isFar_any _ _).mono ?_; rintro e w' ⟨rfl, rfl⟩; try rw [hd]))
      go_roundw
      case rel => exact ⟨k + 1, by omega, by go_num, HJ1, by first | rfl | trivial⟩
      case measure => simp [intOf]; omega
    obtain rfl : k = l.length := by omega
    have f : decide ((l.length : Int) < (l.length : Int)) = false := by simp
    have hfe : firstErr (farF l) l.length = .nil := firstErr_all hj.out
    have hm : madeE l = .nil := HM2.out.trans hfe
    have HMe := Lib.hid hm
    have HMT : Hid (madeT l = wholeT kGone q (bodyT (q.map Lib.itoa))) := Lib.hid (by rw [HMt.out, if_pos hm]; rfl)
    have HNr := Lib.hid (HNear.out hfe)
    clear hm hfe hlt
    have hlen : ∀ k, (bodyT ((q.take k).map Lib.itoa)).length ≤ 880 := fun k => by
      have hbl := body_len (m := 21) (ls := (q.take k).map Lib.itoa) fun s hs => by
        obtain ⟨n, hn', rfl⟩ := List.mem_map.1 hs
        have := near (HNr.out n (List.mem_of_mem_take hn'))
        exact itoa_len n (by omega) (by omega)
      rw [List.length_map, List.length_take] at hbl
      omega
    have HLen := Lib.hid hlen
    clear hlen
    go_wp2_with fail
    go_loopw [7, 8] (fun u i wr => ∃ k : Nat, k ≤ q.length ∧ i = .int .i64 k ∧ u = S (bodyT ((q.take k).map Lib.itoa)) ∧ Below w1.heap.size w1 wr) (fun _ i _ => q.length - (intOf i).toNat)
    case atStart => exact ⟨0, by omega, rfl, rfl, Below.refl _ _⟩
    case round =>
      obtain ⟨k, hk, rfl, rfl, hb⟩ := hrel
      obtain ⟨wo, rfl⟩ : ∃ wo, wo = wr := ⟨wr, rfl⟩
      have hb0o := hb1.trans (hb.mono hb1.size)
      have hbwo := hbw1.trans (hb.mono hbw1.size)
      by_cases hlt : k < q.length
      case neg =>
        obtain rfl : k = q.length := by omega
        have f : decide ((q.length : Int) < (q.length : Int)) = false := by simp
        have hl880 := HLen.out q.length
        rw [List.take_length] at hl880 ⊢
        obtain ⟨e1, e2⟩ := ends_within (B := 1073741824) (by omega) fun x hx => near (HNr.out x hx)
        have HWt := Lib.hid (wholeText_any kGone _ q (bodyT (q.map Lib.itoa)) wo (HU.out _ hb) (by decide) (by omega) (by omega) (by omega))
        clear e1 e2
        generalize bodyT (q.map Lib.itoa) = bd at *
        go_wp2_with fail
        refine HWt.out.mono ?_
        rintro e w4 ⟨rfl, hb4⟩
        have hb04 := hb0o.trans (hb4.mono hb0o.size)
        have hbw4 := hbwo.trans (hb4.mono hbwo.size)
        go_wp2_with fail
        refine (refFine_any _).mono ?_
        rintro e wB ⟨rfl, hbB⟩
        have hb0B := (hb04).trans (hbB.mono (hb04).size)
        have hbwB := (hbw4).trans (hbB.mono (hbw4).size)
        have hg := HG.out _ (hb0B)
        have c0' : wB.cell? ⟨w.heap.size, 0, none⟩ = some (.int .i64 0) := by simp [World.cell?, hg]
        have c1' : wB.cell? ⟨w.heap.size, 1, none⟩ = some (.int .i64 0) := by simp [World.cell?, hg]
        have f0' : wB.frozen? ⟨w.heap.size, 0, none⟩ = false := by simp [World.frozen?, hg]
        have f1' : wB.frozen? ⟨w.heap.size, 1, none⟩ = false := by simp [World.frozen?, hg]
        have HGg := Lib.hid hg; clear hg
        unfold faultV
        go_wp2_with fail
        refine bodyPost_ret (fault_tc (g := w.heap.size) rfl rfl (set_two HGg.out _ _) rfl) rfl ⟨by rw [HMT.out, HMe.out]; rfl, ((hbwB).setCell (by simp) _).setCell (by simp) _⟩
      obtain ⟨x, hxk⟩ := get_ex hlt
      have c1 := HXq.out k x hxk 0 _ rfl
      have c1 := (hb.cell (World.block_lt_of_cell? w1 _ c1)).trans c1
      have i1 := idx_at (c := cq) 1 Tryz.underlying69 szInt haq k hlt
      have f : (k : Int) < (q.length : Int) := by omega
      simp only [Nat.mul_one, Nat.add_zero] at c1 i1
      have hnx := near (HNr.out x (List.mem_of_getElem? hxk))
      have HD := Lib.hid (decimalE_any x wo (by omega) (by omega))
      have htl := itoa_len x (by omega) (by omega)
      have hbl := HLen.out k
      have HSn : Hid (bodyT ((q.take (k + 1)).map Lib.itoa) = (bodyT ((q.take k).map Lib.itoa) ++ Lib.itoa x) ++ [10]) := Lib.hid (by
        rw [take_snoc' hxk, List.map_append, List.map_cons, List.map_nil, bodyT_snoc]; simp)
      clear hxk hnx
      generalize Lib.itoa x = tx at *
      generalize bodyT ((q.take k).map Lib.itoa) = bd at *
      have app : ∀ (p q : Str), p.length + q.length ≤ 1000000 → ∀ W, (Op.stringOp .add ⟨p.toArray⟩ ⟨q.toArray⟩).run Tryz.prog W = .ok (.string ⟨(p ++ q).toArray⟩) W := fun p q h W => by
        have := cat_run ⟨p.toArray⟩ ⟨q.toArray⟩ p.length q.length rfl rfl h W
        rwa [S_app] at this
      have a1 := app bd tx (by omega)
      have a2 := app (bd ++ tx) [10] (by simp; omega)
      clear app
      generalize hA1 : bd ++ tx = A1 at *
      generalize hA2 : A1 ++ [10] = A2 at *
      clear hA1 hA2
      go_wp2_with fail
      refine HD.out.mono ?_
      rintro e w3 ⟨rfl, hb3⟩
      go_wp2_with fail
      go_roundw
      case rel => exact ⟨k + 1, by omega, by go_num, by rw [HSn.out], hb.trans (hb3.mono hb.size)⟩
      case measure => simp [intOf]; omega
/-- What a head's check answers. -/
def headEr (n keys : List Int) : Er := if 40 < keys.length then .bare 8 else if fitsI n keys then .nil else .bare 3
theorem fault_c {fn : Func} {p : Tmp} (h : fn.results = #[.cell p 58]) {tmps : Array Value} {w : World} {g : Nat} {c q : Int} (hp : tmps.getD p undef = .pointer (some ⟨g, 0, none⟩)) (hg : w.heap[g]? = some (.cells #[.int .i64 c, .int .i64 q] 58 (0, 0))) :
    (results fn tmps).run Tryz.prog w = .ok (faultV c q) w :=
  results_cell_row h _ _ g 58 #[.int .i64 c, .int .i64 q] (0, 0) _ hp hg Tryz.underlying58 rfl (by kernel_rfl)
set_option maxHeartbeats 2000000 in
set_option maxRecDepth 20000 in
theorem headFault_any (v : Value) (n0 n1 n2 n3 : Int) (u : Value) (keys : List Int) (w : World) (hl : IntsAt w v [n0, n1, n2, n3]) (hk : IntsAt w u keys) :
    Calls Tryz.prog 122 #[v, u] w fun e w' => e = .returned (faultOf (headEr [n0, n1, n2, n3] keys)) ∧ Below w.heap.size w w' := by
  have hba : Below w.heap.size w (w.alloc (.cells #[.int .i64 0, .int .i64 0] 58)) := (Below.refl w.heap.size w).alloc (Nat.le_refl _) (.cells #[.int .i64 0, .int .i64 0] 58)
  have hG := fun W (h : Below (w.alloc (.cells #[.int .i64 0, .int .i64 0] 58)).heap.size (w.alloc (.cells #[.int .i64 0, .int .i64 0] 58)) W) => ((h.block w.heap.size (by simp)).trans (heap_alloc_new w (.cells #[.int .i64 0, .int .i64 0] 58)))
  have HG := Lib.hid hG; clear hG
  have HSz : Hid ((w.alloc (.cells #[.int .i64 0, .int .i64 0] 58)).heap.size = w.heap.size + 1) := Lib.hid (by simp)
  have HEn := Lib.hid (fun W (h : Below w.heap.size w W) => refEnds_any u keys W (hk.below h))
  obtain ⟨a, c, rfl, -, -⟩ := hk.form'
  obtain ⟨a4, c4, b4, o4, hv4, ha4, hc4, hcm4, hx4⟩ := hl
  subst hv4
  obtain rfl := ha4 (by simp)
  have z0 := hx4 0 _ rfl 0 _ rfl
  have z1 := hx4 1 _ rfl 0 _ rfl
  have z2 := hx4 2 _ rfl 0 _ rfl
  simp only [Nat.mul_one, Nat.add_zero] at z0 z1 z2
  have Z := Lib.hid (fun W (h : Below w.heap.size w W) => (⟨(h.cell (World.block_lt_of_cell? w _ z0)).trans z0, (h.cell (World.block_lt_of_cell? w _ z1)).trans z1, (h.cell (World.block_lt_of_cell? w _ z2)).trans z2⟩ : _ ∧ _ ∧ _))
  have hl4 : [n0, n1, n2, n3].length = 4 := rfl
  rw [hl4]
  have hf : fitsI [n0, n1, n2, n3] keys ↔ n0 = keys.length ∧ n1 = (endsI keys).1 ∧ n2 = (endsI keys).2 := Iff.rfl
  have HF := Lib.hid hf
  have HH : Hid (headEr [n0, n1, n2, n3] keys = if 40 < keys.length then .bare 8 else if fitsI [n0, n1, n2, n3] keys then .nil else .bare 3) := Lib.hid rfl
  clear hx4 ha4 hc4 hcm4 hl4 hf hk z0 z1 z2
  generalize endsI keys = en at *
  obtain ⟨lo, hi⟩ := en
  simp only at HEn HF
  by_cases h40 : 40 < keys.length
  case pos =>
    have g : (40 : Int) < (keys.length : Int) := by omega
    have HHe : Hid (headEr [n0, n1, n2, n3] keys = .bare 8) := Lib.hid (by rw [HH.out, if_pos h40])
    clear h40
    go_enter Tryz.func122, Tryz.ntmps122
    go_wp2_with fail
    generalize w.alloc (.cells #[.int .i64 0, .int .i64 0] 58) = w0 at *
    have hb0r : Below w0.heap.size w0 w0 := Below.refl _ _
    refine (refBare_any 8 _).mono ?_
    rintro e wB ⟨rfl, hbB⟩
    have hb0B := (hb0r).trans (hbB.mono (hb0r).size)
    have hbwB := (hba).trans (hbB.mono (hba).size)
    have hg := HG.out _ (hb0B)
    have c0' : wB.cell? ⟨w.heap.size, 0, none⟩ = some (.int .i64 0) := by simp [World.cell?, hg]
    have c1' : wB.cell? ⟨w.heap.size, 1, none⟩ = some (.int .i64 0) := by simp [World.cell?, hg]
    have f0' : wB.frozen? ⟨w.heap.size, 0, none⟩ = false := by simp [World.frozen?, hg]
    have f1' : wB.frozen? ⟨w.heap.size, 1, none⟩ = false := by simp [World.frozen?, hg]
    have HGg := Lib.hid hg; clear hg
    unfold faultV
    go_wp2_with fail
    refine bodyPost_ret (fault_c (g := w.heap.size) rfl rfl (set_two HGg.out _ _)) rfl ⟨by rw [HHe.out]; rfl, ((hbwB).setCell (by simp) _).setCell (by simp) _⟩
  have g : decide ((40 : Int) < (keys.length : Int)) = false := by simp; omega
  have hway : (fitsI [n0, n1, n2, n3] keys ∧ (n0 != (keys.length : Int)) = false ∧ (n1 != lo) = false ∧ (n2 != hi) = false) ∨ (¬ fitsI [n0, n1, n2, n3] keys ∧ ((n0 != (keys.length : Int)) = true ∨ ((n0 != (keys.length : Int)) = false ∧ ((n1 != lo) = true ∨ ((n1 != lo) = false ∧ (n2 != hi) = true))))) := by
    by_cases h1 : n0 = (keys.length : Int)
    · by_cases h2 : n1 = lo
      · by_cases h3 : n2 = hi
        · exact .inl ⟨HF.out.2 ⟨h1, h2, h3⟩, by simpa using h1, by simpa using h2, by simpa using h3⟩
        · exact .inr ⟨fun h => h3 (HF.out.1 h).2.2, .inr ⟨by simpa using h1, .inr ⟨by simpa using h2, by simpa using h3⟩⟩⟩
      · exact .inr ⟨fun h => h2 (HF.out.1 h).2.1, .inr ⟨by simpa using h1, .inl (by simpa using h2)⟩⟩
    · exact .inr ⟨fun h => h1 (HF.out.1 h).1, .inl (by simpa using h1)⟩
  rcases hway with ⟨hf, g1, g2, g3⟩ | ⟨hf, hw⟩
  case inl =>
    have HHe : Hid (headEr [n0, n1, n2, n3] keys = .nil) := Lib.hid (by rw [HH.out, if_neg h40, if_pos hf])
    clear hf h40
    go_enter Tryz.func122, Tryz.ntmps122
    go_wp2_with fail
    generalize w.alloc (.cells #[.int .i64 0, .int .i64 0] 58) = w0 at *
    have hb0r : Below w0.heap.size w0 w0 := Below.refl _ _
    refine (HEn.out _ hba).mono ?_
    rintro e w1 ⟨rfl, rfl⟩
    obtain ⟨z0, z1, z2⟩ := Z.out _ hba
    go_wp2_with fail
    refine (refFine_any _).mono ?_
    rintro e wB ⟨rfl, hbB⟩
    have hb0B := (hb0r).trans (hbB.mono (hb0r).size)
    have hbwB := (hba).trans (hbB.mono (hba).size)
    have hg := HG.out _ (hb0B)
    have c0' : wB.cell? ⟨w.heap.size, 0, none⟩ = some (.int .i64 0) := by simp [World.cell?, hg]
    have c1' : wB.cell? ⟨w.heap.size, 1, none⟩ = some (.int .i64 0) := by simp [World.cell?, hg]
    have f0' : wB.frozen? ⟨w.heap.size, 0, none⟩ = false := by simp [World.frozen?, hg]
    have f1' : wB.frozen? ⟨w.heap.size, 1, none⟩ = false := by simp [World.frozen?, hg]
    have HGg := Lib.hid hg; clear hg
    unfold faultV
    go_wp2_with fail
    refine bodyPost_ret (fault_c (g := w.heap.size) rfl rfl (set_two HGg.out _ _)) rfl ⟨by rw [HHe.out]; rfl, ((hbwB).setCell (by simp) _).setCell (by simp) _⟩
  have HHe : Hid (headEr [n0, n1, n2, n3] keys = .bare 3) := Lib.hid (by rw [HH.out, if_neg h40, if_neg hf])
  clear hf h40
  rcases hw with g1 | ⟨g1, g2 | ⟨g2, g3⟩⟩
  all_goals
    go_enter Tryz.func122, Tryz.ntmps122
    go_wp2_with fail
    generalize w.alloc (.cells #[.int .i64 0, .int .i64 0] 58) = w0 at *
    have hb0r : Below w0.heap.size w0 w0 := Below.refl _ _
    refine (HEn.out _ hba).mono ?_
    rintro e w1 ⟨rfl, rfl⟩
    obtain ⟨z0, z1, z2⟩ := Z.out _ hba
    go_wp2_with fail
    refine (refBare_any 3 _).mono ?_
    rintro e wB ⟨rfl, hbB⟩
    have hb0B := (hb0r).trans (hbB.mono (hb0r).size)
    have hbwB := (hba).trans (hbB.mono (hba).size)
    have hg := HG.out _ (hb0B)
    have c0' : wB.cell? ⟨w.heap.size, 0, none⟩ = some (.int .i64 0) := by simp [World.cell?, hg]
    have c1' : wB.cell? ⟨w.heap.size, 1, none⟩ = some (.int .i64 0) := by simp [World.cell?, hg]
    have f0' : wB.frozen? ⟨w.heap.size, 0, none⟩ = false := by simp [World.frozen?, hg]
    have f1' : wB.frozen? ⟨w.heap.size, 1, none⟩ = false := by simp [World.frozen?, hg]
    have HGg := Lib.hid hg; clear hg
    unfold faultV
    go_wp2_with fail
    refine bodyPost_ret (fault_c (g := w.heap.size) rfl rfl (set_two HGg.out _ _)) rfl ⟨by rw [HHe.out]; rfl, ((hbwB).setCell (by simp) _).setCell (by simp) _⟩
end Go.Proofs.YtpfohfihkmjnaaaGreatDoor
