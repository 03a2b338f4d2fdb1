/- LongFiles, LongSnap, longChanges: what each answers, as a function of what it is given. deedboxlaw3.changed, longChanges. A change and the document's, side by side, in memory; what changes do. The document's Txn.Add: the walk. deedboxref2.SnapFault: the walk. -/
import Derived.Test.YtmhchakjkgdpmaaGreatDoorTt4
import Derived.Test.YtmhchakjkgdpmaaGreatDoorTt13
import Derived.Test.YtmhchakjkgdpmaaGreatDoorTt9
import Derived.Deep.RegionHeld3
import Derived.Test.YtmhchakjkgdpmaaGreatDoorTt8
namespace Go.Proofs.YtmhchakjkgdpmaaGreatDoor
open Go.RowKit

theorem ret_one {P : Prop} [Decidable P] {r : Int} (hr : (if P then 0 else 1) = r) (h : ¬ P) : Ending.returned (.int .i64 1) = .returned (.int .i64 r) := by rw [← hr, if_neg h]
theorem ret_zero {P : Prop} [Decidable P] {r : Int} (hr : (if P then 0 else 1) = r) (h : P) : Ending.returned (.int .i64 0) = .returned (.int .i64 r) := by rw [← hr, if_pos h]
theorem ret_true {P : Prop} [Decidable P] {r : Bool} (hr : (!decide P) = r) (h : ¬ P) : Ending.returned (.bool true) = .returned (.bool r) := by rw [← hr, decide_eq_false h]; rfl
theorem ret_false {P : Prop} [Decidable P] {r : Bool} (hr : (!decide P) = r) (h : P) : Ending.returned (.bool false) = .returned (.bool r) := by rw [← hr, decide_eq_true h]; rfl
def shortL (l : List Fl) : Prop := (l.length ≤ 40 ∨ l.length = 60 ∨ l.length = 61) ∧ ∀ f ∈ l, shortF f
instance (l : List Fl) : Decidable (shortL l) := inferInstanceAs (Decidable (_ ∧ _))
def shortS (s : Sn) : Prop := s.op.length ≤ 30 ∧ shortL s.files
instance (s : Sn) : Decidable (shortS s) := inferInstanceAs (Decidable (_ ∧ _))
theorem shortL.len {l : List Fl} (h : shortL l) : l.length ≤ 61 := by have := h.1; omega
theorem shortL.mid {l : List Fl} (h : shortL l) : ∀ f ∈ l, midF f := fun f hf => (h.2 f hf).mid

set_option maxRecDepth 20000 in
theorem longFilesD_any (v : Value) (l : List Fl) (w : World) (hl : FilesAt w v l) :
    Calls Tryz.prog 40 #[v] w fun e w' => e = .returned (.int .i64 (if shortL l then 0 else 1)) ∧ Below w.heap.size w w' := by
  obtain ⟨rv, hrv⟩ : ∃ rv : Int, (if shortL l then (0 : Int) else 1) = rv := ⟨_, rfl⟩
  rw [hrv]
  have HR := Lib.hid hrv
  clear hrv
  obtain ⟨a, c, b, o, rfl, ha, hc, hcm, hx⟩ := hl
  unfold maxLen at hcm
  by_cases h61 : l.length ≤ 40 ∨ l.length = 60 ∨ l.length = 61
  case neg =>
    have g1 : (40 : Int) < (l.length : Int) := by omega
    have g2 : ((l.length : Int) != 60) = true := by simp; omega
    have g3 : ((l.length : Int) != 61) = true := by simp; omega
    go_enter Tryz.func40, Tryz.ntmps40
    go_wp2_with fail
    go_ret
    exact ⟨ret_one HR.out (fun h : shortL l => h61 h.1), Below.refl _ _⟩
  have H61 := Lib.hid h61
  have hg : decide ((40 : Int) < (l.length : Int)) = false ∨ (decide ((40 : Int) < (l.length : Int)) = true ∧ (((l.length : Int) != 60) = false ∨ (((l.length : Int) != 60) = true ∧ ((l.length : Int) != 61) = false))) := by
    rcases h61 with h | h | h
    · exact .inl (by simp; omega)
    · exact .inr ⟨by simp; omega, .inl (by simp; omega)⟩
    · exact .inr ⟨by simp; omega, .inr ⟨by simp; omega, by simp; omega⟩⟩
  clear h61
  go_enter Tryz.func40, Tryz.ntmps40
  rcases hg with g1 | ⟨g1, g2 | ⟨g2, g3⟩⟩
  all_goals
    go_wp2_with fail
    go_loopw [3] (fun i wr => ∃ k : Nat, k ≤ l.length ∧ i = .int .i64 k ∧ Hid (∀ j < k, ∀ x, l[j]? = some x → shortF x) ∧ Below w.heap.size w wr) (fun i _ => l.length - (intOf i).toNat)
    case atStart => exact ⟨0, by omega, rfl, Lib.hid fun j hj => absurd hj (by omega), Below.refl _ _⟩
    case round =>
      obtain ⟨k, hk, rfl, hj, hb⟩ := hrel
      clear g1
      by_cases hlt : k < l.length
      case neg =>
        have f : decide ((k : Int) < (l.length : Int)) = false := by simp; omega
        go_wp2_with fail
        go_ret
        exact ⟨ret_zero HR.out (show shortL l from ⟨H61.out, fun x hx => by
          obtain ⟨j, hj'⟩ := List.getElem?_of_mem hx
          exact hj.out j (by have := (List.getElem?_eq_some_iff.1 hj').1; omega) x hj'⟩), hb⟩
      obtain ⟨x, hxk⟩ := get_ex hlt
      have c0 := hx k x hxk 0 _ rfl
      have c1 := hx k x hxk 1 _ rfl
      have c2 := hx k x hxk 2 _ rfl
      have c3 := hx k x hxk 3 _ rfl
      have c4 := hx k x hxk 4 _ rfl
      have c5 := hx k x hxk 5 _ rfl
      have c0 := (hb.cell (World.block_lt_of_cell? w _ c0)).trans c0
      have c1 := (hb.cell (World.block_lt_of_cell? w _ c1)).trans c1
      have c2 := (hb.cell (World.block_lt_of_cell? w _ c2)).trans c2
      have c3 := (hb.cell (World.block_lt_of_cell? w _ c3)).trans c3
      have c4 := (hb.cell (World.block_lt_of_cell? w _ c4)).trans c4
      have c5 := (hb.cell (World.block_lt_of_cell? w _ c5)).trans c5
      have i1 := idx_at (c := c) 6 Tryz.underlying22 szFl ha k hlt
      have f : (k : Int) < (l.length : Int) := by omega
      simp only [Nat.add_zero] at c0
      have Hx := Lib.hid hxk; clear hxk
      go_wp2_with fail
      refine (longFile_any x _).mono ?_
      rintro e w1 ⟨rfl, hb1⟩
      have hb' := hb.trans (hb1.mono hb.size)
      by_cases e1 : shortF x
      · rw [if_pos e1]
        have K1 := Lib.hid e1; clear e1
        go_wp2_with fail
        refine ⟨⟨k + 1, by omega, by go_num, Lib.hid fun j hj' y hy => by
          rcases Nat.lt_or_ge j k with h | h
          · exact hj.out j h y hy
          · obtain rfl : j = k := by omega
            rw [Hx.out] at hy
            cases hy
            exact K1.out, hb'⟩, ?_⟩
        simp [intOf]; omega
      · rw [if_neg e1]
        have K1 := Lib.hid e1; clear e1
        go_wp2_with fail
        go_ret
        exact ⟨ret_one HR.out (fun h : shortL l => K1.out (h.2 x (List.mem_of_getElem? Hx.out))), hb'⟩

set_option maxRecDepth 20000 in
theorem longSnapD_any (s : Sn) (v : Value) (w : World) (hl : FilesAt w v s.files) :
    Calls Tryz.prog 12 #[snapV s v] w fun e w' => e = .returned (.int .i64 (if shortS s then 0 else 1)) ∧ Below w.heap.size w w' := by
  obtain ⟨rv, hrv⟩ : ∃ rv : Int, (if shortS s then (0 : Int) else 1) = rv := ⟨_, rfl⟩
  rw [hrv]
  have HR := Lib.hid hrv
  clear hrv
  have hb0 : Below w.heap.size w (w.alloc (.cells #[.int .i64 s.id, .int .i64 s.parent, .int .i64 s.seq, .int .i64 s.day, .int .i64 s.index, S s.op, v] 24)) := (Below.refl _ _).alloc (Nat.le_refl _) _
  obtain ⟨c0, c1, c2, c3, c4, c5, c6⟩ := snapCells (s := s) (v := v) (t := 24) (Below.refl _ (w.alloc (.cells #[.int .i64 s.id, .int .i64 s.parent, .int .i64 s.seq, .int .i64 s.day, .int .i64 s.index, S s.op, v] 24)))
  have hL := longFilesD_any v s.files (w.alloc (.cells #[.int .i64 s.id, .int .i64 s.parent, .int .i64 s.seq, .int .i64 s.day, .int .i64 s.index, S s.op, v] 24)) (hl.below hb0)
  have HL := Lib.hid hL; clear hL
  by_cases h1 : s.op.length ≤ 30
  · have g1 : decide ((30 : Int) < (s.op.length : Int)) = false := by simp; omega
    go_enter Tryz.func12, Tryz.ntmps12
    go_wp2_with fail
    refine HL.out.mono ?_
    rintro e w2 ⟨rfl, hb2⟩
    have hb2' := hb0.trans (hb2.mono hb0.size)
    clear c0 c1 c2 c3 c4 c5 c6
    by_cases hsh : shortL s.files
    · rw [if_pos hsh]
      have HS := Lib.hid hsh; clear hsh
      go_wp2_with fail
      go_ret
      exact ⟨ret_zero HR.out (show shortS s from ⟨h1, HS.out⟩), hb2'⟩
    · rw [if_neg hsh]
      have HS := Lib.hid hsh; clear hsh
      go_wp2_with fail
      go_ret
      exact ⟨ret_one HR.out (fun h : shortS s => HS.out h.2), hb2'⟩
  · have g1 : (30 : Int) < (s.op.length : Int) := by omega
    have H1 := Lib.hid h1
    clear h1
    go_enter Tryz.func12, Tryz.ntmps12
    go_wp2_with fail
    go_ret
    exact ⟨ret_one HR.out (fun h : shortS s => H1.out h.1), hb0⟩

def shortCh (c : Ch) : Prop := c.path.length ≤ 30 ∧ shortF c.file
instance (c : Ch) : Decidable (shortCh c) := inferInstanceAs (Decidable (_ ∧ _))
def shortChs (l : List Ch) : Prop := l.length ≤ 30 ∧ ∀ c ∈ l, shortCh c
instance (l : List Ch) : Decidable (shortChs l) := inferInstanceAs (Decidable (_ ∧ _))
set_option maxRecDepth 20000 in
theorem longChangesD_any (v : Value) (l : List Ch) (w : World) (hl : ChangesAt w v l) :
    Calls Tryz.prog 13 #[v] w fun e w' => e = .returned (.bool (!decide (shortChs l))) ∧ Below w.heap.size w w' := by
  obtain ⟨rv, hrv⟩ : ∃ rv : Bool, (!decide (shortChs l)) = rv := ⟨_, rfl⟩
  rw [hrv]
  have HR := Lib.hid hrv
  clear hrv
  obtain ⟨a, c, b, o, rfl, ha, hc, hcm, hx⟩ := hl
  unfold maxLen at hcm
  by_cases h30 : l.length ≤ 30
  case neg =>
    have g1 : (30 : Int) < (l.length : Int) := by omega
    go_enter Tryz.func13, Tryz.ntmps13
    go_wp2_with fail
    go_ret
    exact ⟨ret_true HR.out (fun h : shortChs l => h30 h.1), Below.refl _ _⟩
  have g1 : decide ((30 : Int) < (l.length : Int)) = false := by simp; omega
  go_enter Tryz.func13, Tryz.ntmps13
  go_wp2_with fail
  go_loopw [3] (fun i wr => ∃ k : Nat, k ≤ l.length ∧ i = .int .i64 k ∧ Hid (∀ j < k, ∀ x, l[j]? = some x → shortCh x) ∧ Below w.heap.size w wr) (fun i _ => l.length - (intOf i).toNat)
  case atStart => exact ⟨0, by omega, rfl, Lib.hid fun j hj => absurd hj (by omega), Below.refl _ _⟩
  case round =>
    obtain ⟨k, hk, rfl, hj, hb⟩ := hrel
    clear g1
    by_cases hlt : k < l.length
    case neg =>
      have f : decide ((k : Int) < (l.length : Int)) = false := by simp; omega
      go_wp2_with fail
      go_ret
      exact ⟨ret_false HR.out (show shortChs l from ⟨h30, fun x hx => by
        obtain ⟨j, hj'⟩ := List.getElem?_of_mem hx
        exact hj.out j (by have := (List.getElem?_eq_some_iff.1 hj').1; omega) x hj'⟩), hb⟩
    obtain ⟨x, hxk⟩ := get_ex hlt
    obtain ⟨c0, c1, c2, c3, c4, c5, c6, c7⟩ := chCells hx hb hxk
    have i1 := idx_at (c := c) 8 Tryz.underlying25 szCh ha k hlt
    have f : (k : Int) < (l.length : Int) := by omega
    have Hx := Lib.hid hxk; clear hxk
    by_cases hp : x.path.length ≤ 30
    case neg =>
      have gp : (30 : Int) < (x.path.length : Int) := by omega
      have Hp := Lib.hid hp
      clear hp
      go_wp2_with fail
      go_ret
      exact ⟨ret_true HR.out (fun h : shortChs l => Hp.out (h.2 x (List.mem_of_getElem? Hx.out)).1), hb⟩
    have gp : decide ((30 : Int) < (x.path.length : Int)) = false := by simp; omega
    have HLf := Lib.hid (longFile_any x.file wr)
    have Hp := Lib.hid hp
    clear hp
    go_wp2_with fail
    refine HLf.out.mono ?_
    rintro e w1 ⟨rfl, hb1⟩
    have hb' := hb.trans (hb1.mono hb.size)
    by_cases e1 : shortF x.file
    · rw [if_pos e1]
      have He := Lib.hid e1; clear e1
      go_wp2_with fail
      go_roundw
      case rel => exact ⟨k + 1, by omega, by go_num, Lib.hid fun j hj' y hy => by
        rcases Nat.lt_or_ge j k with h | h
        · exact hj.out j h y hy
        · obtain rfl : j = k := by omega
          rw [Hx.out] at hy
          obtain rfl := Option.some.inj hy
          exact ⟨Hp.out, He.out⟩, hb'⟩
      case measure => simp [intOf]; omega
    · rw [if_neg e1]
      have He := Lib.hid e1; clear e1
      go_wp2_with fail
      go_ret
      exact ⟨ret_true HR.out (fun h : shortChs l => He.out (h.2 x (List.mem_of_getElem? Hx.out)).2), hb'⟩
end Go.Proofs.YtmhchakjkgdpmaaGreatDoor
namespace Go.Proofs.YtmhchakjkgdpmaaGreatDoor
open Go.RowKit

abbrev fA0 : Fl := ⟨pD2, [97], 1, 0, 0, 0⟩
abbrev fA1 : Fl := oneF pD2 1
abbrev tA : Tx := ⟨firstSn, [fA1], []⟩
abbrev snA : Sn := ⟨3, 1, 1, 7, 1, kAppend, [fA1]⟩
theorem addTE_A : addTE (beginT firstSn) fA0 = 0 := by
  unfold addTE
  have h : checkF ({ fA0 with seq := 1 } : Fl) = 0 := check_one pathD2
  rw [if_neg (by rw [h]; decide)]
  rfl
theorem addT_A : addT (beginT firstSn) fA0 = tA := by
  unfold addT
  rw [if_pos addTE_A]
  rfl
theorem right_A : RightSn snA :=
  ⟨by decide, by decide, ⟨by decide, fun f hf => by
    obtain rfl := List.mem_singleton.1 hf
    exact check_one pathD2, by simp⟩, fun f hf => by
    obtain rfl := List.mem_singleton.1 hf
    decide⟩
theorem snapT_A : snapT tA firstSn 3 7 1 = snA := rfl
theorem commitE_A : commitE tA firstSn 3 7 1 = .nil := by
  unfold commitE
  rw [if_neg (by rw [(snap_iff _).2 right_first]; decide), if_neg (by decide), if_neg (by decide), snapT_A, (snap_iff _).2 right_A]
  rfl
theorem commitS_A : commitS tA firstSn 3 7 1 = snA := by
  unfold commitS
  rw [if_pos commitE_A, snapT_A]
theorem okA : TxOk tA := by
  have h := addT_ok (beginT_ok right_first) fA0
  rwa [addT_A] at h
set_option maxHeartbeats 1000000 in
set_option maxRecDepth 20000 in
theorem changed_any (E : Nat → Addr) (B : Nat) (w : World) (hE : Errs [2, 4, 5, 7, 8, 9, 11] E B w) (hT : LNum B w) (hM : LMax B w) :
    Calls Tryz.prog 11 #[] w fun e w' => e = .returned (.bool true) ∧ Below w.heap.size w w' := by
  have hBw := hE.le
  have hif := isIfaceE
  have X := Lib.hid (fun W (hb : Below w.heap.size w W) => (⟨hE.below' hb hBw, hT.below' hb hBw, hM.below' hb hBw⟩ : Errs [2, 4, 5, 7, 8, 9, 11] E B W ∧ LNum B W ∧ LMax B W))
  clear hE hT hM
  go_enter Tryz.func11, Tryz.ntmps11
  go_wp2_with fail
  refine (snapFirst_any w).mono ?_
  rintro e w1 ⟨rfl, hb1⟩
  have HBg := Lib.hid (txBegin_any E B firstSn (.slice none 0 0) w1 ((X.out _ hb1).1.sub (by decide)) (X.out _ hb1).2.1 (X.out _ hb1).2.2 (At.nil _ _ _) (fun x h => absurd h (by simp [firstSn])) (by decide))
  go_wp2_with fail
  refine HBg.out.mono ?_
  rintro e w2 ⟨hb2, h⟩
  rcases h with ⟨h, -⟩ | ⟨-, tb, vf, D, K, rfl, hat, hlow⟩
  · exact absurd ((snap_iff _).2 right_first) h
  have hbw2 := hb1.trans (hb2.mono hb1.size)
  have HAd := Lib.hid (txAdd_any E B w1.heap.size D K tb (beginT firstSn) vf _ _ fA0 w2 ((X.out _ hbw2).1.sub (by decide)) (X.out _ hbw2).2.1 (X.out _ hbw2).2.2 hat (by decide) (by decide))
  have HLow := Lib.hid hlow
  clear HBg hat hlow
  go_wp2_with fail
  refine HAd.out.mono ?_
  rintro e w3 ⟨ev, va', D', rfl, hev, hat, hD', hbd⟩
  rw [addTE_A] at hev
  rw [addT_A] at hat
  obtain rfl : ev = .nilIface := hev
  have hb23 : Below w.heap.size w2 w3 := hbd.below (fun k hk => Nat.le_trans hb1.size (HLow.out k (.inl hk))) hbw2.size
  have hbw3 := hbw2.trans hb23
  have HAt := Lib.hid hat
  clear hat hD' hbd HAd
  go_wp2_with fail
  refine (snapFirst_any w3).mono ?_
  rintro e w4 ⟨rfl, hb4⟩
  have hbw4 := hbw3.trans (hb4.mono hbw3.size)
  have hcm := txCommit_any E B w1.heap.size D' K tb tA vf va' (.slice none 0 0) firstSn (.slice none 0 0) 3 7 1 w4 (X.out _ hbw4).1 (X.out _ hbw4).2.1 (X.out _ hbw4).2.2 (HAt.out.below hb4) okA (At.nil _ _ _) (fun x h => absurd h (by simp [firstSn])) (by decide) (by decide) (fun f hf => by obtain rfl := List.mem_singleton.1 hf; decide)
  rw [commitE_A, commitS_A] at hcm
  have HCm := Lib.hid hcm
  clear hcm HAt
  go_wp2_with fail
  refine HCm.out.mono ?_
  rintro e w5 ⟨u, ev, rfl, hu, hev, hb5⟩
  obtain rfl : ev = .nilIface := hev
  have hbw5 := hbw4.trans (hb5.mono hbw4.size)
  obtain ⟨a, c, b, o, rfl, ha, -, -, hx⟩ := hu
  obtain rfl := ha (by decide)
  have c5 := hx 0 fA1 rfl 5 _ rfl
  have hc5 := ((Below.refl _ _).alloc (Nat.le_refl _) (.cells #[.int .i64 3, .int .i64 1, .int .i64 1, .int .i64 7, .int .i64 1, S kAppend, .slice (some ⟨b, o, none⟩) 1 c] 24) : Below w5.heap.size w5 _).cell (World.block_lt_of_cell? w5 _ c5) |>.trans c5
  simp only [Nat.zero_mul, Nat.add_zero] at hc5
  clear HCm hx c5
  go_wp2_with fail
  go_ret
  exact ⟨rfl, hbw5.alloc hbw5.size _⟩

end Go.Proofs.YtmhchakjkgdpmaaGreatDoor
namespace Go.Proofs.YtmhchakjkgdpmaaGreatDoor
open Go.RowKit

def applyCh (t : Tx) (c : Ch) : Tx := if c.add = true then addT t c.file else remT t c.path
def appCh (t : Tx) (l : List Ch) : Tx := l.foldl applyCh t
theorem appCh_snoc {t : Tx} {l : List Ch} {k : Nat} {x : Ch} (hx : l[k]? = some x) : appCh t (l.take (k + 1)) = applyCh (appCh t (l.take k)) x := by
  unfold appCh
  rw [List.take_add_one, hx, List.foldl_append]
  rfl
/-- A change of at most n steps. -/
structure Fit (base : Sn) (n : Nat) (t : Tx) : Prop where
  ok : TxOk t
  base : t.base = base
  na : t.adds.length ≤ n
  nr : t.removes.length ≤ n
  mid : ∀ f ∈ t.adds, midF f
theorem Fit.begin {s : Sn} (h : RightSn s) : Fit s 0 (beginT s) := ⟨beginT_ok h, rfl, Nat.le_refl _, Nat.le_refl _, fun _ h => (by cases h)⟩
theorem Fit.mono {base : Sn} {n m : Nat} {t : Tx} (h : Fit base n t) (hm : n ≤ m) : Fit base m t := ⟨h.ok, h.base, Nat.le_trans h.na hm, Nat.le_trans h.nr hm, h.mid⟩
theorem Fit.add {base : Sn} {n : Nat} {t : Tx} {f : Fl} (h : Fit base n t) (hf : midF f) : Fit base (n + 1) (addT t f) := by
  refine ⟨addT_ok h.ok f, (addT_base t f).trans h.base, ?_, ?_, ?_⟩
  · unfold addT; split
    · rw [List.length_append]; have := h.na; simp; omega
    · have := h.na; omega
  · unfold addT; split <;> (have := h.nr; first | omega | (simp only; omega))
  · unfold addT; split
    · intro g hg
      rcases List.mem_append.1 hg with hg | hg
      · exact h.mid g hg
      · obtain rfl := List.mem_singleton.1 hg
        exact hf
    · exact h.mid
theorem Fit.rem {base : Sn} {n : Nat} {t : Tx} {p : Str} (h : Fit base n t) : Fit base (n + 1) (remT t p) := by
  refine ⟨remT_ok h.ok p, (remT_base t p).trans h.base, ?_, ?_, ?_⟩
  · unfold remT; split <;> (have := h.na; first | omega | (simp only; omega))
  · unfold remT; split
    · rw [List.length_append]; have := h.nr; simp; omega
    · have := h.nr; omega
  · unfold remT; split <;> exact h.mid
theorem Fit.step {base : Sn} {n : Nat} {t : Tx} {c : Ch} (h : Fit base n t) (hc : shortCh c) : Fit base (n + 1) (applyCh t c) := by
  unfold applyCh
  split
  · exact h.add hc.2.mid
  · exact h.rem
theorem Fit.all {base : Sn} {t : Tx} {n : Nat} {l : List Ch} (hs : ∀ c ∈ l, shortCh c) : Fit base n t → Fit base (n + l.length) (appCh t l) := by
  induction l generalizing t n with
  | nil => exact fun h => h
  | cons c l ih =>
    intro h
    have := ih (fun d hd => hs d (by simp [hd])) (h.step (hs c (by simp)))
    rw [List.length_cons]
    rw [show n + (l.length + 1) = n + 1 + l.length by omega]
    exact this
theorem Fit.upto {base : Sn} (h : RightSn base) {l : List Ch} (hs : ∀ c ∈ l, shortCh c) (k : Nat) : Fit base k (appCh (beginT base) (l.take k)) := by
  have := Fit.all (l := l.take k) (fun c hc => hs c (List.mem_of_mem_take hc)) (Fit.begin h)
  exact this.mono (by rw [Nat.zero_add, List.length_take]; omega)

theorem erOf_keep {E : Nat → Addr} {w w' : World} {v : Value} {c : Nat} (h : ErV E w v (erOf c)) : ErV E w' v (erOf c) := by
  unfold erOf at *
  split
  · rename_i hc; rw [if_pos hc] at h; exact h
  · rename_i hc; rw [if_neg hc] at h; exact h
/-- Two changes side by side: of types y1, y2, in blocks tb, mb; the first stands at t, the second at u. -/
def Pair (y1 y2 : TypeId) (B1 B2 H : Nat) (K K2 : Nat → Prop) (tb mb : Nat) (vf vf2 : Value) (W : World) (t u : Tx) : Prop :=
  ∃ (D D2 : Nat → Prop) (va vr va2 vr2 : Value), TxAt y1 B1 W D K tb t vf va vr ∧ TxAt y2 B2 W D2 K2 mb u vf2 va2 vr2 ∧ (∀ k, D k → ¬ D2 k ∧ ¬ K2 k) ∧ (∀ k, D2 k → ¬ K k) ∧ (∀ k, D k ∨ D2 k → H ≤ k)
section
variable {y1 y2 : TypeId} {B1 B2 H : Nat} {K K2 : Nat → Prop} {tb mb : Nat} {vf vf2 : Value} {W W' : World} {t t' u u' : Tx}
theorem Pair.below (h : Pair y1 y2 B1 B2 H K K2 tb mb vf vf2 W t u) (hb : Below W.heap.size W W') : Pair y1 y2 B1 B2 H K K2 tb mb vf vf2 W' t u := by
  obtain ⟨D, D2, va, vr, va2, vr2, h1, h2, h3, h4, h5⟩ := h
  exact ⟨D, D2, va, vr, va2, vr2, h1.below hb, h2.below hb, h3, h4, h5⟩
theorem pair_fst {D D2 D' : Nat → Prop} {va2 vr2 va' vr' : Value} (h2 : TxAt y2 B2 W D2 K2 mb u vf2 va2 vr2) (h3 : ∀ k, D k → ¬ D2 k ∧ ¬ K2 k) (h4 : ∀ k, D2 k → ¬ K k) (h5 : ∀ k, D k ∨ D2 k → H ≤ k) (hH : H ≤ W.heap.size)
    (h1' : TxAt y1 B1 W' D' K tb t' vf va' vr') (hs : ∀ k, D' k → D k ∨ W.heap.size ≤ k) (hb : ButD D W W') : Pair y1 y2 B1 B2 H K K2 tb mb vf vf2 W' t' u ∧ Below H W W' := by
  refine ⟨⟨D', D2, va', vr', va2, vr2, h1', h2.kept hb (fun k hk => ⟨(h3 k hk).1, (h3 k hk).2⟩), fun k hk => ?_, h4, fun k hk => ?_⟩, hb.below (fun k hk => h5 k (.inl hk)) hH⟩
  · rcases hs k hk with h | h
    · exact h3 k h
    · exact ⟨fun h' => by have := (h2.low k h').2; omega, fun h' => by have := h2.klt k h'; omega⟩
  · rcases hk with hk | hk
    · rcases hs k hk with h | h
      · exact h5 k (.inl h)
      · omega
    · exact h5 k (.inr hk)
theorem pair_snd {D D2 D' : Nat → Prop} {va vr va' vr' : Value} (h1 : TxAt y1 B1 W D K tb t vf va vr) (h3 : ∀ k, D k → ¬ D2 k ∧ ¬ K2 k) (h4 : ∀ k, D2 k → ¬ K k) (h5 : ∀ k, D k ∨ D2 k → H ≤ k) (hH : H ≤ W.heap.size)
    (h2' : TxAt y2 B2 W' D' K2 mb u' vf2 va' vr') (hs : ∀ k, D' k → D2 k ∨ W.heap.size ≤ k) (hb : ButD D2 W W') : Pair y1 y2 B1 B2 H K K2 tb mb vf vf2 W' t u' ∧ Below H W W' := by
  refine ⟨⟨D, D', va, vr, va', vr', h1.kept hb (fun k hk => ⟨fun h => (h3 k h).1 hk, h4 k hk⟩), h2', fun k hk => ⟨fun h => ?_, (h3 k hk).2⟩, fun k hk => ?_, fun k hk => ?_⟩, hb.below (fun k hk => h5 k (.inr hk)) hH⟩
  · rcases hs k h with h' | h'
    · exact (h3 k hk).1 h'
    · have := (h1.low k hk).2; omega
  · rcases hs k hk with h | h
    · exact h4 k h
    · exact fun h' => by have := h1.klt k h'; omega
  · rcases hk with hk | hk
    · exact h5 k (.inl hk)
    · rcases hs k hk with h | h
      · exact h5 k (.inr h)
      · omega
/-- A change that was begun, and the document's, which leans on what came in. -/
theorem pair_new {y1 y2 : TypeId} {w w8 : World} {B1 H H0 tb : Nat} {D K : Nat → Prop} {vf v : Value} {s : Sn} (h1 : TxAt y1 B1 w8 D K tb (beginT s) vf (.slice none 0 0) (.slice none 0 0)) (hlow : ∀ k, D k ∨ K k → H0 ≤ k) (hH : w.heap.size ≤ H0) (hH1 : H ≤ H0) (hH2 : H ≤ w8.heap.size) (hb : Below w.heap.size w w8) (hl : FilesAt w v s.files) :
    Pair y1 y2 B1 w.heap.size H K (fun k => k < w.heap.size) tb w8.heap.size vf v (w8.alloc (.cells (txCells (beginT s) v (.slice none 0 0) (.slice none 0 0)) y2)) (beginT s) (beginT s) := by
  have hba : Below w8.heap.size w8 (w8.alloc (.cells (txCells (beginT s) v (.slice none 0 0) (.slice none 0 0)) y2)) := (Below.refl _ _).alloc (Nat.le_refl _) _
  have hbw := hb.trans (hba.mono hb.size)
  have hsz : (w8.alloc (.cells (txCells (beginT s) v (.slice none 0 0) (.slice none 0 0)) y2)).heap.size = w8.heap.size + 1 := by simp
  have hw8 := hb.size
  refine ⟨D, fun k => k = w8.heap.size, _, _, _, _, h1.below hba, ⟨heap_alloc_new w8 _, fun W hW => hl.far (Nat.le_refl _) W fun k hk => (hW k hk).trans (hbw.block k hk), Own.nil _ _ _ _ _, Own.nil _ _ _ _ _, rfl, fun k hk => (by cases hk), fun k hk => (by cases hk), fun k hk => (by cases hk), ?_, ?_, ?_⟩, ?_, ?_, ?_⟩
  · rintro k rfl; exact ⟨hw8, by omega⟩
  · intro k (hk : k < w.heap.size) (e : k = w8.heap.size); omega
  · intro k (hk : k < w.heap.size); omega
  · intro k hk
    have h2 := (h1.low k hk).2
    have h3 := hlow k (.inl hk)
    exact ⟨fun (h : k = w8.heap.size) => by omega, fun (h : k < w.heap.size) => by omega⟩
  · rintro k rfl hk
    have := h1.klt _ hk; omega
  · rintro k (hk | rfl)
    · have := hlow k (.inl hk); omega
    · exact hH2
/-- Two changes, one begun behind the other. -/
theorem pair_two {y1 y2 : TypeId} {w w1 : World} {B1 B2 H tb mb : Nat} {D K D2 K2 : Nat → Prop} {vf vf2 va vr va2 vr2 : Value} {t u : Tx} (h1 : TxAt y1 B1 w D K tb t vf va vr) (hb : Below w.heap.size w w1) (h2 : TxAt y2 B2 w1 D2 K2 mb u vf2 va2 vr2)
    (hl1 : ∀ k, D k ∨ K k → H ≤ k) (hl2 : ∀ k, D2 k ∨ K2 k → w.heap.size ≤ k) (hH : H ≤ w.heap.size) : Pair y1 y2 B1 B2 H K K2 tb mb vf vf2 w1 t u := by
  refine ⟨D, D2, _, _, _, _, h1.below hb, h2, fun k hk => ?_, fun k hk hk2 => ?_, fun k hk => ?_⟩
  · have := (h1.low k hk).2
    exact ⟨fun h => by have := hl2 k (.inl h); omega, fun h => by have := hl2 k (.inr h); omega⟩
  · have := h1.klt k hk2
    have := hl2 k (.inl hk); omega
  · rcases hk with hk | hk
    · exact hl1 k (.inl hk)
    · have := hl2 k (.inl hk); omega
end
end Go.Proofs.YtmhchakjkgdpmaaGreatDoor
namespace Go.Proofs.YtmhchakjkgdpmaaGreatDoor
open Go.RowKit

attribute [local go_sem ↓] shutApp_eq in
set_option maxHeartbeats 2000000 in
set_option maxRecDepth 20000 in
theorem refTxAdd_any (B : Nat) (D K : Nat → Prop) (tb : Nat) (t : Tx) (vf va vr : Value) (f : Fl) (w : World) (h : TxAt 54 B w D K tb t vf va vr) (hf : midF f) (hn : t.adds.length ≤ 1000) :
    Calls Tryz.prog 25 #[.pointer (some ⟨tb, 0, none⟩), fileV f] w fun e w' => ∃ va' D', e = .returned (.int .i64 ((addTE t f : Nat) : Int)) ∧ TxAt 54 B w' D' K tb (addT t f) vf va' vr ∧ (∀ k, D' k → D k ∨ w.heap.size ≤ k) ∧ ButD D w w' := by
  obtain ⟨p, pt, n, lo, hi, sq⟩ := f
  have hm1 : midF ⟨p, pt, n, lo, hi, 1⟩ := hf
  have hba : Below w.heap.size w (w.alloc (.cells #[S p, S pt, .int .i64 n, .int .i64 lo, .int .i64 hi, .int .i64 1] 37)) := (Below.refl _ _).alloc (Nat.le_refl _) _
  have hg0 := heap_alloc_new w (.cells #[S p, S pt, .int .i64 n, .int .i64 lo, .int .i64 hi, .int .i64 1] 37)
  have hTE : addTE t ⟨p, pt, n, lo, hi, sq⟩ = if checkF ⟨p, pt, n, lo, hi, 1⟩ ≠ 0 then checkF ⟨p, pt, n, lo, hi, 1⟩ else if 0 ≤ findV t.adds p then 7 else 0 := rfl
  have hTT : addT t ⟨p, pt, n, lo, hi, sq⟩ = if addTE t ⟨p, pt, n, lo, hi, sq⟩ = 0 then { t with adds := t.adds ++ [⟨p, pt, n, lo, hi, 1⟩] } else t := rfl
  have HTE := Lib.hid hTE; have HTT := Lib.hid hTT
  have HG0 := Lib.hid hg0
  have X := Lib.hid (fun W (h6 : Below w.heap.size w W) => h.below h6)
  have htb := h.lt
  obtain ⟨a, c, rfl, -, -⟩ := At.form' h.addsAt
  clear hTE hTT hg0 hf
  go_enter Tryz.func25, Tryz.ntmps25
  go_upto_region 2 with fail
  generalize w.alloc (.cells #[S p, S pt, .int .i64 n, .int .i64 lo, .int .i64 hi, .int .i64 1] 37) = w0 at *
  obtain ⟨c0, c1, c2, c3, c4, c5⟩ := rowF6 (f := ⟨p, pt, n, lo, hi, 1⟩) HG0.out
  have HCk := Lib.hid (fileError_any ⟨p, pt, n, lo, hi, 1⟩ w0 hm1)
  obtain ⟨ce, hce⟩ : ∃ ce, checkF ⟨p, pt, n, lo, hi, 1⟩ = ce := ⟨_, rfl⟩
  rw [hce] at HCk HTE
  clear hce
  go_wp2_with fail
  refine HCk.out.mono ?_
  rintro e w1 ⟨rfl, hb1⟩
  have hbw1 := hba.trans (hb1.mono hba.size)
  have hg1 := rowKept HG0.out hb1
  have HG1 := Lib.hid hg1
  have H1 := Lib.hid (X.out _ hbw1)
  clear c0 c1 c2 c3 c4 c5 hg1 HCk
  obtain ⟨c0, c1, c2, c3, c4, c5⟩ := rowF6 (f := ⟨p, pt, n, lo, hi, 1⟩) HG1.out
  by_cases hc : ce = 0
  case neg =>
    have HTE2 : Hid (addTE t ⟨p, pt, n, lo, hi, sq⟩ = ce) := Lib.hid (by rw [HTE.out, if_pos hc])
    have HTT2 : Hid (addT t ⟨p, pt, n, lo, hi, sq⟩ = t) := Lib.hid (by rw [HTT.out, if_neg (by rw [HTE2.out]; exact hc)])
    have g1 : (0 : Int) < (ce : Int) := by omega
    have g2 : 0 < ce := by omega
    clear hc
    go_wp2_with fail
    go_ret
    exact ⟨_, D, by rw [HTE2.out]; rfl, by rw [HTT2.out]; exact H1.out, fun k hk => .inl hk, ButD.of hbw1⟩
  have HTE2 : Hid (addTE t ⟨p, pt, n, lo, hi, sq⟩ = if 0 ≤ findV t.adds p then 7 else 0) := Lib.hid (by rw [HTE.out, if_neg (by rw [hc]; simp)])
  have g1 : decide ((0 : Int) < (ce : Int)) = false := by simp [hc]
  have g2 : decide (0 < ce) = false := by simp [hc]
  have HFi := Lib.hid (fun W (h6 : Below w1.heap.size w1 W) => findOf_any _ t.adds p W ((H1.out.below h6).addsAt))
  have hd : Below w1.heap.size w1 w1.drew := (Below.refl _ _).drew
  have a7 := (H1.out.below hd).c7
  clear hc HTE c0 c1 c2 c3 c4 c5
  obtain ⟨c0, c1, c2, c3, c4, c5⟩ := rowF6 (f := ⟨p, pt, n, lo, hi, 1⟩) (rowKept HG1.out hd)
  by_cases hfd : 0 ≤ findV t.adds p
  case pos =>
    have HTE3 : Hid (addTE t ⟨p, pt, n, lo, hi, sq⟩ = 7) := Lib.hid (by rw [HTE2.out, if_pos hfd])
    have HTT2 : Hid (addT t ⟨p, pt, n, lo, hi, sq⟩ = t) := Lib.hid (by rw [HTT.out, if_neg (by rw [HTE3.out]; decide)])
    generalize findV t.adds p = fv at *
    go_wp2_with fail
    first
      | go_region_held3 (fun w' => w'.cell? ⟨tb, 7, none⟩ = some (.slice a t.adds.length c) ∧ w'.cell? ⟨w.heap.size, 0, none⟩ = some (S p)) (exact ⟨a7, c0⟩) ((go_at_call 20; (with_reducible refine (HFi.out _ hd).mono ?_); rintro e w2 ⟨rfl, rfl⟩))
      | fail
    all_goals
      go_wp2_with fail
      go_ret
      exact ⟨_, D, by rw [HTE3.out]; rfl, by rw [HTT2.out]; exact X.out _ hbw1.drew, fun k hk => .inl hk, ButD.of hbw1.drew⟩
  have HTE3 : Hid (addTE t ⟨p, pt, n, lo, hi, sq⟩ = 0) := Lib.hid (by rw [HTE2.out, if_neg hfd])
  have HTT2 : Hid (addT t ⟨p, pt, n, lo, hi, sq⟩ = { t with adds := t.adds ++ [⟨p, pt, n, lo, hi, 1⟩] }) := Lib.hid (by rw [HTT.out, if_pos HTE3.out])
  have gf : decide (0 ≤ findV t.adds p) = false := decide_eq_false hfd
  clear hfd
  generalize findV t.adds p = fv at *
  go_wp2_with fail
  first
    | go_region_held3 (fun w' => w'.cell? ⟨tb, 7, none⟩ = some (.slice a t.adds.length c) ∧ w'.cell? ⟨w.heap.size, 0, none⟩ = some (S p)) (exact ⟨a7, c0⟩) ((go_at_call 20; (with_reducible refine (HFi.out _ hd).mono ?_); rintro e w2 ⟨rfl, rfl⟩))
    | fail
  all_goals
    obtain ⟨w2, hw2⟩ : ∃ w2, w2 = w1.drew := ⟨_, rfl⟩
    have hbw2 : Below w.heap.size w w2 := hw2 ▸ hbw1.drew
    have HG2 : w2.heap[w.heap.size]? = some (.cells #[S p, S pt, .int .i64 n, .int .i64 lo, .int .i64 hi, .int .i64 1] 37 (0, 0)) := hw2 ▸ HG1.out
    rw [← hw2]
    clear c0 c1 c2 c3 c4 c5 a7
    have a7 := (X.out _ hbw2).c7
    obtain ⟨c0, c1, c2, c3, c4, c5⟩ := rowF6 (f := ⟨p, pt, n, lo, hi, 1⟩) HG2
    clear hw2 HG2
    have hbA : Below w2.heap.size w2 (w2.drew.alloc (.cells #[S p, S pt, .int .i64 n, .int .i64 lo, .int .i64 hi, .int .i64 1] 37)) := (Below.refl w2.heap.size w2).drew.alloc (Nat.le_refl _) _
    have hbwA := hbw2.trans (hbA.mono hbw2.size)
    have HA := Lib.hid (X.out _ hbwA)
    obtain ⟨v6, w6, happ, hown6, hg6, hn6⟩ := run_app (P := Tryz.prog) (w2.drew.alloc (.cells (encF ⟨p, pt, n, lo, hi, 1⟩).toArray 37)) B 22 22 37 6 64 elFl (.slice a t.adds.length c) t.adds.length _ HA.out.adds (.slice (some ⟨w2.drew.heap.size, 0, none⟩) 1 1) 1 (encF ⟨p, pt, n, lo, hi, 1⟩) (src_one rfl rfl (by simp [Value.oneCell'])) (by unfold maxLen; omega) (by omega) (Nat.le_of_lt (Nat.lt_of_le_of_lt (HA.out.low tb HA.out.dt).1 HA.out.lt))
    obtain ⟨a6, n6, c6, rfl⟩ : ∃ a n c, v6 = .slice a n c := by obtain ⟨a6, c6, e6, -, -⟩ := At.form' ((Own.snoc hown6 : Own encF _ 6 B w6 v6 _).at encF_enc); exact ⟨_, _, _, e6⟩
    have hlt6 : ∀ k, (Value.slice a6 n6 c6).ownBlock = some k → k < w6.heap.size := fun k hk => (World.ownsRow.lt hown6 k hk).2
    have hfin := h.added (w1 := w2.drew.alloc (.cells #[S p, S pt, .int .i64 n, .int .i64 lo, .int .i64 hi, .int .i64 1] 37)) (w2 := w6) (va' := .slice a6 n6 c6) (f := ⟨p, pt, n, lo, hi, 1⟩) hbwA hg6 hn6 hlt6 (Own.snoc hown6) 7 rfl
    have ht6 : w6.heap[tb]? = (w2.drew.alloc (.cells #[S p, S pt, .int .i64 n, .int .i64 lo, .int .i64 hi, .int .i64 1] 37)).heap[tb]? := hg6.block tb (by have := HA.out.lt; exact this) (fun e => (HA.out.da tb e.symm).2 rfl)
    have b6 := ht6.trans HA.out.blk
    have q7 : w6.cell? ⟨tb, 7, none⟩ = some (.slice a t.adds.length c) := by rw [cell_of_row w6 _ _ _ _ (0, 0) b6]; rfl
    have q7f : w6.frozen? ⟨tb, 7, none⟩ = false := frozen_row b6
    have a7A : (w2.alloc (.cells #[S p, S pt, .int .i64 n, .int .i64 lo, .int .i64 hi, .int .i64 1] 37)).drew.cell? ⟨tb, 7, none⟩ = some (.slice a t.adds.length c) := HA.out.c7
    have happ' : (shutApp #[22, 22] 22 #[.slice a t.adds.length c, .slice (some ⟨w2.heap.size, 0, none⟩) 1 1]).run Tryz.prog (w2.alloc (.cells #[S p, S pt, .int .i64 n, .int .i64 lo, .int .i64 hi, .int .i64 1] 37)).drew = .ok (.slice a6 n6 c6) w6 := happ
    have HFin := Lib.hid hfin
    clear hfin hlt6 hown6 hg6 hn6 happ ht6 b6 hbA
    go_wp2_with fail
    go_region
    go_wp2_with fail
    go_ret
    exact ⟨_, grewD D w.heap.size w6.heap.size, by rw [HTE3.out]; rfl, by rw [HTT2.out]; exact HFin.out.1, fun k hk => Or.imp id (fun h => h.1) hk, HFin.out.2⟩
end Go.Proofs.YtmhchakjkgdpmaaGreatDoor
namespace Go.Proofs.YtmhchakjkgdpmaaGreatDoor
open Go.RowKit

theorem listCheck_code' {l : List Fl} (h : listCheck l ≠ .nil) : 0 < (listCheck l).code := by
  unfold listCheck at h ⊢
  split
  · decide
  · rename_i h0
    rw [if_neg h0] at h
    exact firstFrom_code h
theorem fault_ways (s : Sn) : (snapBound s = true ∧ (s.id < 1 ∨ (decide (s.id < 1) = false ∧ (1073741824 < s.id ∨ (decide (1073741824 < s.id) = false ∧ (s.parent < 0 ∨ (decide (s.parent < 0) = false ∧ (s.id ≤ s.parent ∨ (decide (s.id ≤ s.parent) = false ∧ (s.seq < 0 ∨ (decide (s.seq < 0) = false ∧ (1073741824 < s.seq ∨ (decide (1073741824 < s.seq) = false ∧ (s.day < 0 ∨ (decide (s.day < 0) = false ∧ (100000 < s.day ∨ (decide (100000 < s.day) = false ∧ (s.index < 0 ∨ (decide (s.index < 0) = false ∧ 1073741824 < s.index))))))))))))))))))) ∨ (snapBound s = false ∧ decide (s.id < 1) = false ∧ decide (1073741824 < s.id) = false ∧ decide (s.parent < 0) = false ∧ decide (s.id ≤ s.parent) = false ∧ decide (s.seq < 0) = false ∧ decide (1073741824 < s.seq) = false ∧ decide (s.day < 0) = false ∧ decide (100000 < s.day) = false ∧ decide (s.index < 0) = false ∧ decide (1073741824 < s.index) = false) := by
  unfold snapBound inB
  simp only [Bool.or_eq_true, Bool.or_eq_false_iff, Bool.not_eq_true', Bool.not_eq_false', Bool.and_eq_true, Bool.and_eq_false_iff, decide_eq_true_eq, decide_eq_false_iff_not]
  omega

set_option maxHeartbeats 2000000 in
set_option maxRecDepth 20000 in
theorem snapFault_any (s : Sn) (v : Value) (w : World) (hl : FilesAt w v s.files) (hs : ∀ x ∈ s.files, midF x) :
    Calls Tryz.prog 22 #[snapV s v] w fun e w' => e = .returned (faultOf (snapCheck s)) ∧ Below w.heap.size w w' := by
  have hSC : snapCheck s = if snapBound s = true then .bare 2 else if s.op ∉ kOps then .bare 4 else if listCheck s.files ≠ .nil then listCheck s.files else firstErr (seqFault s) s.files.length := rfl
  have HSC := Lib.hid hSC; clear hSC
  have Hs := Lib.hid hs; clear hs
  obtain ⟨w0, hw0⟩ : ∃ w0, w0 = w.alloc (.cells #[.int .i64 s.id, .int .i64 s.parent, .int .i64 s.seq, .int .i64 s.day, .int .i64 s.index, S s.op, v] 24) := ⟨_, rfl⟩
  obtain ⟨w1, hw1⟩ : ∃ w1, w1 = w0.alloc (.cells #[.int .i64 0, .int .i64 0] 49) := ⟨_, rfl⟩
  have hz0 : w0.heap.size = w.heap.size + 1 := by rw [hw0]; simp
  have hz1 : w1.heap.size = w.heap.size + 2 := by rw [hw1]; simp [hz0]
  have hb01 : Below w0.heap.size w0 w1 := hw1 ▸ (Below.refl _ _).alloc (Nat.le_refl _) _
  have hb0 : Below w.heap.size w w0 := hw0 ▸ (Below.refl _ _).alloc (Nat.le_refl _) _
  have hb1 := hb0.trans (hb01.mono hb0.size)
  have CS := Lib.hid (fun w6 (h : Below w1.heap.size w1 w6) => snapCells (s := s) (v := v) (t := 24) (w := w) (w6 := w6) (by rw [← hw0]; exact hb01.trans (h.mono hb01.size)))
  have hG := fun W (h : Below w1.heap.size w1 W) => ((h.block (w.heap.size + 1) (by omega)).trans (by rw [hw1, ← hz0]; exact heap_alloc_new w0 _) : W.heap[w.heap.size + 1]? = some (.cells #[.int .i64 0, .int .i64 0] 49 (0, 0)))
  have HG := Lib.hid hG; clear hG
  have HZ := Lib.hid hz1
  have HW : Hid (w1 = (w.alloc (.cells #[.int .i64 s.id, .int .i64 s.parent, .int .i64 s.seq, .int .i64 s.day, .int .i64 s.index, S s.op, v] 24)).alloc (.cells #[.int .i64 0, .int .i64 0] 49)) := Lib.hid (by rw [hw1, hw0])
  clear hz0 hz1 hw1 hw0 hb0 hb01
  obtain ⟨c0, c1, c2, c3, c4, c5, c6⟩ := CS.out _ (Below.refl _ _)
  obtain ⟨a, c, rfl, -, -⟩ := At.form' hl
  go_enter Tryz.func22, Tryz.ntmps22
  go_upto_region 1 with fail
  rw [← HW.out]
  rcases fault_ways s with ⟨hbd, g1 | ⟨g1, g2 | ⟨g2, g3 | ⟨g3, g4 | ⟨g4, g5 | ⟨g5, g6 | ⟨g6, g7 | ⟨g7, g8 | ⟨g8, g9 | ⟨g9, g10⟩⟩⟩⟩⟩⟩⟩⟩⟩⟩ | ⟨hbd, g1, g2, g3, g4, g5, g6, g7, g8, g9, g10⟩
  · have HC : Hid (snapCheck s = .bare 2) := Lib.hid (by rw [HSC.out, if_pos hbd])
    clear hbd
    go_wp2_with fail
    refine (refBare_any 2 _).mono ?_
    rintro e w2 ⟨rfl, hb⟩
    have hg := HG.out _ hb
    have z0 : w2.cell? ⟨w.heap.size + 1, 0, none⟩ = some (.int .i64 0) := by simp [World.cell?, hg]
    have z1 : w2.cell? ⟨w.heap.size + 1, 1, none⟩ = some (.int .i64 0) := by simp [World.cell?, hg]
    have f0 : w2.frozen? ⟨w.heap.size + 1, 0, none⟩ = false := by simp [World.frozen?, hg]
    have f1 : w2.frozen? ⟨w.heap.size + 1, 1, none⟩ = false := by simp [World.frozen?, hg]
    have HGg := Lib.hid hg; clear hg
    unfold faultV
    go_wp2_with fail
    refine bodyPost_ret (fault_cell (g := w.heap.size + 1) rfl rfl (set_two HGg.out _ _)) rfl ⟨by rw [HC.out]; rfl, ?_⟩
    exact ((hb1.trans (hb.mono hb1.size)).setCell (by simp; try omega) _).setCell (by simp; try omega) _
  · have HC : Hid (snapCheck s = .bare 2) := Lib.hid (by rw [HSC.out, if_pos hbd])
    clear hbd
    go_wp2_with fail
    refine (refBare_any 2 _).mono ?_
    rintro e w2 ⟨rfl, hb⟩
    have hg := HG.out _ hb
    have z0 : w2.cell? ⟨w.heap.size + 1, 0, none⟩ = some (.int .i64 0) := by simp [World.cell?, hg]
    have z1 : w2.cell? ⟨w.heap.size + 1, 1, none⟩ = some (.int .i64 0) := by simp [World.cell?, hg]
    have f0 : w2.frozen? ⟨w.heap.size + 1, 0, none⟩ = false := by simp [World.frozen?, hg]
    have f1 : w2.frozen? ⟨w.heap.size + 1, 1, none⟩ = false := by simp [World.frozen?, hg]
    have HGg := Lib.hid hg; clear hg
    unfold faultV
    go_wp2_with fail
    refine bodyPost_ret (fault_cell (g := w.heap.size + 1) rfl rfl (set_two HGg.out _ _)) rfl ⟨by rw [HC.out]; rfl, ?_⟩
    exact ((hb1.trans (hb.mono hb1.size)).setCell (by simp; try omega) _).setCell (by simp; try omega) _
  · have HC : Hid (snapCheck s = .bare 2) := Lib.hid (by rw [HSC.out, if_pos hbd])
    clear hbd
    go_wp2_with fail
    refine (refBare_any 2 _).mono ?_
    rintro e w2 ⟨rfl, hb⟩
    have hg := HG.out _ hb
    have z0 : w2.cell? ⟨w.heap.size + 1, 0, none⟩ = some (.int .i64 0) := by simp [World.cell?, hg]
    have z1 : w2.cell? ⟨w.heap.size + 1, 1, none⟩ = some (.int .i64 0) := by simp [World.cell?, hg]
    have f0 : w2.frozen? ⟨w.heap.size + 1, 0, none⟩ = false := by simp [World.frozen?, hg]
    have f1 : w2.frozen? ⟨w.heap.size + 1, 1, none⟩ = false := by simp [World.frozen?, hg]
    have HGg := Lib.hid hg; clear hg
    unfold faultV
    go_wp2_with fail
    refine bodyPost_ret (fault_cell (g := w.heap.size + 1) rfl rfl (set_two HGg.out _ _)) rfl ⟨by rw [HC.out]; rfl, ?_⟩
    exact ((hb1.trans (hb.mono hb1.size)).setCell (by simp; try omega) _).setCell (by simp; try omega) _
  · have HC : Hid (snapCheck s = .bare 2) := Lib.hid (by rw [HSC.out, if_pos hbd])
    clear hbd
    go_wp2_with fail
    refine (refBare_any 2 _).mono ?_
    rintro e w2 ⟨rfl, hb⟩
    have hg := HG.out _ hb
    have z0 : w2.cell? ⟨w.heap.size + 1, 0, none⟩ = some (.int .i64 0) := by simp [World.cell?, hg]
    have z1 : w2.cell? ⟨w.heap.size + 1, 1, none⟩ = some (.int .i64 0) := by simp [World.cell?, hg]
    have f0 : w2.frozen? ⟨w.heap.size + 1, 0, none⟩ = false := by simp [World.frozen?, hg]
    have f1 : w2.frozen? ⟨w.heap.size + 1, 1, none⟩ = false := by simp [World.frozen?, hg]
    have HGg := Lib.hid hg; clear hg
    unfold faultV
    go_wp2_with fail
    refine bodyPost_ret (fault_cell (g := w.heap.size + 1) rfl rfl (set_two HGg.out _ _)) rfl ⟨by rw [HC.out]; rfl, ?_⟩
    exact ((hb1.trans (hb.mono hb1.size)).setCell (by simp; try omega) _).setCell (by simp; try omega) _
  · have HC : Hid (snapCheck s = .bare 2) := Lib.hid (by rw [HSC.out, if_pos hbd])
    clear hbd
    go_wp2_with fail
    refine (refBare_any 2 _).mono ?_
    rintro e w2 ⟨rfl, hb⟩
    have hg := HG.out _ hb
    have z0 : w2.cell? ⟨w.heap.size + 1, 0, none⟩ = some (.int .i64 0) := by simp [World.cell?, hg]
    have z1 : w2.cell? ⟨w.heap.size + 1, 1, none⟩ = some (.int .i64 0) := by simp [World.cell?, hg]
    have f0 : w2.frozen? ⟨w.heap.size + 1, 0, none⟩ = false := by simp [World.frozen?, hg]
    have f1 : w2.frozen? ⟨w.heap.size + 1, 1, none⟩ = false := by simp [World.frozen?, hg]
    have HGg := Lib.hid hg; clear hg
    unfold faultV
    go_wp2_with fail
    refine bodyPost_ret (fault_cell (g := w.heap.size + 1) rfl rfl (set_two HGg.out _ _)) rfl ⟨by rw [HC.out]; rfl, ?_⟩
    exact ((hb1.trans (hb.mono hb1.size)).setCell (by simp; try omega) _).setCell (by simp; try omega) _
  · have HC : Hid (snapCheck s = .bare 2) := Lib.hid (by rw [HSC.out, if_pos hbd])
    clear hbd
    go_wp2_with fail
    refine (refBare_any 2 _).mono ?_
    rintro e w2 ⟨rfl, hb⟩
    have hg := HG.out _ hb
    have z0 : w2.cell? ⟨w.heap.size + 1, 0, none⟩ = some (.int .i64 0) := by simp [World.cell?, hg]
    have z1 : w2.cell? ⟨w.heap.size + 1, 1, none⟩ = some (.int .i64 0) := by simp [World.cell?, hg]
    have f0 : w2.frozen? ⟨w.heap.size + 1, 0, none⟩ = false := by simp [World.frozen?, hg]
    have f1 : w2.frozen? ⟨w.heap.size + 1, 1, none⟩ = false := by simp [World.frozen?, hg]
    have HGg := Lib.hid hg; clear hg
    unfold faultV
    go_wp2_with fail
    refine bodyPost_ret (fault_cell (g := w.heap.size + 1) rfl rfl (set_two HGg.out _ _)) rfl ⟨by rw [HC.out]; rfl, ?_⟩
    exact ((hb1.trans (hb.mono hb1.size)).setCell (by simp; try omega) _).setCell (by simp; try omega) _
  · have HC : Hid (snapCheck s = .bare 2) := Lib.hid (by rw [HSC.out, if_pos hbd])
    clear hbd
    go_wp2_with fail
    refine (refBare_any 2 _).mono ?_
    rintro e w2 ⟨rfl, hb⟩
    have hg := HG.out _ hb
    have z0 : w2.cell? ⟨w.heap.size + 1, 0, none⟩ = some (.int .i64 0) := by simp [World.cell?, hg]
    have z1 : w2.cell? ⟨w.heap.size + 1, 1, none⟩ = some (.int .i64 0) := by simp [World.cell?, hg]
    have f0 : w2.frozen? ⟨w.heap.size + 1, 0, none⟩ = false := by simp [World.frozen?, hg]
    have f1 : w2.frozen? ⟨w.heap.size + 1, 1, none⟩ = false := by simp [World.frozen?, hg]
    have HGg := Lib.hid hg; clear hg
    unfold faultV
    go_wp2_with fail
    refine bodyPost_ret (fault_cell (g := w.heap.size + 1) rfl rfl (set_two HGg.out _ _)) rfl ⟨by rw [HC.out]; rfl, ?_⟩
    exact ((hb1.trans (hb.mono hb1.size)).setCell (by simp; try omega) _).setCell (by simp; try omega) _
  · have HC : Hid (snapCheck s = .bare 2) := Lib.hid (by rw [HSC.out, if_pos hbd])
    clear hbd
    go_wp2_with fail
    refine (refBare_any 2 _).mono ?_
    rintro e w2 ⟨rfl, hb⟩
    have hg := HG.out _ hb
    have z0 : w2.cell? ⟨w.heap.size + 1, 0, none⟩ = some (.int .i64 0) := by simp [World.cell?, hg]
    have z1 : w2.cell? ⟨w.heap.size + 1, 1, none⟩ = some (.int .i64 0) := by simp [World.cell?, hg]
    have f0 : w2.frozen? ⟨w.heap.size + 1, 0, none⟩ = false := by simp [World.frozen?, hg]
    have f1 : w2.frozen? ⟨w.heap.size + 1, 1, none⟩ = false := by simp [World.frozen?, hg]
    have HGg := Lib.hid hg; clear hg
    unfold faultV
    go_wp2_with fail
    refine bodyPost_ret (fault_cell (g := w.heap.size + 1) rfl rfl (set_two HGg.out _ _)) rfl ⟨by rw [HC.out]; rfl, ?_⟩
    exact ((hb1.trans (hb.mono hb1.size)).setCell (by simp; try omega) _).setCell (by simp; try omega) _
  · have HC : Hid (snapCheck s = .bare 2) := Lib.hid (by rw [HSC.out, if_pos hbd])
    clear hbd
    go_wp2_with fail
    refine (refBare_any 2 _).mono ?_
    rintro e w2 ⟨rfl, hb⟩
    have hg := HG.out _ hb
    have z0 : w2.cell? ⟨w.heap.size + 1, 0, none⟩ = some (.int .i64 0) := by simp [World.cell?, hg]
    have z1 : w2.cell? ⟨w.heap.size + 1, 1, none⟩ = some (.int .i64 0) := by simp [World.cell?, hg]
    have f0 : w2.frozen? ⟨w.heap.size + 1, 0, none⟩ = false := by simp [World.frozen?, hg]
    have f1 : w2.frozen? ⟨w.heap.size + 1, 1, none⟩ = false := by simp [World.frozen?, hg]
    have HGg := Lib.hid hg; clear hg
    unfold faultV
    go_wp2_with fail
    refine bodyPost_ret (fault_cell (g := w.heap.size + 1) rfl rfl (set_two HGg.out _ _)) rfl ⟨by rw [HC.out]; rfl, ?_⟩
    exact ((hb1.trans (hb.mono hb1.size)).setCell (by simp; try omega) _).setCell (by simp; try omega) _
  · have HC : Hid (snapCheck s = .bare 2) := Lib.hid (by rw [HSC.out, if_pos hbd])
    clear hbd
    go_wp2_with fail
    refine (refBare_any 2 _).mono ?_
    rintro e w2 ⟨rfl, hb⟩
    have hg := HG.out _ hb
    have z0 : w2.cell? ⟨w.heap.size + 1, 0, none⟩ = some (.int .i64 0) := by simp [World.cell?, hg]
    have z1 : w2.cell? ⟨w.heap.size + 1, 1, none⟩ = some (.int .i64 0) := by simp [World.cell?, hg]
    have f0 : w2.frozen? ⟨w.heap.size + 1, 0, none⟩ = false := by simp [World.frozen?, hg]
    have f1 : w2.frozen? ⟨w.heap.size + 1, 1, none⟩ = false := by simp [World.frozen?, hg]
    have HGg := Lib.hid hg; clear hg
    unfold faultV
    go_wp2_with fail
    refine bodyPost_ret (fault_cell (g := w.heap.size + 1) rfl rfl (set_two HGg.out _ _)) rfl ⟨by rw [HC.out]; rfl, ?_⟩
    exact ((hb1.trans (hb.mono hb1.size)).setCell (by simp; try omega) _).setCell (by simp; try omega) _
  have hba : Below w1.heap.size w1 (w1.alloc (.cells #[S kStart, S kAppend, S kDelete, S kRewrite] 9)) := (Below.refl _ _).alloc (Nat.le_refl _) _
  have hops : StrsAt (w1.alloc (.cells #[S kStart, S kAppend, S kDelete, S kRewrite] 9)) (.slice (some ⟨w1.heap.size, 0, none⟩) 4 4) kOps := strs_new kOps w1 9 _ 4 _ rfl rfl rfl (by decide)
  have HOps := Lib.hid hops
  have HBd := Lib.hid hbd
  clear hbd hops
  go_wp2_with fail
  refine (inTexts_any s.op _ kOps _ HOps.out).mono ?_
  rintro e w2 ⟨rfl, hb2⟩
  have hb12 := hba.trans (hb2.mono hba.size)
  clear c0 c1 c2 c3 c4 c5 c6 g1 g2 g3 g4 g5 g6 g7 g8 g9 g10 hba hb2
  by_cases hop : s.op ∈ kOps
  case neg =>
    rw [decide_eq_false hop]
    have HC : Hid (snapCheck s = .bare 4) := Lib.hid (by rw [HSC.out, if_neg (by rw [HBd.out]; simp), if_pos hop])
    clear hop
    go_wp2_with fail
    refine (refBare_any 4 _).mono ?_
    rintro e w3 ⟨rfl, hb⟩
    have hb13 := hb12.trans (hb.mono hb12.size)
    have hg := HG.out _ hb13
    have z0 : w3.cell? ⟨w.heap.size + 1, 0, none⟩ = some (.int .i64 0) := by simp [World.cell?, hg]
    have z1 : w3.cell? ⟨w.heap.size + 1, 1, none⟩ = some (.int .i64 0) := by simp [World.cell?, hg]
    have f0 : w3.frozen? ⟨w.heap.size + 1, 0, none⟩ = false := by simp [World.frozen?, hg]
    have f1 : w3.frozen? ⟨w.heap.size + 1, 1, none⟩ = false := by simp [World.frozen?, hg]
    have HGg := Lib.hid hg; clear hg
    unfold faultV
    go_wp2_with fail
    refine bodyPost_ret (fault_cell (g := w.heap.size + 1) rfl rfl (set_two HGg.out _ _)) rfl ⟨by rw [HC.out]; rfl, ?_⟩
    exact ((hb1.trans (hb13.mono hb1.size)).setCell (by simp; try omega) _).setCell (by simp; try omega) _
  rw [decide_eq_true hop]
  have HC : Hid (snapCheck s = if listCheck s.files ≠ .nil then listCheck s.files else firstErr (seqFault s) s.files.length) := Lib.hid (by rw [HSC.out, if_neg (by rw [HBd.out]; simp), if_neg (fun h => h hop)])
  clear hop HSC HBd
  have k6 := (CS.out _ hb12).2.2.2.2.2.2
  have hbw2 := hb1.trans (hb12.mono hb1.size)
  go_wp2_with fail
  refine (listFault_any _ s.files w2 (hl.below hbw2) Hs.out).mono ?_
  rintro e w3 ⟨rfl, hb3⟩
  have hb13 := hb12.trans (hb3.mono hb12.size)
  have hbw3 := hb1.trans (hb13.mono hb1.size)
  clear k6 hb3 hb12 hbw2
  obtain ⟨cf, hcf⟩ : ∃ cf : Int, (listCheck s.files).code = cf := ⟨_, rfl⟩
  obtain ⟨pf, hpf⟩ : ∃ pf : Int, (listCheck s.files).place = pf := ⟨_, rfl⟩
  unfold faultOf
  rw [hcf, hpf]
  have hbF : Below w3.heap.size w3 (w3.alloc (.cells #[.int .i64 cf, .int .i64 pf] 49)) := (Below.refl _ _).alloc (Nat.le_refl _) _
  have hb14 := hb13.trans (hbF.mono hb13.size)
  have hbw4 := hb1.trans (hb14.mono hb1.size)
  have d0 : (w3.alloc (.cells #[.int .i64 cf, .int .i64 pf] 49)).cell? ⟨w3.heap.size, 0, none⟩ = some (.int .i64 cf) := newCell (Below.refl _ _) 0 rfl
  have d1 : (w3.alloc (.cells #[.int .i64 cf, .int .i64 pf] 49)).cell? ⟨w3.heap.size, 1, none⟩ = some (.int .i64 pf) := newCell (Below.refl _ _) 1 rfl
  obtain ⟨H3, hH3⟩ : ∃ H3, w3.heap.size = H3 := ⟨_, rfl⟩
  rw [hH3] at d0 d1
  unfold faultV
  go_upto_region 11 with fail
  try rw [hH3]
  generalize w3.alloc (.cells #[.int .i64 cf, .int .i64 pf] 49) = w4 at *
  by_cases hck : listCheck s.files = .nil
  case neg =>
    have hpos : (0 : Int) < cf := by have := listCheck_code' hck; omega
    have HC' : Hid (snapCheck s = listCheck s.files) := Lib.hid (by rw [HC.out, if_pos hck])
    have HCf := Lib.hid hcf; have HPf := Lib.hid hpf
    have hg := HG.out _ hb14
    have z0 : w4.cell? ⟨w.heap.size + 1, 0, none⟩ = some (.int .i64 0) := by simp [World.cell?, hg]
    have z1 : w4.cell? ⟨w.heap.size + 1, 1, none⟩ = some (.int .i64 0) := by simp [World.cell?, hg]
    have f0 : w4.frozen? ⟨w.heap.size + 1, 0, none⟩ = false := by simp [World.frozen?, hg]
    have f1 : w4.frozen? ⟨w.heap.size + 1, 1, none⟩ = false := by simp [World.frozen?, hg]
    have HGg := Lib.hid hg; clear hg hck hcf hpf
    go_wp2_with fail
    refine bodyPost_ret (fault_cell (g := w.heap.size + 1) rfl rfl (set_two HGg.out _ _)) rfl ⟨by rw [HC'.out]; unfold faultOf faultV; rw [HCf.out, HPf.out], ?_⟩
    exact (hbw4.setCell (by simp; try omega) _).setCell (by simp; try omega) _
  have hcf0 : cf = 0 := by rw [← hcf, hck]; rfl
  subst hcf0
  have HF : Hid (snapCheck s = firstErr (seqFault s) s.files.length) := Lib.hid (by rw [HC.out, if_neg (fun h => h hck)])
  clear hcf hpf hck HC
  obtain ⟨a', c', b, o, hv, ha, hc, hcm, hx⟩ := hl
  cases hv
  unfold maxLen at hcm
  obtain ⟨fl, hfl⟩ : ∃ fl, s.files = fl := ⟨_, rfl⟩
  rw [hfl] at hx ha hc HF ⊢
  have HFl := Lib.hid hfl
  have CS' := Lib.hid (fun w6 (h : Below w4.heap.size w4 w6) => (⟨(CS.out _ (hb14.trans (h.mono hb14.size))).2.2.1, by have := (CS.out _ (hb14.trans (h.mono hb14.size))).2.2.2.2.2.2; rwa [hfl] at this⟩ : w6.cell? ⟨w.heap.size, 2, none⟩ = some (.int .i64 s.seq) ∧ w6.cell? ⟨w.heap.size, 6, none⟩ = some (.slice a fl.length c)))
  clear hfl CS
  go_wp2_with fail
  clear d0 d1
  go_loopw [5] (fun i wr => ∃ k : Nat, k ≤ fl.length ∧ i = .int .i64 k ∧ Hid (∀ j < k, seqFault s j = 0) ∧ Below w4.heap.size w4 wr) (fun i _ => fl.length - (intOf i).toNat)
  case atStart => exact ⟨0, by omega, rfl, Lib.hid fun j hj => absurd hj (by omega), Below.refl _ _⟩
  case round =>
    obtain ⟨k, hk, rfl, hj, hb⟩ := hrel
    have hb1r := hb14.trans (hb.mono hb14.size)
    have hbr := hbw4.trans (hb.mono hbw4.size)
    obtain ⟨k2, k6⟩ := CS'.out _ hb
    by_cases hlt : k < fl.length
    case neg =>
      obtain rfl : k = fl.length := by omega
      have f : decide ((fl.length : Int) < (fl.length : Int)) = false := by simp
      go_wp2_with fail
      refine (refFine_any _).mono ?_
      rintro e w5 ⟨rfl, hb5⟩
      have hb15 := hb1r.trans (hb5.mono hb1r.size)
      clear k2 k6
      have hg := HG.out _ hb15
      have z0 : w5.cell? ⟨w.heap.size + 1, 0, none⟩ = some (.int .i64 0) := by simp [World.cell?, hg]
      have z1 : w5.cell? ⟨w.heap.size + 1, 1, none⟩ = some (.int .i64 0) := by simp [World.cell?, hg]
      have f0 : w5.frozen? ⟨w.heap.size + 1, 0, none⟩ = false := by simp [World.frozen?, hg]
      have f1 : w5.frozen? ⟨w.heap.size + 1, 1, none⟩ = false := by simp [World.frozen?, hg]
      have HGg := Lib.hid hg; clear hg
      unfold faultV
      go_wp2_with fail
      refine bodyPost_ret (fault_cell (g := w.heap.size + 1) rfl rfl (set_two HGg.out _ _)) rfl ⟨by rw [HF.out, firstErr_all hj.out]; rfl, ?_⟩
      exact ((hb1.trans (hb15.mono hb1.size)).setCell (by simp; try omega) _).setCell (by simp; try omega) _
    obtain ⟨x, hxk⟩ := get_ex hlt
    have hbrD : Below w.heap.size w wr.drew := Bdn hbr 1
    obtain ⟨-, -, -, -, -, q5⟩ := flCells hx hbr hxk
    have i1 := idx_at (c := c) 6 Tryz.underlying22 szFl ha k hlt
    have f : (k : Int) < (fl.length : Int) := by omega
    by_cases hsq : s.seq < x.seq
    · have hf : seqFault s k = 9 := by unfold seqFault; rw [HFl.out, hxk]; simp only; rw [if_pos hsq]
      have HL : Hid (snapCheck s = .loc 9 k) := Lib.hid (HF.out.trans ((firstErr_hit hlt hj.out (by rw [hf]; decide)).trans (by rw [hf])))
      clear hf hxk
      go_wp2_with fail
      go_quiet (fail)
      have hb1q : Below w1.heap.size w1 (wr.drewN nq) := Bdn hb1r nq
      have hg := HG.out _ hb1r
      have z0 : (wr.drewN nq).cell? ⟨w.heap.size + 1, 0, none⟩ = some (.int .i64 0) := by simp [World.cell?, hg]
      have z1 : (wr.drewN nq).cell? ⟨w.heap.size + 1, 1, none⟩ = some (.int .i64 0) := by simp [World.cell?, hg]
      have f0 : (wr.drewN nq).frozen? ⟨w.heap.size + 1, 0, none⟩ = false := by simp [World.frozen?, hg]
      have f1 : (wr.drewN nq).frozen? ⟨w.heap.size + 1, 1, none⟩ = false := by simp [World.frozen?, hg]
      have HGg := Lib.hid (HG.out _ hb1q); clear hg
      have hbq : Below w.heap.size w (wr.drewN nq) := Bdn hbr nq
      generalize wr.drewN nq = wq at *
      go_wp2_with fail
      refine bodyPost_ret (fault_cell (g := w.heap.size + 1) rfl rfl (set_two HGg.out _ _)) rfl ⟨by rw [HL.out]; rfl, ?_⟩
      exact (hbq.setCell (by simp; try omega) _).setCell (by simp; try omega) _
    · have hsq' : decide (s.seq < x.seq) = false := decide_eq_false hsq
      have hf : seqFault s k = 0 := by unfold seqFault; rw [HFl.out, hxk]; simp only; rw [if_neg hsq]
      have HF0 := Lib.hid hf
      clear hf hxk hsq
      go_wp2_with fail
      go_quiet (fail)
      go_wp2_with fail
      go_roundw
      case rel => exact ⟨k + 1, by omega, by go_num, (Lib.hid fun j hj' => by
        rcases Nat.lt_or_ge j k with h | h
        · exact hj.out j h
        · obtain rfl : j = k := by omega
          exact HF0.out), Bdn hb _⟩
      case measure => simp [intOf]; omega
end Go.Proofs.YtmhchakjkgdpmaaGreatDoor
