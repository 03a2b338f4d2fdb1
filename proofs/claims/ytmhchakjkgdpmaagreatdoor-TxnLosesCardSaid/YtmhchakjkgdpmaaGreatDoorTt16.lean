/- coded and faulted of the packages of statements. deedboxlaw1.faulted at the fault's own numbers. coded and faulted answer true at the error's own numbers. deedboxlaw3.TxnTells: the walk (printed by gen_txt.py). From the row's condition on the listed variables to what the walks ask: the sentinels, and what errors.As reads. -/
import Derived.Test.YtmhchakjkgdpmaaGreatDoorTt1
import Derived.Deep.RegionWith
import Derived.Test.YtmhchakjkgdpmaaGreatDoorTt5
import Derived.Test.YtmhchakjkgdpmaaGreatDoorTt4
import Derived.Test.YtmhchakjkgdpmaaGreatDoorTt6
import Derived.Test.YtmhchakjkgdpmaaGreatDoorTt14
import Derived.Test.YtmhchakjkgdpmaaGreatDoorTt15
import Derived.Deep.RegionHeld3
import Derived.Deep.DrawnRows
import Derived.Deep.DeepCutAuto
import Derived.LaidLaws
import Derived.LaidHandle
import Derived.Stop.LaidErr
namespace Go.Proofs.YtmhchakjkgdpmaaGreatDoor
open Go.RowKit

def codedB (er : Er) (k : Int) : Bool := decide ((er.code : Int) = k) && decide (er.place = -1)
def faultedB (er : Er) (c p : Int) : Bool := decide ((er.code : Int) = c) && (decide (c = 0) || decide (er.place = p))



theorem coded3_any (E : Nat → Addr) (B : Nat) (er : Er) (v : Value) (k : Int) (w : World) (hE : Errs allE E B w) (hA : AsVar w) (hv : ErV E w v er) :
    Calls Tryz.prog 24 #[v, .int .i64 k] w fun e w' => e = .returned (.bool (codedB er k)) ∧ Below w.heap.size w w' := by
  unfold codedB
  by_cases h1 : (er.code : Int) = k
  · have g1 : ((er.code : Int) == k) = true := by simpa using h1
    have H1 := Lib.hid h1; clear h1
    by_cases h2 : er.place = -1
    · have g2 : (er.place == -1) = true := by simpa using h2
      have H2 := Lib.hid h2; clear h2
      go_enter Tryz.func24, Tryz.ntmps24
      go_wp2_with (go_at_call 75; refine (code_any E B er _ _ hE hA hv).mono ?_; rintro e w1 ⟨rfl, hb⟩)
      go_ret
      exact ⟨ret_bool (by simp [H1.out, H2.out]), hb⟩
    · have g2 : (er.place == -1) = false := by simpa using h2
      go_enter Tryz.func24, Tryz.ntmps24
      go_wp2_with (go_at_call 75; refine (code_any E B er _ _ hE hA hv).mono ?_; rintro e w1 ⟨rfl, hb⟩)
      go_ret
      exact ⟨ret_bool (by simp [H1.out, h2]), hb⟩
  · have g1 : ((er.code : Int) == k) = false := by simpa using h1
    go_enter Tryz.func24, Tryz.ntmps24
    go_wp2_with (go_at_call 75; refine (code_any E B er _ _ hE hA hv).mono ?_; rintro e w1 ⟨rfl, hb⟩)
    go_ret
    exact ⟨ret_bool (by simp [h1]), hb⟩

end Go.Proofs.YtmhchakjkgdpmaaGreatDoor
namespace Go.Proofs.YtmhchakjkgdpmaaGreatDoor
open Go.RowKit

theorem ErV.apart {E : Nat → Addr} {w w' : World} {v : Value} {er : Er} {g : Nat} {m : Int} (h : ErV E w v er) (hc : w.cell? ⟨g, 1, none⟩ = some (.int .i64 m)) (hw : ∀ p : Addr, p.block ≠ g → w'.cell? p = w.cell? p) : ErV E w' v er := by
  cases er with
  | nil => exact h
  | bare c => exact h
  | loc c i =>
    obtain ⟨hc', fb, hv, h0, h1⟩ := h
    have hne : fb ≠ g := by rintro rfl; rw [hc] at h1; cases h1
    exact ⟨hc', fb, hv, (hw ⟨fb, 0, none⟩ hne).trans h0, (hw ⟨fb, 1, none⟩ hne).trans h1⟩
theorem two_apart {W : World} {g : Nat} (x y : Value) : ∀ p : Addr, p.block ≠ g → ((W.setCell ⟨g, 0, none⟩ x).setCell ⟨g, 1, none⟩ y).cell? p = W.cell? p := fun p hne => by
  rw [World.cell?_setCell_other _ _ _ _ (fun e => hne (by rw [← e])), World.cell?_setCell_other _ _ _ _ (fun e => hne (by rw [← e]))]
theorem told_self (er : Er) : toldB er er.code er.place = true := by simp [toldB]
theorem faultedAt3_any (E : Nat → Addr) (B : Nat) (er : Er) (v : Value) (w : World) (hE : Errs allE E B w) (hA : AsVar w) (hgB : 12 < B) (hv : ErV E w v er) :
    Calls Tryz.prog 23 #[v, .agg #[.int .i64 (er.code : Nat), .int .i64 er.place]] w fun e w' => e = .returned (.bool true) ∧ Below w.heap.size w w' := by
  have h := faulted3_any E B er v er.code er.place w hE hA hgB hv
  rwa [told_self] at h
end Go.Proofs.YtmhchakjkgdpmaaGreatDoor
namespace Go.Proofs.YtmhchakjkgdpmaaGreatDoor
open Go.RowKit

theorem codedB_erOf (c : Nat) : codedB (erOf c) c = true := by
  unfold codedB erOf
  split
  · rename_i h; subst h; simp [Er.code, Er.place]
  · simp [Er.code, Er.place]
theorem codedB_noPlace (er : Er) : codedB er.noPlace er.code = true := by cases er <;> simp [codedB, Er.noPlace, Er.code, Er.place]
theorem codedT3_any (E : Nat → Addr) (B : Nat) (c : Nat) (v : Value) (w : World) (hE : Errs allE E B w) (hA : AsVar w) (hv : ErV E w v (erOf c)) :
    Calls Tryz.prog 24 #[v, .int .i64 (c : Int)] w fun e w' => e = .returned (.bool true) ∧ Below w.heap.size w w' := by
  have h := coded3_any E B (erOf c) v c w hE hA hv
  rwa [codedB_erOf] at h
end Go.Proofs.YtmhchakjkgdpmaaGreatDoor
namespace Go.Proofs.YtmhchakjkgdpmaaGreatDoor
open Go.RowKit

attribute [local go_sem ↓] Go.wp_at_zero Go.wp_at_succ in
set_option maxHeartbeats 8000000 in
set_option maxRecDepth 20000 in
theorem txnTells_any (E : Nat → Addr) (B : Nat) (vb : Value) (base : Sn) (vn : Value) (now : Sn) (vl : Value) (l : List Ch) (id day index : Int) (w : World) (hE : Errs allE E B w) (hA : AsVar w) (hgB : 12 < B) (hT : LNum B w) (hM : LMax B w)
    (hlb : FilesAt w vb base.files) (hln : FilesAt w vn now.files) (hll : ChangesAt w vl l) :
    Calls Tryz.prog 4 #[snapV base vb, snapV now vn, vl, .int .i64 id, .int .i64 day, .int .i64 index] w fun e w' => e = .returned (.bool true) ∧ Below w.heap.size w w' := by
  have hBw := hE.le
  have hif := isIfaceE
  have XF := Lib.hid (fun W (h : Below w.heap.size w W) => (⟨hlb.below h, hln.below h, hll.below h⟩ : FilesAt W vb base.files ∧ FilesAt W vn now.files ∧ ChangesAt W vl l))
  obtain ⟨ab, cb, rfl, -, -⟩ := At.form' hlb
  obtain ⟨an, cn, rfl, -, -⟩ := At.form' hln
  obtain ⟨al, cl, bl, ol, rfl, hal, hcl, hcml, hxl⟩ := hll
  unfold maxLen at hcml
  have X := Lib.hid (fun W (h : Below w.heap.size w W) => (⟨hE.below' h hBw, hA.below (h.mono hBw) hgB, hT.below' h hBw, hM.below' h hBw⟩ : Errs allE E B W ∧ AsVar W ∧ LNum B W ∧ LMax B W))
  have hb1 : Below w.heap.size w (w.alloc (.cells #[.int .i64 base.id, .int .i64 base.parent, .int .i64 base.seq, .int .i64 base.day, .int .i64 base.index, S base.op, .slice ab base.files.length cb] 24)) := (Below.refl _ _).alloc (Nat.le_refl _) _
  have hb2 : Below (w.alloc (.cells #[.int .i64 base.id, .int .i64 base.parent, .int .i64 base.seq, .int .i64 base.day, .int .i64 base.index, S base.op, .slice ab base.files.length cb] 24)).heap.size (w.alloc (.cells #[.int .i64 base.id, .int .i64 base.parent, .int .i64 base.seq, .int .i64 base.day, .int .i64 base.index, S base.op, .slice ab base.files.length cb] 24)) ((w.alloc (.cells #[.int .i64 base.id, .int .i64 base.parent, .int .i64 base.seq, .int .i64 base.day, .int .i64 base.index, S base.op, .slice ab base.files.length cb] 24)).alloc (.cells #[.int .i64 now.id, .int .i64 now.parent, .int .i64 now.seq, .int .i64 now.day, .int .i64 now.index, S now.op, .slice an now.files.length cn] 24)) := (Below.refl _ _).alloc (Nat.le_refl _) _
  have hba : Below w.heap.size w ((w.alloc (.cells #[.int .i64 base.id, .int .i64 base.parent, .int .i64 base.seq, .int .i64 base.day, .int .i64 base.index, S base.op, .slice ab base.files.length cb] 24)).alloc (.cells #[.int .i64 now.id, .int .i64 now.parent, .int .i64 now.seq, .int .i64 now.day, .int .i64 now.index, S now.op, .slice an now.files.length cn] 24)) := hb1.trans (hb2.mono hb1.size)
  have hs1 : (w.alloc (.cells #[.int .i64 base.id, .int .i64 base.parent, .int .i64 base.seq, .int .i64 base.day, .int .i64 base.index, S base.op, .slice ab base.files.length cb] 24)).heap.size = w.heap.size + 1 := by simp
  have hs2 : ((w.alloc (.cells #[.int .i64 base.id, .int .i64 base.parent, .int .i64 base.seq, .int .i64 base.day, .int .i64 base.index, S base.op, .slice ab base.files.length cb] 24)).alloc (.cells #[.int .i64 now.id, .int .i64 now.parent, .int .i64 now.seq, .int .i64 now.day, .int .i64 now.index, S now.op, .slice an now.files.length cn] 24)).heap.size = w.heap.size + 2 := by simp
  have hgb : ((w.alloc (.cells #[.int .i64 base.id, .int .i64 base.parent, .int .i64 base.seq, .int .i64 base.day, .int .i64 base.index, S base.op, .slice ab base.files.length cb] 24)).alloc (.cells #[.int .i64 now.id, .int .i64 now.parent, .int .i64 now.seq, .int .i64 now.day, .int .i64 now.index, S now.op, .slice an now.files.length cn] 24)).heap[w.heap.size]? = some (.cells #[.int .i64 base.id, .int .i64 base.parent, .int .i64 base.seq, .int .i64 base.day, .int .i64 base.index, S base.op, .slice ab base.files.length cb] 24) := (hb2.block w.heap.size (by rw [hs1]; omega)).trans (heap_alloc_new w _)
  have hgn : ((w.alloc (.cells #[.int .i64 base.id, .int .i64 base.parent, .int .i64 base.seq, .int .i64 base.day, .int .i64 base.index, S base.op, .slice ab base.files.length cb] 24)).alloc (.cells #[.int .i64 now.id, .int .i64 now.parent, .int .i64 now.seq, .int .i64 now.day, .int .i64 now.index, S now.op, .slice an now.files.length cn] 24)).heap[w.heap.size + 1]? = some (.cells #[.int .i64 now.id, .int .i64 now.parent, .int .i64 now.seq, .int .i64 now.day, .int .i64 now.index, S now.op, .slice an now.files.length cn] 24) := by rw [← hs1]; exact heap_alloc_new _ _
  have HGb := Lib.hid (fun W (h : Below ((w.alloc (.cells #[.int .i64 base.id, .int .i64 base.parent, .int .i64 base.seq, .int .i64 base.day, .int .i64 base.index, S base.op, .slice ab base.files.length cb] 24)).alloc (.cells #[.int .i64 now.id, .int .i64 now.parent, .int .i64 now.seq, .int .i64 now.day, .int .i64 now.index, S now.op, .slice an now.files.length cn] 24)).heap.size ((w.alloc (.cells #[.int .i64 base.id, .int .i64 base.parent, .int .i64 base.seq, .int .i64 base.day, .int .i64 base.index, S base.op, .slice ab base.files.length cb] 24)).alloc (.cells #[.int .i64 now.id, .int .i64 now.parent, .int .i64 now.seq, .int .i64 now.day, .int .i64 now.index, S now.op, .slice an now.files.length cn] 24)) W) => rowKept hgb h)
  have HGn := Lib.hid (fun W (h : Below ((w.alloc (.cells #[.int .i64 base.id, .int .i64 base.parent, .int .i64 base.seq, .int .i64 base.day, .int .i64 base.index, S base.op, .slice ab base.files.length cb] 24)).alloc (.cells #[.int .i64 now.id, .int .i64 now.parent, .int .i64 now.seq, .int .i64 now.day, .int .i64 now.index, S now.op, .slice an now.files.length cn] 24)).heap.size ((w.alloc (.cells #[.int .i64 base.id, .int .i64 base.parent, .int .i64 base.seq, .int .i64 base.day, .int .i64 base.index, S base.op, .slice ab base.files.length cb] 24)).alloc (.cells #[.int .i64 now.id, .int .i64 now.parent, .int .i64 now.seq, .int .i64 now.day, .int .i64 now.index, S now.op, .slice an now.files.length cn] 24)) W) => rowKept hgn h)
  have HXl := Lib.hid hxl
  have HSz := Lib.hid hs2
  clear hb1 hb2 hs1 hs2 hgb hgn hxl hlb hln hE hA hT hM
  go_enter Tryz.func4, Tryz.ntmps4
  go_upto_region 1 with fail
  generalize ((w.alloc (.cells #[.int .i64 base.id, .int .i64 base.parent, .int .i64 base.seq, .int .i64 base.day, .int .i64 base.index, S base.op, .slice ab base.files.length cb] 24)).alloc (.cells #[.int .i64 now.id, .int .i64 now.parent, .int .i64 now.seq, .int .i64 now.day, .int .i64 now.index, S now.op, .slice an now.files.length cn] 24)) = w0 at *
  have HCh := Lib.hid (changed_any E B w0 ((X.out _ hba).1.sub (by decide)) (X.out _ hba).2.2.1 (X.out _ hba).2.2.2)
  go_wp2_with fail
  refine HCh.out.mono ?_
  rintro e w1 ⟨rfl, hb1⟩
  have hbw1 := hba.trans (hb1.mono hba.size)
  clear HCh
  obtain ⟨b0, b1, b2, b3, b4, b5, b6⟩ := rowS7 (HGb.out _ hb1.drew)
  obtain ⟨n0, n1, n2, n3, n4, n5, n6⟩ := rowS7 (HGn.out _ hb1.drew)
  have HLb := Lib.hid (fun W (h : Below w.heap.size w W) => longSnapD_any base (.slice ab base.files.length cb) W (XF.out _ h).1)
  have HLn := Lib.hid (fun W (h : Below w.heap.size w W) => longSnapD_any now (.slice an now.files.length cn) W (XF.out _ h).2.1)
  have HLc := Lib.hid (fun W (h : Below w.heap.size w W) => longChangesD_any (.slice al l.length cl) l W (XF.out _ h).2.2)
  have hb01d : Below w0.heap.size w0 w1.drew := hb1.drew
  have hbw1d : Below w.heap.size w w1.drew := hbw1.drew
  have hb01d' := hb01d
  by_cases hbn : shortS base ∧ shortS now
  case neg =>
    obtain ⟨nb, nn, hnb, hnn, g1, g2⟩ : ∃ nb nn : Int, (if shortS base then (0 : Int) else 1) = nb ∧ (if shortS now then (0 : Int) else 1) = nn ∧ (0 : Int) < nb + nn ∧ IntKind.i64.wrap (nb + nn) = nb + nn := by
      refine ⟨_, _, rfl, rfl, ?_⟩
      by_cases h1 : shortS base
      · have h2 : ¬ shortS now := fun h => hbn ⟨h1, h⟩
        simp only [if_pos h1, if_neg h2]
        decide
      · rw [if_neg h1]
        split <;> decide
    have HLb' := HLb; have HLn' := HLn; have HLc' := HLc
    simp only [hnb] at HLb'
    simp only [hnn] at HLn'
    clear hnb hnn hbn
    go_wp2_with fail
    first
      | go_region_with (first
          | (go_at_call 12; (with_reducible refine (HLb'.out _ hbw1d).mono ?_); rintro e w2 ⟨rfl, hbx2⟩; have hb02 := hb01d.trans (hbx2.mono hb01d.size); have hbw2 := hbw1d.trans (hbx2.mono hbw1d.size); clear b0 b1 b2 b3 b4 b5 b6 n0 n1 n2 n3 n4 n5 n6 hbx2; obtain ⟨b0, b1, b2, b3, b4, b5, b6⟩ := rowS7 (HGb.out _ hb02); obtain ⟨n0, n1, n2, n3, n4, n5, n6⟩ := rowS7 (HGn.out _ hb02))
          | (go_at_call 12; (with_reducible refine (HLn'.out _ hbw2).mono ?_); rintro e w3 ⟨rfl, hbx3⟩; have hb03 := hb02.trans (hbx3.mono hb02.size); have hbw3 := hbw2.trans (hbx3.mono hbw2.size); clear b0 b1 b2 b3 b4 b5 b6 n0 n1 n2 n3 n4 n5 n6 hbx3; obtain ⟨b0, b1, b2, b3, b4, b5, b6⟩ := rowS7 (HGb.out _ hb03); obtain ⟨n0, n1, n2, n3, n4, n5, n6⟩ := rowS7 (HGn.out _ hb03))
          | (go_at_call 13; (with_reducible refine (HLc'.out _ hbw3).mono ?_); rintro e w4 ⟨rfl, hbx4⟩; have hb04 := hb03.trans (hbx4.mono hb03.size); have hbw4 := hbw3.trans (hbx4.mono hbw3.size); clear b0 b1 b2 b3 b4 b5 b6 n0 n1 n2 n3 n4 n5 n6 hbx4; obtain ⟨b0, b1, b2, b3, b4, b5, b6⟩ := rowS7 (HGb.out _ hb04); obtain ⟨n0, n1, n2, n3, n4, n5, n6⟩ := rowS7 (HGn.out _ hb04)))
      | fail
    all_goals
      go_wp2_with fail
      go_ret
      exact ⟨rfl, hbw3⟩
  obtain ⟨hsb, hsn⟩ := hbn
  rcases Decidable.em (shortChs l) with hsl | hsl
  case inr =>
    have HLb' := HLb; have HLn' := HLn; have HLc' := HLc
    simp only [if_pos hsb, if_pos hsn, decide_eq_false hsl, Bool.not_false] at HLb' HLn' HLc'
    go_wp2_with fail
    first
      | go_region_held3 (fun w' => w'.cell? ⟨w.heap.size, 0, none⟩ = some (.int .i64 base.id) ∧ w'.cell? ⟨w.heap.size, 1, none⟩ = some (.int .i64 base.parent) ∧ w'.cell? ⟨w.heap.size, 2, none⟩ = some (.int .i64 base.seq) ∧ w'.cell? ⟨w.heap.size, 3, none⟩ = some (.int .i64 base.day) ∧ w'.cell? ⟨w.heap.size, 4, none⟩ = some (.int .i64 base.index) ∧ w'.cell? ⟨w.heap.size, 5, none⟩ = some (S base.op) ∧ w'.cell? ⟨w.heap.size, 6, none⟩ = some (.slice ab base.files.length cb) ∧ w'.cell? ⟨w.heap.size + 1, 0, none⟩ = some (.int .i64 now.id) ∧ w'.cell? ⟨w.heap.size + 1, 1, none⟩ = some (.int .i64 now.parent) ∧ w'.cell? ⟨w.heap.size + 1, 2, none⟩ = some (.int .i64 now.seq) ∧ w'.cell? ⟨w.heap.size + 1, 3, none⟩ = some (.int .i64 now.day) ∧ w'.cell? ⟨w.heap.size + 1, 4, none⟩ = some (.int .i64 now.index) ∧ w'.cell? ⟨w.heap.size + 1, 5, none⟩ = some (S now.op) ∧ w'.cell? ⟨w.heap.size + 1, 6, none⟩ = some (.slice an now.files.length cn)) (exact ⟨b0, b1, b2, b3, b4, b5, b6, n0, n1, n2, n3, n4, n5, n6⟩) (first
          | (go_at_call 12; (with_reducible refine (HLb'.out _ hbw1d).mono ?_); rintro e w2 ⟨rfl, hbx2⟩; have hb02 := hb01d.trans (hbx2.mono hb01d.size); have hbw2 := hbw1d.trans (hbx2.mono hbw1d.size); clear b0 b1 b2 b3 b4 b5 b6 n0 n1 n2 n3 n4 n5 n6 hbx2; obtain ⟨b0, b1, b2, b3, b4, b5, b6⟩ := rowS7 (HGb.out _ hb02); obtain ⟨n0, n1, n2, n3, n4, n5, n6⟩ := rowS7 (HGn.out _ hb02))
          | (go_at_call 12; (with_reducible refine (HLn'.out _ hbw2).mono ?_); rintro e w3 ⟨rfl, hbx3⟩; have hb03 := hb02.trans (hbx3.mono hb02.size); have hbw3 := hbw2.trans (hbx3.mono hbw2.size); clear b0 b1 b2 b3 b4 b5 b6 n0 n1 n2 n3 n4 n5 n6 hbx3; obtain ⟨b0, b1, b2, b3, b4, b5, b6⟩ := rowS7 (HGb.out _ hb03); obtain ⟨n0, n1, n2, n3, n4, n5, n6⟩ := rowS7 (HGn.out _ hb03))
          | (go_at_call 13; (with_reducible refine (HLc'.out _ hbw3).mono ?_); rintro e w4 ⟨rfl, hbx4⟩; have hb04 := hb03.trans (hbx4.mono hb03.size); have hbw4 := hbw3.trans (hbx4.mono hbw3.size); clear b0 b1 b2 b3 b4 b5 b6 n0 n1 n2 n3 n4 n5 n6 hbx4; obtain ⟨b0, b1, b2, b3, b4, b5, b6⟩ := rowS7 (HGb.out _ hb04); obtain ⟨n0, n1, n2, n3, n4, n5, n6⟩ := rowS7 (HGn.out _ hb04)))
      | fail
    all_goals
      go_wp2_with fail
      go_ret
      exact ⟨rfl, hbw4⟩
  have HLb' := HLb; have HLn' := HLn; have HLc' := HLc
  simp only [if_pos hsb, if_pos hsn, decide_eq_true hsl, Bool.not_true] at HLb' HLn' HLc'
  go_wp2_with fail
  first
    | go_region_held3 (fun w' => w'.cell? ⟨w.heap.size, 0, none⟩ = some (.int .i64 base.id) ∧ w'.cell? ⟨w.heap.size, 1, none⟩ = some (.int .i64 base.parent) ∧ w'.cell? ⟨w.heap.size, 2, none⟩ = some (.int .i64 base.seq) ∧ w'.cell? ⟨w.heap.size, 3, none⟩ = some (.int .i64 base.day) ∧ w'.cell? ⟨w.heap.size, 4, none⟩ = some (.int .i64 base.index) ∧ w'.cell? ⟨w.heap.size, 5, none⟩ = some (S base.op) ∧ w'.cell? ⟨w.heap.size, 6, none⟩ = some (.slice ab base.files.length cb) ∧ w'.cell? ⟨w.heap.size + 1, 0, none⟩ = some (.int .i64 now.id) ∧ w'.cell? ⟨w.heap.size + 1, 1, none⟩ = some (.int .i64 now.parent) ∧ w'.cell? ⟨w.heap.size + 1, 2, none⟩ = some (.int .i64 now.seq) ∧ w'.cell? ⟨w.heap.size + 1, 3, none⟩ = some (.int .i64 now.day) ∧ w'.cell? ⟨w.heap.size + 1, 4, none⟩ = some (.int .i64 now.index) ∧ w'.cell? ⟨w.heap.size + 1, 5, none⟩ = some (S now.op) ∧ w'.cell? ⟨w.heap.size + 1, 6, none⟩ = some (.slice an now.files.length cn)) (exact ⟨b0, b1, b2, b3, b4, b5, b6, n0, n1, n2, n3, n4, n5, n6⟩) (first
        | (go_at_call 12; (with_reducible refine (HLb'.out _ hbw1d).mono ?_); rintro e w2 ⟨rfl, hbx2⟩; have hb02 := hb01d.trans (hbx2.mono hb01d.size); have hbw2 := hbw1d.trans (hbx2.mono hbw1d.size); clear b0 b1 b2 b3 b4 b5 b6 n0 n1 n2 n3 n4 n5 n6 hbx2; obtain ⟨b0, b1, b2, b3, b4, b5, b6⟩ := rowS7 (HGb.out _ hb02); obtain ⟨n0, n1, n2, n3, n4, n5, n6⟩ := rowS7 (HGn.out _ hb02))
        | (go_at_call 12; (with_reducible refine (HLn'.out _ hbw2).mono ?_); rintro e w3 ⟨rfl, hbx3⟩; have hb03 := hb02.trans (hbx3.mono hb02.size); have hbw3 := hbw2.trans (hbx3.mono hbw2.size); clear b0 b1 b2 b3 b4 b5 b6 n0 n1 n2 n3 n4 n5 n6 hbx3; obtain ⟨b0, b1, b2, b3, b4, b5, b6⟩ := rowS7 (HGb.out _ hb03); obtain ⟨n0, n1, n2, n3, n4, n5, n6⟩ := rowS7 (HGn.out _ hb03))
        | (go_at_call 13; (with_reducible refine (HLc'.out _ hbw3).mono ?_); rintro e w4 ⟨rfl, hbx4⟩; have hb04 := hb03.trans (hbx4.mono hb03.size); have hbw4 := hbw3.trans (hbx4.mono hbw3.size); clear b0 b1 b2 b3 b4 b5 b6 n0 n1 n2 n3 n4 n5 n6 hbx4; obtain ⟨b0, b1, b2, b3, b4, b5, b6⟩ := rowS7 (HGb.out _ hb04); obtain ⟨n0, n1, n2, n3, n4, n5, n6⟩ := rowS7 (HGn.out _ hb04)))
    | fail
  all_goals
    have HSb := Lib.hid (show ∀ x ∈ base.files, midF x from hsb.2.mid)
    have HSn := Lib.hid (show ∀ x ∈ now.files, midF x from hsn.2.mid)
    have HNb := Lib.hid (show base.files.length ≤ 100000 by have := hsb.2.len; omega)
    have HNn := Lib.hid (show now.files.length ≤ 100000 by have := hsn.2.len; omega)
    have HSl := Lib.hid hsl
    clear hsb hsn hsl HLb HLn HLc HLb' HLn' HLc' hb01d hb01d' hbw1d hb02 hb03 hbw2 hbw3 hbw1 hb1
    go_wp2_with fail
    refine (ownSnap_any base _ w4 (XF.out _ hbw4).1 HNb.out).mono ?_
    rintro e w5 ⟨u5, rfl, hu5, hb5⟩
    have hb05 := hb04.trans (hb5.mono hb04.size)
    have hbw5 := hbw4.trans (hb5.mono hbw4.size)
    have HBg := Lib.hid (txBegin_any E B base u5 w5 ((X.out _ hbw5).1.sub (by decide)) (X.out _ hbw5).2.2.1 (X.out _ hbw5).2.2.2 hu5 HSb.out HNb.out)
    obtain ⟨a5, c5, rfl, -, -⟩ := At.form' hu5
    clear b0 b1 b2 b3 b4 b5 b6 n0 n1 n2 n3 n4 n5 n6 hu5 hb04 hbw4 hb5
    go_wp2_with fail
    refine HBg.out.mono ?_
    rintro e w6 ⟨hb6, hpost⟩
    have hb06 := hb05.trans (hb6.mono hb05.size)
    have hbw6 := hbw5.trans (hb6.mono hbw5.size)
    have HFl := Lib.hid (snapFault_any base (.slice ab base.files.length cb) w6 (XF.out _ hbw6).1 HSb.out)
    obtain ⟨b0, b1, b2, b3, b4, b5, b6⟩ := rowS7 (HGb.out _ hb06)
    clear HBg
    rcases hpost with ⟨hbad, ev, rfl, hev⟩ | ⟨hck, tb, vf, D, K, rfl, hat, hlow⟩
    · obtain ⟨t1, x1, rfl⟩ := hev.iface hbad
      have hcp : (0 : Int) < ((snapCheck base).code : Int) := by have := snapCheck_code' hbad; omega
      have HEv := Lib.hid hev
      clear hev hbad
      go_wp2_with fail
      refine HFl.out.mono ?_
      rintro e w7 ⟨rfl, hb7⟩
      rw [show faultOf (snapCheck base) = .agg #[.int .i64 ((snapCheck base).code : Int), .int .i64 (snapCheck base).place] from rfl]
      have hbw7 := hbw6.trans (hb7.mono hbw6.size)
      have hb78 : Below w7.heap.size w7 (w7.alloc (.cells #[.int .i64 ((snapCheck base).code : Int), .int .i64 (snapCheck base).place] 49)) := (Below.refl _ _).alloc (Nat.le_refl _) _
      have hbw8 := hbw7.trans (hb78.mono hbw7.size)
      have HFd := Lib.hid (faultedAt3_any E B (snapCheck base) (.iface t1 x1) (w7.alloc (.cells #[.int .i64 ((snapCheck base).code : Int), .int .i64 (snapCheck base).place] 49)) (X.out _ hbw8).1 (X.out _ hbw8).2.1 hgB ((HEv.out.below hb7).below hb78))
      clear b0 b1 b2 b3 b4 b5 b6 hb7 hb78
      generalize ((snapCheck base).code : Int) = c9 at *
      generalize (snapCheck base).place = p9 at *
      go_wp2_with fail
      refine HFd.out.mono ?_
      rintro e w9 ⟨rfl, hb9⟩
      go_wp2_with fail
      go_ret
      exact ⟨rfl, hbw8.trans (hb9.mono hbw8.size)⟩
    have HAt := Lib.hid hat
    have HLow := Lib.hid hlow
    have HRb := Lib.hid ((snap_iff _).1 hck)
    rw [hck] at HFl
    clear hat hlow hck
    go_wp2_with fail
    refine HFl.out.mono ?_
    rintro e w7 ⟨rfl, hb7⟩
    rw [show faultOf .nil = .agg #[.int .i64 0, .int .i64 (-1)] from rfl]
    have hb07 := hb06.trans (hb7.mono hb06.size)
    have hbw7 := hbw6.trans (hb7.mono hbw6.size)
    have hb08 := hb07.alloc hb07.size (.cells #[.int .i64 0, .int .i64 (-1)] 49)
    have hbw8 := hbw7.alloc hbw7.size (.cells #[.int .i64 0, .int .i64 (-1)] 49)
    have hb78 : Below w7.heap.size w7 (w7.alloc (.cells #[.int .i64 0, .int .i64 (-1)] 49)) := (Below.refl _ _).alloc (Nat.le_refl _) _
    have HA8 := Lib.hid ((HAt.out.below hb7).below hb78)
    clear b0 b1 b2 b3 b4 b5 b6
    obtain ⟨b0, b1, b2, b3, b4, b5, b6⟩ := rowS7 (HGb.out _ hb08)
    go_upto_region 10 with fail
    have hpn : Pair 115 54 w5.heap.size w.heap.size w0.heap.size K (fun k => k < w.heap.size) tb (w7.alloc (.cells #[.int .i64 0, .int .i64 (-1)] 49)).heap.size vf (.slice ab base.files.length cb) ((w7.alloc (.cells #[.int .i64 0, .int .i64 (-1)] 49)).alloc (.cells #[.int .i64 base.id, .int .i64 base.parent, .int .i64 base.seq, .int .i64 base.day, .int .i64 base.index, S base.op, .slice ab base.files.length cb, .slice none 0 0, .slice none 0 0] 54)) (beginT base) (beginT base) := pair_new (y2 := 54) HA8.out HLow.out hbw5.size hb05.size hb08.size hbw8 (XF.out w (Below.refl _ _)).1
    generalize w7.alloc (.cells #[.int .i64 0, .int .i64 (-1)] 49) = w8 at *
    have hb09 := hb08.alloc hb08.size (.cells #[.int .i64 base.id, .int .i64 base.parent, .int .i64 base.seq, .int .i64 base.day, .int .i64 base.index, S base.op, .slice ab base.files.length cb, .slice none 0 0, .slice none 0 0] 54)
    have hbw9 := hbw8.alloc hbw8.size (.cells #[.int .i64 base.id, .int .i64 base.parent, .int .i64 base.seq, .int .i64 base.day, .int .i64 base.index, S base.op, .slice ab base.files.length cb, .slice none 0 0, .slice none 0 0] 54)
    have HP := Lib.hid hpn
    clear hpn hb78 HA8 HLow HAt hb07 hbw7 hb06 hbw6 hb6 hb7
    go_upto_region 11 with fail
    clear b0 b1 b2 b3 b4 b5 b6
    generalize w8.alloc (.cells #[.int .i64 base.id, .int .i64 base.parent, .int .i64 base.seq, .int .i64 base.day, .int .i64 base.index, S base.op, .slice ab base.files.length cb, .slice none 0 0, .slice none 0 0] 54) = w9 at *
    have HPz : Hid (Pair 115 54 w5.heap.size w.heap.size w0.heap.size K (fun k => k < w.heap.size) tb w8.heap.size vf (.slice ab base.files.length cb) w9 (appCh (beginT base) (l.take 0)) (appCh (beginT base) (l.take 0))) := Lib.hid (by rw [List.take_zero]; exact HP.out)
    clear HP
    go_wp2_with fail
    go_loopw [18] (fun i wr => ∃ k : Nat, k ≤ l.length ∧ i = .int .i64 k ∧ Hid (Pair 115 54 w5.heap.size w.heap.size w0.heap.size K (fun k => k < w.heap.size) tb w8.heap.size vf (.slice ab base.files.length cb) wr (appCh (beginT base) (l.take k)) (appCh (beginT base) (l.take k))) ∧ Below w0.heap.size w0 wr) (fun i _ => l.length - (intOf i).toNat)
    case atStart => exact ⟨0, by omega, rfl, HPz, hb09⟩
    case round =>
      obtain ⟨k, hk, rfl, hp, hb⟩ := hrel
      obtain ⟨wo, rfl⟩ : ∃ wo, wo = wr := ⟨wr, rfl⟩
      have hbwo := hba.trans (hb.mono hba.size)
      by_cases hlt : k < l.length
      case neg =>
        obtain rfl : k = l.length := by omega
        have f : decide ((l.length : Int) < (l.length : Int)) = false := by simp
        have HFit := Lib.hid (Fit.upto HRb.out HSl.out.2 l.length)
        have HLn : Hid (l.length ≤ 30) := Lib.hid HSl.out.1
        obtain ⟨t, ht⟩ : ∃ t, appCh (beginT base) (l.take l.length) = t := ⟨_, rfl⟩
        rw [ht] at hp HFit
        clear ht hlt hk
        go_wp2_with fail
        clear f
        go_loopw [19] (fun i wr => ∃ j : Nat, j ≤ 2 ∧ i = .int .i64 j ∧ Hid (Pair 115 54 w5.heap.size w.heap.size w0.heap.size K (fun k => k < w.heap.size) tb w8.heap.size vf (.slice ab base.files.length cb) wr t t) ∧ Below w0.heap.size w0 wr) (fun i _ => 2 - (intOf i).toNat)
        case atStart => exact ⟨0, by omega, rfl, hp, hb⟩
        case round =>
          obtain ⟨j, hj, rfl, hp2, hb2⟩ := hrel
          obtain ⟨wp, rfl⟩ : ∃ wp, wp = wr := ⟨wr, rfl⟩
          have hbwp := hba.trans (hb2.mono hba.size)
          clear hp hb hbwo
          by_cases hlt2 : j < 2
          case neg =>
            obtain rfl : j = 2 := by omega
            go_wp2_with fail
            go_ret
            exact ⟨rfl, hbwp⟩
          have gj : (j : Int) < 2 := by omega
          obtain ⟨n0, n1, n2, n3, n4, n5, n6⟩ := rowS7 (HGn.out _ hb2)
          go_wp2_with fail
          refine (ownSnap_any now _ wp (XF.out _ hbwp).2.1 HNn.out).mono ?_
          rintro e v1 ⟨u1, rfl, hu1, hv1⟩
          have hb01 := hb2.trans (hv1.mono hb2.size)
          have hbv1 := hbwp.trans (hv1.mono hbwp.size)
          obtain ⟨D1, D2, va, vr, va2, vr2, p1, p2, p3, p4, p5⟩ := hp2.out
          have HCm := Lib.hid (txCommit_any E B w5.heap.size D1 K tb t vf va vr now u1 id day index v1 ((X.out _ hbv1).1.sub (by decide)) (X.out _ hbv1).2.2.1 (X.out _ hbv1).2.2.2 (p1.below hv1) HFit.out.ok hu1 HSn.out (by have := HFit.out.na; have := HLn.out; omega) (by have := HFit.out.nr; have := HLn.out; omega) HFit.out.mid)
          have HRc := Lib.hid (fun W (h : Below wp.heap.size wp W) (h2 : Below w.heap.size w W) => refTxCommit_any w.heap.size D2 (fun k => k < w.heap.size) w8.heap.size t (.slice ab base.files.length cb) va2 vr2 now (.slice an now.files.length cn) id day index W (p2.below h) (XF.out _ h2).2.1 HSn.out (by have := HFit.out.na; have := HLn.out; omega) (by have := HFit.out.nr; have := HLn.out; omega) HFit.out.mid)
          obtain ⟨er, her⟩ : ∃ er, commitE t now id day index = er := ⟨_, rfl⟩
          obtain ⟨xs, hxs⟩ : ∃ xs, commitS t now id day index = xs := ⟨_, rfl⟩
          rw [her, hxs] at HCm HRc
          obtain ⟨a1, c1, rfl, -, -⟩ := At.form' hu1
          clear her hxs p1 p2 p3 p4 p5 hu1 n0 n1 n2 n3 n4 n5 n6
          go_wp2_with fail
          refine HCm.out.mono ?_
          rintro e v2 ⟨u2, ev, rfl, hu2, hev, hv2⟩
          have hb02 := hb01.trans (hv2.mono hb01.size)
          have hbv2 := hbv1.trans (hv2.mono hbv1.size)
          have hv02 := hv1.trans (hv2.mono hv1.size)
          obtain ⟨a2, c2, rfl, -, -⟩ := At.form' hu2
          have hv23 : Below v2.heap.size v2 (v2.alloc (.cells #[.int .i64 xs.id, .int .i64 xs.parent, .int .i64 xs.seq, .int .i64 xs.day, .int .i64 xs.index, S xs.op, .slice a2 xs.files.length c2] 24)) := (Below.refl _ _).alloc (Nat.le_refl _) _
          have hgx := heap_alloc_new v2 (.cells #[.int .i64 xs.id, .int .i64 xs.parent, .int .i64 xs.seq, .int .i64 xs.day, .int .i64 xs.index, S xs.op, .slice a2 xs.files.length c2] 24)
          have HU2 := Lib.hid (hu2.below hv23)
          have HEv := Lib.hid (hev.below hv23)
          have hb03 := hb02.trans (hv23.mono hb02.size)
          have hbv3 := hbv2.trans (hv23.mono hbv2.size)
          have hv03 := hv02.trans (hv23.mono hv02.size)
          have HSz2 := Lib.hid (show v2.heap.size < (v2.alloc (.cells #[.int .i64 xs.id, .int .i64 xs.parent, .int .i64 xs.seq, .int .i64 xs.day, .int .i64 xs.index, S xs.op, .slice a2 xs.files.length c2] 24)).heap.size by simp)
          clear hu2 hev HCm hv1 hv2 hv23 hb01 hb02 hbv1 hbv2 hv02
          go_upto_region 23 with fail
          generalize v2.alloc (.cells #[.int .i64 xs.id, .int .i64 xs.parent, .int .i64 xs.seq, .int .i64 xs.day, .int .i64 xs.index, S xs.op, .slice a2 xs.files.length c2] 24) = v3 at *
          obtain ⟨X1, hX1⟩ : ∃ X1, v2.heap.size = X1 := ⟨_, rfl⟩
          rw [hX1] at hgx HSz2 ⊢
          have HGx := Lib.hid hgx
          clear hgx hX1
          obtain ⟨n0, n1, n2, n3, n4, n5, n6⟩ := rowS7 (HGn.out _ hb03)
          go_wp2_with fail
          refine (HRc.out _ hv03 hbv3).mono ?_
          rintro e v4 ⟨u4, rfl, hu4, hv34⟩
          obtain ⟨a4, c4, rfl, -, -⟩ := At.form' hu4
          rw [show faultOf er = .agg #[.int .i64 (er.code : Int), .int .i64 er.place] from rfl]
          go_upto_region 24 with fail
          have h45 : Below v4.heap.size v4 (v4.alloc (.cells #[.int .i64 xs.id, .int .i64 xs.parent, .int .i64 xs.seq, .int .i64 xs.day, .int .i64 xs.index, S xs.op, .slice a4 xs.files.length c4] 24)) := (Below.refl _ _).alloc (Nat.le_refl _) _
          have h56 : Below (v4.alloc (.cells #[.int .i64 xs.id, .int .i64 xs.parent, .int .i64 xs.seq, .int .i64 xs.day, .int .i64 xs.index, S xs.op, .slice a4 xs.files.length c4] 24)).heap.size (v4.alloc (.cells #[.int .i64 xs.id, .int .i64 xs.parent, .int .i64 xs.seq, .int .i64 xs.day, .int .i64 xs.index, S xs.op, .slice a4 xs.files.length c4] 24)) ((v4.alloc (.cells #[.int .i64 xs.id, .int .i64 xs.parent, .int .i64 xs.seq, .int .i64 xs.day, .int .i64 xs.index, S xs.op, .slice a4 xs.files.length c4] 24)).alloc (.cells #[.int .i64 (er.code : Int), .int .i64 er.place] 49)) := (Below.refl _ _).alloc (Nat.le_refl _) _
          have h46 := h45.trans (h56.mono h45.size)
          have hsz : (v4.alloc (.cells #[.int .i64 xs.id, .int .i64 xs.parent, .int .i64 xs.seq, .int .i64 xs.day, .int .i64 xs.index, S xs.op, .slice a4 xs.files.length c4] 24)).heap.size = v4.heap.size + 1 := by simp
          have hgz := heap_alloc_new (v4.alloc (.cells #[.int .i64 xs.id, .int .i64 xs.parent, .int .i64 xs.seq, .int .i64 xs.day, .int .i64 xs.index, S xs.op, .slice a4 xs.files.length c4] 24)) (.cells #[.int .i64 (er.code : Int), .int .i64 er.place] 49)
          have hgy := rowKept (heap_alloc_new v4 (.cells #[.int .i64 xs.id, .int .i64 xs.parent, .int .i64 xs.seq, .int .i64 xs.day, .int .i64 xs.index, S xs.op, .slice a4 xs.files.length c4] 24)) h56
          rw [hsz] at hgz
          have h36 := hv34.trans (h46.mono hv34.size)
          have hb06 := hb03.trans (h36.mono hb03.size)
          have hbv6 := hbv3.trans (h36.mono hbv3.size)
          have hv06 := hv03.trans (h36.mono hv03.size)
          have HSm := Lib.hid (sameSnap_any xs xs _ _ _ (HU2.out.below h36) (hu4.below h46))
          rw [decide_eq_true rfl] at HSm
          have HEv6 := Lib.hid (HEv.out.below h36)
          have hgx6 := rowKept HGx.out h36
          clear h45 h56 hsz hu4 HU2 HEv HGx HRc
          generalize (v4.alloc (.cells #[.int .i64 xs.id, .int .i64 xs.parent, .int .i64 xs.seq, .int .i64 xs.day, .int .i64 xs.index, S xs.op, .slice a4 xs.files.length c4] 24)).alloc (.cells #[.int .i64 (er.code : Int), .int .i64 er.place] 49) = v6 at *
          obtain ⟨x0, x1, x2, x3, x4, x5, x6⟩ := rowS7 (s := xs) hgx6
          obtain ⟨y0, y1, y2, y3, y4, y5, y6⟩ := rowS7 (s := xs) hgy
          have HGz := Lib.hid hgz
          clear hgz hgx6 hgy n0 n1 n2 n3 n4 n5 n6
          go_wp2_with fail
          refine HSm.out.mono ?_
          rintro e v7 ⟨rfl, hv67⟩
          have hbv7 := hbv6.trans (hv67.mono hbv6.size)
          have hb07 := hb06.trans (hv67.mono hb06.size)
          have hv07 := hv06.trans (hv67.mono hv06.size)
          obtain ⟨f0, f1, -⟩ := rowF2 (rowKept HGz.out hv67)
          have HFd := Lib.hid (faultedAt3_any E B er ev v7 (X.out _ hbv7).1 (X.out _ hbv7).2.1 hgB (HEv6.out.below hv67))
          clear x0 x1 x2 x3 x4 x5 x6 y0 y1 y2 y3 y4 y5 y6 HSm
          go_wp2_with fail
          refine HFd.out.mono ?_
          rintro e v8 ⟨rfl, hv78⟩
          have HP8 := Lib.hid (hp2.out.below (hv07.trans (hv78.mono hv07.size)))
          have hb08 := hb07.trans (hv78.mono hb07.size)
          clear f0 f1 hp2 HFd
          go_wp2_with fail
          go_roundw
          case rel => exact ⟨j + 1, by omega, by go_num, HP8, hb08⟩
          case measure => simp [intOf]; omega
      have hk1 : (k : Int) < (l.length : Int) := by omega
      obtain ⟨x, hxk⟩ := get_ex hlt
      have i1 := idx_at (c := cl) 8 Tryz.underlying25 szCh hal k hlt
      have hbwd : Below w.heap.size w wo.drew := hbwo.drew
      have hb0d : Below w0.heap.size w0 wo.drew := hb.drew
      have hd : Below wo.heap.size wo wo.drew := (Below.refl _ _).drew
      obtain ⟨c0, -, -, -, -, -, -, -⟩ := chCells HXl.out hbwo hxk
      obtain ⟨-, c1, c2, c3, c4, c5, c6, c7⟩ := chCells HXl.out hbwd hxk
      have HSx := Lib.hid (HSl.out.2 x (List.mem_of_getElem? hxk))
      have HFit := Lib.hid (Fit.upto HRb.out HSl.out.2 k)
      have HSn' := Lib.hid (appCh_snoc (t := beginT base) hxk)
      obtain ⟨t, ht⟩ : ∃ t, appCh (beginT base) (l.take k) = t := ⟨_, rfl⟩
      rw [ht] at hp HFit HSn'
      obtain ⟨D1, D2, va, vr, va2, vr2, p1, p2, p3, p4, p5⟩ := hp.out
      have P1 := Lib.hid (p1.below hd); have P2 := Lib.hid (p2.below hd); have P3 := Lib.hid p3; have P4 := Lib.hid p4; have P5 := Lib.hid p5
      have HXk := Lib.hid hxk
      have HLn : Hid (k ≤ 30) := Lib.hid (by have := HSl.out.1; omega)
      clear p1 p2 p3 p4 p5 ht hp hxk
      cases hxa : x.add with
      | true =>
        rw [hxa] at c0
        have HSk : Hid (appCh (beginT base) (l.take (k + 1)) = addT t x.file) := Lib.hid (by rw [HSn'.out]; unfold applyCh; rw [if_pos hxa])
        have HAd := Lib.hid (txAdd_any E B w5.heap.size D1 K tb t vf va vr x.file wo.drew ((X.out _ hbwd).1.sub (by decide)) (X.out _ hbwd).2.2.1 (X.out _ hbwd).2.2.2 P1.out HSx.out.2.mid (by have := HFit.out.na; have := HLn.out; omega))
        have HRa := Lib.hid (fun W D va vr (h : TxAt 54 w.heap.size W D (fun k => k < w.heap.size) w8.heap.size t (.slice ab base.files.length cb) va vr) => refTxAdd_any w.heap.size D (fun k => k < w.heap.size) w8.heap.size t (.slice ab base.files.length cb) va vr x.file W h HSx.out.2.mid (by have := HFit.out.na; have := HLn.out; omega))
        clear hxa HSn'
        obtain ⟨te, hte⟩ : ∃ te, addTE t x.file = te := ⟨_, rfl⟩
        rw [hte] at HAd
        have HTe := Lib.hid hte
        clear hte
        go_wp2_with fail
        go_region_held3 (fun w' => w'.cell? ⟨bl, ol + k * 8 + 1, none⟩ = some (S x.file.path) ∧ w'.cell? ⟨bl, ol + k * 8 + 2, none⟩ = some (S x.file.part) ∧ w'.cell? ⟨bl, ol + k * 8 + 3, none⟩ = some (.int .i64 x.file.n) ∧ w'.cell? ⟨bl, ol + k * 8 + 4, none⟩ = some (.int .i64 x.file.lo) ∧ w'.cell? ⟨bl, ol + k * 8 + 5, none⟩ = some (.int .i64 x.file.hi) ∧ w'.cell? ⟨bl, ol + k * 8 + 6, none⟩ = some (.int .i64 x.file.seq)) (exact ⟨c1, c2, c3, c4, c5, c6⟩) (first
              | (go_at_call 16; (with_reducible refine HAd.out.mono ?_); rintro e v2 ⟨ev, va', D', rfl, hev, hat, hs, hbd⟩; obtain ⟨hpp, hbv2⟩ := pair_fst P2.out P3.out P4.out P5.out hb0d.size hat hs hbd; obtain ⟨E1, E2, ua, ur, ua2, ur2, q1, q2, q3, q4, q5⟩ := hpp; have HEv := Lib.hid hev; have Q1 := Lib.hid q1; have Q2 := Lib.hid q2; have Q3 := Lib.hid q3; have Q4 := Lib.hid q4; have Q5 := Lib.hid q5; have hb02' := hb0d.trans hbv2; have hbw2' := hba.trans (hb02'.mono hba.size); clear hat hs hbd q1 q2 q3 q4 q5 hev c1 c2 c3 c4 c5 c6 c7; obtain ⟨-, c1, c2, c3, c4, c5, c6, c7⟩ := chCells HXl.out hbw2' HXk.out)
              | (go_at_call 25; (with_reducible refine (HRa.out _ _ _ _ Q2.out).mono ?_); rintro e v3 ⟨va3, D3, rfl, hat, hs, hbd⟩; obtain ⟨hpp, hbv3⟩ := pair_snd Q1.out Q3.out Q4.out Q5.out hb02'.size hat hs hbd; have HPp := Lib.hid hpp; have HEv3 := Lib.hid (erOf_keep (w' := v3) HEv.out); have hb03' := hb02'.trans hbv3; have hbw3' := hba.trans (hb03'.mono hba.size); clear hat hs hbd hpp c1 c2 c3 c4 c5 c6 c7; obtain ⟨-, c1, c2, c3, c4, c5, c6, c7⟩ := chCells HXl.out hbw3' HXk.out)
              | (go_at_call 24; rw [HTe.out]; (with_reducible refine (codedT3_any E B te ev _ (X.out _ hbw3').1 (X.out _ hbw3').2.1 HEv3.out).mono ?_); rintro e v4 ⟨rfl, hbv4⟩; have hb04' := hb03'.trans (hbv4.mono hb03'.size); have hbw4' := hba.trans (hb04'.mono hba.size); have HP4 := Lib.hid (HPp.out.below hbv4); clear c1 c2 c3 c4 c5 c6 c7; obtain ⟨-, c1, c2, c3, c4, c5, c6, c7⟩ := chCells HXl.out hbw4' HXk.out))
        all_goals
          go_wp2_with fail
          go_roundw
          case rel => exact ⟨k + 1, by omega, by go_num, Lib.hid (by rw [HSk.out]; exact HP4.out), hb04'⟩
          case measure => simp [intOf]; omega
      | false =>
        rw [hxa] at c0
        have HSk : Hid (appCh (beginT base) (l.take (k + 1)) = remT t x.path) := Lib.hid (by rw [HSn'.out]; unfold applyCh; rw [if_neg (by rw [hxa]; decide)])
        have HAd := Lib.hid (txRemove_any E B w5.heap.size D1 K tb t vf va vr x.path wo.drew ((X.out _ hbwd).1.sub (by decide)) P1.out (by have := HFit.out.nr; have := HLn.out; omega))
        have HRa := Lib.hid (fun W D va vr (h : TxAt 54 w.heap.size W D (fun k => k < w.heap.size) w8.heap.size t (.slice ab base.files.length cb) va vr) => refTxRemove_any w.heap.size D (fun k => k < w.heap.size) w8.heap.size t (.slice ab base.files.length cb) va vr x.path W h (by have := HFit.out.nr; have := HLn.out; omega))
        clear hxa HSn'
        obtain ⟨te, hte⟩ : ∃ te, remTE t x.path = te := ⟨_, rfl⟩
        rw [hte] at HAd
        have HTe := Lib.hid hte
        clear hte
        go_wp2_with fail
        go_region_held3 (fun w' => w'.cell? ⟨bl, ol + k * 8 + 7, none⟩ = some (S x.path)) (exact c7) (first
              | (go_at_call 17; (with_reducible refine HAd.out.mono ?_); rintro e v2 ⟨ev, va', D', rfl, hev, hat, hs, hbd⟩; obtain ⟨hpp, hbv2⟩ := pair_fst P2.out P3.out P4.out P5.out hb0d.size hat hs hbd; obtain ⟨E1, E2, ua, ur, ua2, ur2, q1, q2, q3, q4, q5⟩ := hpp; have HEv := Lib.hid hev; have Q1 := Lib.hid q1; have Q2 := Lib.hid q2; have Q3 := Lib.hid q3; have Q4 := Lib.hid q4; have Q5 := Lib.hid q5; have hb02' := hb0d.trans hbv2; have hbw2' := hba.trans (hb02'.mono hba.size); clear hat hs hbd q1 q2 q3 q4 q5 hev c1 c2 c3 c4 c5 c6 c7; obtain ⟨-, c1, c2, c3, c4, c5, c6, c7⟩ := chCells HXl.out hbw2' HXk.out)
              | (go_at_call 26; (with_reducible refine (HRa.out _ _ _ _ Q2.out).mono ?_); rintro e v3 ⟨va3, D3, rfl, hat, hs, hbd⟩; obtain ⟨hpp, hbv3⟩ := pair_snd Q1.out Q3.out Q4.out Q5.out hb02'.size hat hs hbd; have HPp := Lib.hid hpp; have HEv3 := Lib.hid (erOf_keep (w' := v3) HEv.out); have hb03' := hb02'.trans hbv3; have hbw3' := hba.trans (hb03'.mono hba.size); clear hat hs hbd hpp c1 c2 c3 c4 c5 c6 c7; obtain ⟨-, c1, c2, c3, c4, c5, c6, c7⟩ := chCells HXl.out hbw3' HXk.out)
              | (go_at_call 24; rw [HTe.out]; (with_reducible refine (codedT3_any E B te ev _ (X.out _ hbw3').1 (X.out _ hbw3').2.1 HEv3.out).mono ?_); rintro e v4 ⟨rfl, hbv4⟩; have hb04' := hb03'.trans (hbv4.mono hb03'.size); have hbw4' := hba.trans (hb04'.mono hba.size); have HP4 := Lib.hid (HPp.out.below hbv4); clear c1 c2 c3 c4 c5 c6 c7; obtain ⟨-, c1, c2, c3, c4, c5, c6, c7⟩ := chCells HXl.out hbw4' HXk.out))
        all_goals
          go_wp2_with fail
          go_roundw
          case rel => exact ⟨k + 1, by omega, by go_num, Lib.hid (by rw [HSk.out]; exact HP4.out), hb04'⟩
          case measure => simp [intOf]; omega
end Go.Proofs.YtmhchakjkgdpmaaGreatDoor
namespace Go.Proofs.YtmhchakjkgdpmaaGreatDoor
open Go.RowKit Go.ChangeShapes Go.WideShapes

def errName : Nat → String
  | 1 => "deedbox/api.ErrText" | 2 => "deedbox/api.ErrBound" | 3 => "deedbox/api.ErrShape" | 4 => "deedbox/api.ErrKind" | 5 => "deedbox/api.ErrName" | 6 => "deedbox/api.ErrNone"
  | 7 => "deedbox/api.ErrExist" | 8 => "deedbox/api.ErrFull" | 9 => "deedbox/api.ErrOrder" | 10 => "deedbox/api.ErrSum" | 11 => "deedbox/api.ErrStale" | _ => "deedbox/api.ErrOff"
theorem errName_inj : ∀ c ∈ allE, ∀ d ∈ allE, errName c = errName d → c = d := by decide

theorem laidVars_get {P : Program} {w : World} : ∀ {L : List (String × DataW Unit)} {ps : List MemPlace} {i : Nat} {n : String} {d : DataW Unit}, DataW.LaidVars P w L ps → L[i]? = some (n, d) →
    ∃ g t cs fuel p, P.globalNamed n = some g ∧ (P.globals[g]?).map (·.type) = some t ∧ w.var? P n = some cs ∧ DataW.trod (fun _ => ()) P w 0 (fun _ => true) false fuel t cs.toList = some (d, p) ∧ ∀ x ∈ MemPlace.row ⟨g, 0, none⟩ cs.size ++ p, x ∈ ps
  | [], _, i, n, d, _, hi => by simp at hi
  | (n0, d0) :: r, ps, 0, n, d, h, hi => by
    obtain ⟨g, t, cs, fuel, p, q, h1, h2, h3, h4, _, rfl⟩ := h
    simp only [List.getElem?_cons_zero, Option.some.injEq, Prod.mk.injEq] at hi
    obtain ⟨rfl, rfl⟩ := hi
    exact ⟨g, t, cs, fuel, p, h1, h2, h3, h4, fun x hx => List.mem_append_left _ hx⟩
  | (n0, d0) :: r, ps, i + 1, n, d, h, hi => by
    obtain ⟨g, t, cs, fuel, p, q, _, _, _, _, h5, rfl⟩ := h
    obtain ⟨g', t', cs', fuel', p', h1, h2, h3, h4, h6⟩ := laidVars_get h5 (by simpa using hi)
    exact ⟨g', t', cs', fuel', p', h1, h2, h3, h4, fun x hx => List.mem_append_right _ (h6 x hx)⟩

theorem laidVars_apart {P : Program} {w : World} : ∀ {L : List (String × DataW Unit)} {ps : List MemPlace} {i j : Nat} {n m : String} {d e : DataW Unit}, DataW.LaidVars P w L ps → ps.Nodup → i < j → L[i]? = some (n, d) → L[j]? = some (m, e) →
    ∃ (g : Nat) (t : TypeId) (cs : Array Value) (fuel : Nat) (p : List MemPlace) (g' : Nat) (t' : TypeId) (cs' : Array Value) (fuel' : Nat) (p' : List MemPlace), P.globalNamed n = some g ∧ (P.globals[g]?).map (·.type) = some t ∧ w.var? P n = some cs ∧ DataW.trod (fun _ => ()) P w 0 (fun _ => true) false fuel t cs.toList = some (d, p) ∧
      P.globalNamed m = some g' ∧ (P.globals[g']?).map (·.type) = some t' ∧ w.var? P m = some cs' ∧ DataW.trod (fun _ => ()) P w 0 (fun _ => true) false fuel' t' cs'.toList = some (e, p') ∧ ∀ x ∈ p, x ∉ p'
  | [], _, i, j, n, m, d, e, _, _, _, hi, _ => by simp at hi
  | (n0, d0) :: r, ps, 0, j + 1, n, m, d, e, h, hnd, _, hi, hj => by
    obtain ⟨g, t, cs, fuel, p, q, h1, h2, h3, h4, h5, rfl⟩ := h
    simp only [List.getElem?_cons_zero, Option.some.injEq, Prod.mk.injEq] at hi
    obtain ⟨rfl, rfl⟩ := hi
    obtain ⟨g', t', cs', fuel', p', h1', h2', h3', h4', h6⟩ := laidVars_get h5 (by simpa using hj)
    refine ⟨g, t, cs, fuel, p, g', t', cs', fuel', p', h1, h2, h3, h4, h1', h2', h3', h4', fun x hx hx' => ?_⟩
    have hd := (List.nodup_append.1 hnd).2.2
    exact hd x (List.mem_append_right _ hx) x (h6 x (List.mem_append_right _ hx')) rfl
  | (n0, d0) :: r, ps, i + 1, j + 1, n, m, d, e, h, hnd, hij, hi, hj => by
    obtain ⟨g, t, cs, fuel, p, q, _, _, _, _, h5, rfl⟩ := h
    exact laidVars_apart (i := i) (j := j) h5 (List.nodup_append.1 hnd).2.1 (by omega) (by simpa using hi) (by simpa using hj)
  | _ :: _, _, _, 0, _, _, _, _, _, _, hij, _, _ => by omega

/-- Behind what address a variable's error lies. -/
noncomputable def addrOf (W : World) (c : Nat) : Addr :=
  match W.var? Tryz.prog (errName c) with
  | some #[.iface _ (.pointer (some a))] => a
  | _ => ⟨0, 0, none⟩

theorem gn1 : Tryz.prog.globalNamed (errName 1) = some (errG 1) := by kernel_rfl
theorem gn2 : Tryz.prog.globalNamed (errName 2) = some (errG 2) := by kernel_rfl
theorem gn3 : Tryz.prog.globalNamed (errName 3) = some (errG 3) := by kernel_rfl
theorem gn4 : Tryz.prog.globalNamed (errName 4) = some (errG 4) := by kernel_rfl
theorem gn5 : Tryz.prog.globalNamed (errName 5) = some (errG 5) := by kernel_rfl
theorem gn6 : Tryz.prog.globalNamed (errName 6) = some (errG 6) := by kernel_rfl
theorem gn7 : Tryz.prog.globalNamed (errName 7) = some (errG 7) := by kernel_rfl
theorem gn8 : Tryz.prog.globalNamed (errName 8) = some (errG 8) := by kernel_rfl
theorem gn9 : Tryz.prog.globalNamed (errName 9) = some (errG 9) := by kernel_rfl
theorem gn10 : Tryz.prog.globalNamed (errName 10) = some (errG 10) := by kernel_rfl
theorem gn11 : Tryz.prog.globalNamed (errName 11) = some (errG 11) := by kernel_rfl
theorem gn12 : Tryz.prog.globalNamed (errName 12) = some (errG 12) := by kernel_rfl
theorem gt1 : (Tryz.prog.globals[errG 1]?).map (·.type) = some 31 := by kernel_rfl
theorem gt2 : (Tryz.prog.globals[errG 2]?).map (·.type) = some 31 := by kernel_rfl
theorem gt3 : (Tryz.prog.globals[errG 3]?).map (·.type) = some 31 := by kernel_rfl
theorem gt4 : (Tryz.prog.globals[errG 4]?).map (·.type) = some 31 := by kernel_rfl
theorem gt5 : (Tryz.prog.globals[errG 5]?).map (·.type) = some 31 := by kernel_rfl
theorem gt6 : (Tryz.prog.globals[errG 6]?).map (·.type) = some 31 := by kernel_rfl
theorem gt7 : (Tryz.prog.globals[errG 7]?).map (·.type) = some 31 := by kernel_rfl
theorem gt8 : (Tryz.prog.globals[errG 8]?).map (·.type) = some 31 := by kernel_rfl
theorem gt9 : (Tryz.prog.globals[errG 9]?).map (·.type) = some 31 := by kernel_rfl
theorem gt10 : (Tryz.prog.globals[errG 10]?).map (·.type) = some 31 := by kernel_rfl
theorem gt11 : (Tryz.prog.globals[errG 11]?).map (·.type) = some 31 := by kernel_rfl
theorem gt12 : (Tryz.prog.globals[errG 12]?).map (·.type) = some 31 := by kernel_rfl
theorem starE : "*" ++ "errors.errorString" = "*errors.errorString" := by decide
theorem rowE (u : TypeId) (h : Tryz.prog.typeName? 3 u = some "*errors.errorString") : u = 401 :=
  typeName_ptr_named (nm := "errors.errorString") (by rw [starE]; kernel_rfl) (by kernel_rfl) (by decide) u (by rw [starE]; exact h)
theorem cellsErrStr : Tryz.prog.cellsOf 403 = 1 := by kernel_rfl
theorem cellsStr : Tryz.prog.cellsOf 9 = 1 := by kernel_rfl

set_option maxRecDepth 100000 in
/-- WHAT THE CONDITION GIVES THE WALKS: the sentinels of the numbers D, where the list L bears each at the place idx says. -/
theorem errs_of_laid {L : List (String × DataW Unit)} {W : World} (h : laidMet Tryz.prog L W) (D : List Nat) (idx : Nat → Nat) (hD : ∀ c ∈ D, c ∈ allE)
    (hg : ∀ c ∈ D, Tryz.prog.globalNamed (errName c) = some (errG c)) (ht : ∀ c ∈ D, (Tryz.prog.globals[errG c]?).map (·.type) = some 31)
    (hL : ∀ c ∈ D, ∃ text, L[idx c]? = some (errName c, .iface "*errors.errorString" (.ptr (.agg [.lit (.string text)])))) :
    Errs D (addrOf W) W.heap.size W := by
  obtain ⟨ps, hv, hnd, hrows⟩ := h
  have key : ∀ c ∈ D, ∀ {g t cs fuel p text}, Tryz.prog.globalNamed (errName c) = some g → (Tryz.prog.globals[g]?).map (·.type) = some t → W.var? Tryz.prog (errName c) = some cs →
      DataW.trod (fun _ => ()) Tryz.prog W 0 (fun _ => true) false fuel t cs.toList = some (.iface "*errors.errorString" (.ptr (.agg [.lit (.string text)])), p) → (∀ x ∈ MemPlace.row ⟨g, 0, none⟩ cs.size, x ∈ ps) →
      W.cell? ⟨errG c, 0, none⟩ = some (.iface 401 (.pointer (some (addrOf W c)))) ∧ (∃ s, W.cell? (addrOf W c) = some (.string s)) ∧ p = MemPlace.row (addrOf W c) 1 := by
    intro c hc g t cs fuel p text h1 h2 h3 h4 h5
    obtain rfl := Option.some.inj ((hg c hc).symm.trans h1)
    obtain rfl := Option.some.inj ((ht c hc).symm.trans h2)
    obtain ⟨l0⟩ := cs
    have ok0 : ∀ u v, l0 = [.iface u v] → Value.okWide Tryz.prog W .any 0 u v := fun u v e => by
      subst e
      exact (hrows (errG c) 0 (h5 _ (by simp [MemPlace.row]))).2 u v (by simpa using World.var?_cell h1 h3 0)
    obtain ⟨a0, s0, rfl, hc0, hs0, hz0, rfl⟩ := errorString_of_trod Tryz.underlying31 rowE Tryz.underlying401 Tryz.underlying403 rfl rfl Tryz.underlying9 cellsErrStr cellsStr h4 ok0
    have ea : addrOf W c = a0 := by
      unfold addrOf
      rw [h3]
      exact rfl
    refine ⟨?_, ⟨s0, by rw [ea]; exact hc0⟩, by rw [ea]⟩
    rw [ea]
    simpa using World.var?_cell h1 h3 0
  have get : ∀ c ∈ D, W.cell? ⟨errG c, 0, none⟩ = some (.iface 401 (.pointer (some (addrOf W c)))) ∧ (∃ s, W.cell? (addrOf W c) = some (.string s)) ∧ MemPlace.cell (addrOf W c).block (addrOf W c).off ∈ ps := by
    intro c hc
    obtain ⟨text, hl⟩ := hL c hc
    obtain ⟨g, t, cs, fuel, p, h1, h2, h3, h4, h5⟩ := laidVars_get hv hl
    obtain ⟨k1, k2, rfl⟩ := key c hc h1 h2 h3 h4 (fun x hx => h5 x (List.mem_append_left _ hx))
    exact ⟨k1, k2, h5 _ (List.mem_append_right _ (by simp [MemPlace.row]))⟩
  have apart : ∀ c ∈ D, ∀ d ∈ D, idx c < idx d → addrOf W c ≠ addrOf W d := by
    intro c hc d hd hlt he
    obtain ⟨t1, hl1⟩ := hL c hc
    obtain ⟨t2, hl2⟩ := hL d hd
    obtain ⟨g, t, cs, fuel, p, g', t', cs', fuel', p', a1, a2, a3, a4, b1, b2, b3, b4, hap⟩ := laidVars_apart hv hnd hlt hl1 hl2
    obtain ⟨g0, t0, cs0, f0, p0, u1, u2, u3, u4, u5⟩ := laidVars_get hv hl1
    obtain ⟨g0', t0', cs0', f0', p0', v1, v2, v3, v4, v5⟩ := laidVars_get hv hl2
    obtain rfl := Option.some.inj (a1.symm.trans u1)
    obtain rfl := Option.some.inj (a3.symm.trans u3)
    obtain rfl := Option.some.inj (b1.symm.trans v1)
    obtain rfl := Option.some.inj (b3.symm.trans v3)
    obtain ⟨_, _, rfl⟩ := key c hc a1 a2 a3 a4 (fun x hx => u5 x (List.mem_append_left _ hx))
    obtain ⟨_, _, rfl⟩ := key d hd b1 b2 b3 b4 (fun x hx => v5 x (List.mem_append_left _ hx))
    rw [he] at hap
    exact hap (.cell (addrOf W d).block (addrOf W d).off) (by simp [MemPlace.row]) (by simp [MemPlace.row])
  refine ⟨fun c hc => (get c hc).1, fun c hc => (hrows _ _ (get c hc).2.2).1, fun c hc => ?_, fun c hc d hd he => ?_, Nat.le_refl _⟩
  · obtain ⟨k1, ⟨s, k2⟩, _⟩ := get c hc
    exact ⟨World.block_lt_of_cell? W _ k2, World.block_lt_of_cell? W ⟨errG c, 0, none⟩ k1⟩
  · rcases Nat.lt_trichotomy (idx c) (idx d) with h | h | h
    · exact absurd he (apart c hc d hd h)
    · obtain ⟨t1, hl1⟩ := hL c hc
      obtain ⟨t2, hl2⟩ := hL d hd
      rw [h, hl2] at hl1
      have : errName d = errName c := by simpa using congrArg (fun x => x.1) (Option.some.inj hl1)
      exact errName_inj c (hD c hc) d (hD d hd) this.symm
    · exact absurd he.symm (apart d hd c hc h)

theorem etG : Tryz.prog.globalNamed "errors.errorType" = some 12 := by kernel_rfl
theorem rtT : (Tryz.prog.cutTypes.find? (·.1 == "internal/reflectlite.rtype")).map (·.2) = some 321 := by kernel_rfl
theorem oneRowE : ((List.range 430).filter fun t => Tryz.prog.rowNamed t [101, 114, 114, 111, 114]) = [31] := by kernel_rfl
theorem typesSize : Tryz.prog.types.size = 430 := by kernel_rfl
theorem asVar_of_laid {L : List (String × DataW Unit)} {W : World} (h : handlesMet Tryz.prog L W) (hm : ("errors.errorType", .iface "internal/reflectlite.rtype" (.agg [.ptr (.lit (.string [101, 114, 114, 111, 114]))])) ∈ L) : AsVar W := by
  obtain ⟨name, u, ty, e1, e2, e3, e4, e5⟩ := h _ hm
  have en : name = [101, 114, 114, 111, 114] := (Option.some.inj e1).symm
  subst en
  obtain rfl := Option.some.inj (rtT.symm.trans e2)
  have hm : ty ∈ (List.range 430).filter fun t => Tryz.prog.rowNamed t [101, 114, 114, 111, 114] := List.mem_filter.2 ⟨List.mem_range.2 (by rw [← typesSize]; exact e3), e4⟩
  rw [oneRowE] at hm
  obtain rfl := List.mem_singleton.1 hm
  have hh : typeHandle Tryz.prog 31 = .pointer (some ⟨21, 31, none⟩) := by kernel_rfl
  rw [hh] at e5
  have := World.var?_cell etG e5 0
  unfold AsVar
  simpa using this
end Go.Proofs.YtmhchakjkgdpmaaGreatDoor
