/- The document's answer on lists: ListFault, ListText: the walks. deedboxref1.Cut, InInts; deedboxref2.IDsText: the walks. The document's answer on files and lists: ReadFile, ReadList, AddOf, RemoveOf: the walks. The document's answer on lists: ReadList: the walk. The document's answer on lists: RemoveOf: the walk. The document's answer on lists: AddOf: the walk (printed by gen_addof.py). Changes in plain words. Of no program. Two changes, one behind the other: plain. Snaps in memory; snap.in, snap.Check, slices.Contains at texts. -/
import Derived.Test.YtmhchakjkgdpmaaGreatDoorTt7
import Derived.Deep.RegionHeld3
import Derived.Test.YtmhchakjkgdpmaaGreatDoorTt5
import Derived.Test.YtmhchakjkgdpmaaGreatDoorTt3
import Derived.RegionTactic
import Derived.Test.YtmhchakjkgdpmaaGreatDoorTt4
import Derived.Test.YtmhchakjkgdpmaaGreatDoorTt6
namespace Go.Proofs.YtmhchakjkgdpmaaGreatDoor
open Go.RowKit

theorem fault_cell {fn : Func} {p : Tmp} (h : fn.results = #[.cell p 49]) {tmps : Array Value} {w : World} {g : Nat} {c q : Int} (hp : tmps.getD p undef = .pointer (some ⟨g, 0, none⟩)) (hg : w.heap[g]? = some (.cells #[.int .i64 c, .int .i64 q] 49 (0, 0))) :
    (results fn tmps).run Tryz.prog w = .ok (faultV c q) w :=
  results_cell_row h _ _ g 49 #[.int .i64 c, .int .i64 q] (0, 0) _ hp hg Tryz.underlying49 rfl (by kernel_rfl)
theorem listCheck_few {l : List Fl} (h : ¬ 60 < l.length) : listCheck l = firstErr (fileFault l) l.length := if_neg h
theorem fileFault_bad {l : List Fl} {k : Nat} {x : Fl} (hx : l[k]? = some x) (h : checkF x ≠ 0) : fileFault l k = checkF x := by unfold fileFault; rw [hx]; simp only; rw [if_pos h]
theorem fileFault_zero {l : List Fl} {x : Fl} (hx : l[0]? = some x) (h : checkF x = 0) : fileFault l 0 = 0 := by unfold fileFault; rw [hx]; simp only; rw [if_neg (by simpa using h), if_neg (by simp)]
theorem fileFault_ord {l : List Fl} {k : Nat} {x y : Fl} (hx : l[k]? = some x) (h : checkF x = 0) (h0 : 0 < k) (hy : l[k - 1]? = some y) (hc : cmpP x.path y.path ≤ 0) : fileFault l k = 9 := by
  unfold fileFault; rw [hx]; simp only; rw [if_neg (by simpa using h), if_pos ⟨h0, y, hy, hc⟩]
theorem fileFault_fine {l : List Fl} {k : Nat} {x y : Fl} (hx : l[k]? = some x) (h : checkF x = 0) (hy : l[k - 1]? = some y) (hc : ¬ cmpP x.path y.path ≤ 0) : fileFault l k = 0 := by
  unfold fileFault; rw [hx]; simp only; rw [if_neg (by simpa using h), if_neg]
  rintro ⟨_, g, hg, hle⟩
  rw [hy] at hg; cases hg; exact hc hle

set_option maxHeartbeats 2000000 in
set_option maxRecDepth 20000 in
theorem listFault_any (v : Value) (l : List Fl) (w : World) (hl : FilesAt w v l) (hs : ∀ x ∈ l, midF x) :
    Calls Tryz.prog 43 #[v] w fun e w' => e = .returned (faultOf (listCheck l)) ∧ Below w.heap.size w w' := by
  obtain ⟨a, c, b, o, rfl, ha, hc, hcm, hx⟩ := hl
  unfold maxLen at hcm
  have hba := (Below.refl w.heap.size w).alloc (Nat.le_refl _) (.cells #[.int .i64 0, .int .i64 0] 49)
  have hG := fun W (h : Below (w.alloc (.cells #[.int .i64 0, .int .i64 0] 49)).heap.size (w.alloc (.cells #[.int .i64 0, .int .i64 0] 49)) W) => ((h.block w.heap.size (by simp)).trans (heap_alloc_new w (.cells #[.int .i64 0, .int .i64 0] 49)) : W.heap[w.heap.size]? = some (.cells #[.int .i64 0, .int .i64 0] 49 (0, 0)))
  have HG := Lib.hid hG; clear hG
  have HS := Lib.hid hs; clear hs
  by_cases h60 : 60 < l.length
  · have g60 : (60 : Int) < (l.length : Int) := by omega
    have hsp : listCheck l = .bare 8 := if_pos h60
    have Hl := Lib.hid hsp; clear h60 hsp
    go_enter Tryz.func43, Tryz.ntmps43
    go_wp2_with fail
    refine (refBare_any 8 _).mono ?_
    rintro e w1 ⟨rfl, hb⟩
    have hg := HG.out _ hb
    have c0 : w1.cell? ⟨w.heap.size, 0, none⟩ = some (.int .i64 0) := by simp [World.cell?, hg]
    have c1 : w1.cell? ⟨w.heap.size, 1, none⟩ = some (.int .i64 0) := by simp [World.cell?, hg]
    have f0 : w1.frozen? ⟨w.heap.size, 0, none⟩ = false := by simp [World.frozen?, hg]
    have f1 : w1.frozen? ⟨w.heap.size, 1, none⟩ = false := by simp [World.frozen?, hg]
    have HGg := Lib.hid hg; clear hg
    unfold faultV
    go_wp2_with fail
    refine bodyPost_ret (fault_cell (g := w.heap.size) rfl rfl (set_two HGg.out _ _)) rfl ⟨by rw [Hl.out]; rfl, ?_⟩
    exact ((hba.trans (hb.mono hba.size)).setCell (by simp) _).setCell (by simp) _
  have g60 : decide ((60 : Int) < (l.length : Int)) = false := by simp; omega
  have hspec := listCheck_few h60
  have HF := Lib.hid hspec; clear hspec h60
  go_enter Tryz.func43, Tryz.ntmps43
  go_wp2_with fail
  generalize w.alloc (.cells #[.int .i64 0, .int .i64 0] 49) = w0 at *
  go_loopw [3] (fun i wr => ∃ k : Nat, k ≤ l.length ∧ i = .int .i64 k ∧ Hid (∀ j < k, fileFault l j = 0) ∧ Below w0.heap.size w0 wr) (fun i _ => l.length - (intOf i).toNat)
  case atStart => exact ⟨0, by omega, rfl, Lib.hid fun j hj => absurd hj (by omega), Below.refl _ _⟩
  case round =>
    obtain ⟨k, hk, rfl, hj, hb⟩ := hrel
    have hbw : Below w.heap.size w wr := hba.trans (hb.mono hba.size)
    by_cases hlt : k < l.length
    case neg =>
      obtain rfl : k = l.length := by omega
      have f : decide ((l.length : Int) < (l.length : Int)) = false := by simp
      go_wp2_with fail
      refine (refFine_any _).mono ?_
      rintro e w1 ⟨rfl, hb1⟩
      have hg := HG.out _ (hb.trans (hb1.mono hb.size))
      have c0 : w1.cell? ⟨w.heap.size, 0, none⟩ = some (.int .i64 0) := by simp [World.cell?, hg]
      have c1 : w1.cell? ⟨w.heap.size, 1, none⟩ = some (.int .i64 0) := by simp [World.cell?, hg]
      have f0 : w1.frozen? ⟨w.heap.size, 0, none⟩ = false := by simp [World.frozen?, hg]
      have f1 : w1.frozen? ⟨w.heap.size, 1, none⟩ = false := by simp [World.frozen?, hg]
      have HGg := Lib.hid hg; clear hg
      unfold faultV
      go_wp2_with fail
      refine bodyPost_ret (fault_cell (g := w.heap.size) rfl rfl (set_two HGg.out _ _)) rfl ⟨by rw [HF.out, firstErr_all hj.out]; rfl, ?_⟩
      exact ((hbw.trans (hb1.mono hbw.size)).setCell (by simp) _).setCell (by simp) _
    obtain ⟨x, hxk⟩ := get_ex hlt
    have CX := Lib.hid (fun W (h : Below w.heap.size w W) => flCells hx h hxk)
    obtain ⟨c0, c1, c2, c3, c4, c5⟩ := CX.out _ hbw
    have i1 := idx_at (c := c) 6 Tryz.underlying22 szFl ha k hlt
    have hk1 : (k : Int) < (l.length : Int) := by omega
    have hsx := HS.out x (List.mem_of_getElem? hxk)
    have hfe := fileError_any x wr hsx
    have HFe := Lib.hid hfe
    have Hx := Lib.hid hxk; clear hxk hfe
    by_cases hck : checkF x = 0
    case neg =>
      have hf := fileFault_bad Hx.out hck
      have HL : Hid (listCheck l = .loc (checkF x) k) := Lib.hid (HF.out.trans ((firstErr_hit hlt hj.out (by rw [hf]; exact hck)).trans (by rw [hf])))
      have g1 : (((checkF x : Nat) : Int) == 0) = false := by simpa using hck
      have g2 : (0 : Int) < ((checkF x : Nat) : Int) := by omega
      clear hf hck
      generalize checkF x = cx at *
      go_wp2_with fail
      refine HFe.out.mono ?_
      rintro e w1 ⟨rfl, hb1⟩
      have hg := HG.out _ (hb.trans (hb1.mono hb.size))
      clear c0 c1 c2 c3 c4 c5
      have c0 : w1.cell? ⟨w.heap.size, 0, none⟩ = some (.int .i64 0) := by simp [World.cell?, hg]
      have c1 : w1.cell? ⟨w.heap.size, 1, none⟩ = some (.int .i64 0) := by simp [World.cell?, hg]
      have f0 : w1.frozen? ⟨w.heap.size, 0, none⟩ = false := by simp [World.frozen?, hg]
      have f1 : w1.frozen? ⟨w.heap.size, 1, none⟩ = false := by simp [World.frozen?, hg]
      have HGg := Lib.hid hg; clear hg
      go_wp2_with fail
      refine bodyPost_ret (fault_cell (g := w.heap.size) rfl rfl (set_two HGg.out _ _)) rfl ⟨by rw [HL.out]; rfl, ?_⟩
      exact ((hbw.trans (hb1.mono hbw.size)).setCell (by simp) _).setCell (by simp) _
    have HK := Lib.hid hck
    rw [hck] at HFe
    clear hck
    by_cases h0 : k = 0
    · have gk : decide (0 < k) = false := by simp [h0]
      have Hf : Hid (fileFault l 0 = 0) := Lib.hid (fileFault_zero (h0 ▸ Hx.out) HK.out)
      have H0 := Lib.hid h0; clear h0
      go_wp2_with fail
      refine HFe.out.mono ?_
      rintro e w1 ⟨rfl, hb1⟩
      go_wp2_with fail
      go_roundw
      case rel => exact ⟨k + 1, by omega, by go_num, (Lib.hid fun j hj' => by
        obtain rfl : j = 0 := by have := H0.out; omega
        exact Hf.out), hb.trans (hb1.mono hb.size)⟩
      case measure => simp [intOf]; omega
    obtain ⟨y, hyk⟩ := get_ex (l := l) (k := k - 1) (by omega)
    have hsy := HS.out y (List.mem_of_getElem? hyk)
    have CY := Lib.hid (fun W (h : Below w.heap.size w W) => (flCells hx h hyk).1)
    have i2 := idx_at (c := c) 6 Tryz.underlying22 szFl ha (k - 1) (by omega)
    have hcast : ((k - 1 : Nat) : Int) = (k : Int) - 1 := by omega
    simp only [hcast] at i2
    have hk0 : 0 < k := by omega
    have gk : decide (0 < k) = true := decide_eq_true hk0
    have hk01 : (1 : Int) ≤ k := by omega
    have hk02 : (0 : Int) ≤ (k : Int) - 1 := by omega
    have hk03 : (k : Int) - 1 < l.length := by omega
    have hwk : IntKind.i64.wrap ((k : Int) - 1) = (k : Int) - 1 := by rw [IntKind.wrap_i64]; omega
    have hfo := fun h => fileFault_ord Hx.out HK.out hk0 hyk h
    have hff := fun h => fileFault_fine Hx.out HK.out hyk h
    have HOrd := Lib.hid hfo; have HFF := Lib.hid hff
    clear hfo hff hcast hyk h0
    have hC := fun W => isBehind_any x.path y.path W hsx.1 hsy.1
    obtain ⟨cv, hcv⟩ : ∃ cv, cmpP x.path y.path = cv := ⟨_, rfl⟩
    rw [hcv] at hC HOrd HFF
    clear hcv
    go_wp2_with fail
    refine HFe.out.mono ?_
    rintro e w1 ⟨rfl, hb1⟩
    have hb1' := hb.trans (hb1.mono hb.size)
    have hbw1 := hbw.trans (hb1.mono hbw.size)
    clear c0 c1 c2 c3 c4 c5
    have p0 := (CX.out _ hbw1.drew).1
    have d0 := CY.out _ hbw1.drew
    by_cases hle : cv ≤ 0
    · have hf := HOrd.out hle
      have HL : Hid (listCheck l = .loc 9 k) := Lib.hid (HF.out.trans ((firstErr_hit hlt hj.out (by rw [hf]; decide)).trans (by rw [hf])))
      have hcc : decide (0 < cv) = false := by simp; omega
      simp only [hcc] at hC
      have HC := Lib.hid hC
      clear hf hC hcc hle
      go_wp2_with fail
      go_region_held3 (fun w' => w'.cell? ⟨b, o + k * 6, none⟩ = some (S x.path) ∧ w'.cell? ⟨b, o + (k - 1) * 6, none⟩ = some (S y.path)) (exact ⟨p0, d0⟩) (first | (go_at_call 104; refine (HC.out _).mono ?_; rintro e w2 ⟨rfl, rfl⟩))
      have hg := HG.out _ hb1'
      have c0 : w1.cell? ⟨w.heap.size, 0, none⟩ = some (.int .i64 0) := by simp [World.cell?, hg]
      have c1 : w1.cell? ⟨w.heap.size, 1, none⟩ = some (.int .i64 0) := by simp [World.cell?, hg]
      have f0 : w1.frozen? ⟨w.heap.size, 0, none⟩ = false := by simp [World.frozen?, hg]
      have f1 : w1.frozen? ⟨w.heap.size, 1, none⟩ = false := by simp [World.frozen?, hg]
      have HGg := Lib.hid hg; clear hg
      go_wp2_with fail
      refine bodyPost_ret (fault_cell (g := w.heap.size) rfl rfl (set_two (w := w1.drew) HGg.out _ _)) rfl ⟨by rw [HL.out]; rfl, ?_⟩
      exact ((hbw1.drew).setCell (by simp) _).setCell (by simp) _
    · have hf := HFF.out (by omega)
      have Hf := Lib.hid hf; clear hf
      have hcc : decide (0 < cv) = true := by simp; omega
      simp only [hcc] at hC
      have HC := Lib.hid hC
      clear hC hcc hle
      go_wp2_with fail
      go_region_held3 (fun w' => w'.cell? ⟨b, o + k * 6, none⟩ = some (S x.path) ∧ w'.cell? ⟨b, o + (k - 1) * 6, none⟩ = some (S y.path)) (exact ⟨p0, d0⟩) (first | (go_at_call 104; refine (HC.out _).mono ?_; rintro e w2 ⟨rfl, rfl⟩))
      go_wp2_with fail
      go_roundw
      case rel => exact ⟨k + 1, by omega, by go_num, (Lib.hid fun j hj' => by
        rcases Nat.lt_or_ge j k with h | h
        · exact hj.out j h
        · obtain rfl : j = k := by omega
          exact Hf.out), hb1'.drew⟩
      case measure => simp [intOf]; omega

end Go.Proofs.YtmhchakjkgdpmaaGreatDoor
namespace Go.Proofs.YtmhchakjkgdpmaaGreatDoor
open Go.RowKit
attribute [local go_sem] bget bapp

theorem drop_cut {s : Str} {f k : Nat} (hf : f ≤ k) (hk : k < s.length) : s.drop f = (s.drop f).take (k - f) ++ s[k] :: s.drop (k + 1) := by
  have h1 : s.drop k = s[k] :: s.drop (k + 1) := List.drop_eq_getElem_cons hk
  have h2 : (s.drop f).drop (k - f) = s.drop k := by rw [List.drop_drop]; congr 1; omega
  rw [← h1, ← h2, List.take_append_drop]
theorem take_cut {s : Str} {f k : Nat} (hf : f ≤ k) (hk : k < s.length) : (s.drop f).take (k + 1 - f) = (s.drop f).take (k - f) ++ [s[k]] := by
  rw [show k + 1 - f = (k - f) + 1 by omega]
  refine take_snoc' ?_
  rw [List.getElem?_drop, show f + (k - f) = k by omega]; simp [hk]

set_option maxRecDepth 20000 in
set_option maxHeartbeats 400000 in
theorem refCut_any (s : Str) (c : UInt8) (w : World) (hs : s.length ≤ 100000) :
    Calls Tryz.prog 224 #[S s, .int .u8 c.toNat] w fun e w' => ∃ v', e = .returned v' ∧ Own encS 9 1 w.heap.size w' v' (cutAt c s) ∧ Below w.heap.size w w' := by
  go_enter Tryz.func224, Tryz.ntmps224
  go_wp2_with fail
  go_loopw [5, 6, 7] (fun o f i wr => ∃ (k m : Nat) (out : List Str), k ≤ s.length ∧ m ≤ k ∧ i = .int .i64 k ∧ f = .int .i64 m ∧ Hid (cutAt c s = out ++ cutAt c (s.drop m)) ∧ Hid (c ∉ (s.drop m).take (k - m)) ∧ out.length ≤ k ∧ Own encS 9 1 w.heap.size wr o out ∧ Below w.heap.size w wr) (fun _ _ i _ => s.length - (intOf i).toNat)
  case atStart => exact ⟨0, 0, [], by omega, by omega, rfl, rfl, rfl, by simp [Hid], by simp, Own.nil _ _ _ _ _, Below.refl _ _⟩
  case round =>
    obtain ⟨k, m, out, hk, hm, rfl, rfl, hcut, hno, hol, ho, hb⟩ := hrel
    have hmk : (m : Int) ≤ k := by omega
    have hks : (k : Int) ≤ s.length := by omega
    by_cases hlt : k < s.length
    · have hk1 : (k : Int) < s.length := by omega
      by_cases he : s[k] = c
      · have g1 : ((s[k].toNat : Int) == c.toNat) = true := by rw [he]; simp
        have hd := drop_cut hm hlt
        have hc2 : cutAt c s = (out ++ [(s.drop m).take (k - m)]) ++ cutAt c (s.drop (k + 1)) := by
          rw [hcut.out]
          have : cutAt c (s.drop m) = (s.drop m).take (k - m) :: cutAt c (s.drop (k + 1)) := by
            conv => lhs; rw [hd, he]
            exact cutAt_app hno.out
          rw [this]; simp
        have Hc := Lib.hid hc2
        clear he hd hc2
        go_wp2_with (at_builtin; refine wpList_app rfl _ _ _ rfl w.heap.size elStr _ out.length _ rfl (ho.alloc _) (.slice (some ⟨wr.heap.size, 0, none⟩) 1 1) 1 [.string ((ByteArray.mk s.toArray).extract m k)] rfl (src_one rfl rfl (by simp [Value.oneCell'])) (by unfold maxLen; omega) (by omega) (by have := hb.size; simp; omega) ?_; intro v' w2 hown hg _)
        rw [ByteArray.extract_mk] at hown
        go_roundw
        case rel => exact ⟨k + 1, k + 1, out ++ [(s.drop m).take (k - m)], by omega, by omega, by go_num, by go_num, Hc.out, by simp [Hid], by simp; omega, Own.snoc hown, Bapp (hb.alloc hb.size _) (ho.alloc _) hg (Nat.le_refl _) (by have := hb.size; simp; omega)⟩
        case measure => simp [intOf]; omega
      · have g1 : ((s[k].toNat : Int) == c.toNat) = false := by
          simp; intro h; apply he; apply UInt8.toNat_inj.1; exact Int.ofNat.inj h
        have hn2 : c ∉ (s.drop m).take (k + 1 - m) := by
          rw [take_cut hm hlt]; intro h
          rcases List.mem_append.1 h with h | h
          · exact hno.out h
          · exact he (List.mem_singleton.1 h).symm
        have Hn := Lib.hid hn2
        clear he hn2
        go_wp2_with fail
        go_roundw
        case rel => exact ⟨k + 1, m, out, by omega, by omega, by go_num, rfl, hcut, Hn, by omega, ho, hb⟩
        case measure => simp [intOf]; omega
    · obtain rfl : k = s.length := by omega
      have hc2 : cutAt c s = out ++ [s.drop m] := by
        have h := hno.out
        rw [List.take_of_length_le (by simp)] at h
        rw [hcut.out, cutAt_none h]
      have Hc := Lib.hid hc2
      clear hc2
      go_wp2_with (at_builtin; refine wpList_app rfl _ _ _ rfl w.heap.size elStr _ out.length _ rfl (ho.alloc _) (.slice (some ⟨wr.heap.size, 0, none⟩) 1 1) 1 [.string ((ByteArray.mk s.toArray).extract m s.length)] rfl (src_one rfl rfl (by simp [Value.oneCell'])) (by unfold maxLen; omega) (by omega) (by have := hb.size; simp; omega) ?_; intro v' w2 hown hg _)
      rw [extract_from] at hown
      go_ret
      exact ⟨_, rfl, by rw [Hc.out]; exact Own.snoc hown, Bapp (hb.alloc hb.size _) (ho.alloc _) hg (Nat.le_refl _) (by have := hb.size; simp; omega)⟩

theorem inInts_any (n : Int) (v : Value) (l : List Int) (w : World) (hl : IntsAt w v l) :
    Calls Tryz.prog 123 #[.int .i64 n, v] w fun e w' => e = .returned (.bool (decide (n ∈ l))) ∧ Below w.heap.size w w' := by
  obtain ⟨a, c, b, o, rfl, ha, hc, hcm, hx⟩ := hl
  unfold maxLen at hcm
  go_enter Tryz.func123, Tryz.ntmps123
  go_wp2_with fail
  go_loopw [5] (fun i wr => ∃ k : Nat, k ≤ l.length ∧ i = .int .i64 k ∧ Hid (∀ j < k, l[j]? ≠ some n) ∧ Below w.heap.size w wr) (fun i _ => l.length - (intOf i).toNat)
  case atStart => exact ⟨0, by omega, rfl, fun j hj => absurd hj (by omega), Below.refl _ _⟩
  case round =>
    obtain ⟨k, hk, rfl, hj, hb⟩ := hrel
    by_cases hlt : k < l.length
    · obtain ⟨x, hxk⟩ := get_ex hlt
      have c1 := hx k x hxk 0 _ rfl
      have c1 := (hb.cell (World.block_lt_of_cell? w _ c1)).trans c1
      have i1 := idx_at (c := c) 1 Tryz.underlying92 szInt ha k hlt
      have hk1 : (k : Int) < (l.length : Int) := by omega
      simp only [Nat.mul_one, Nat.add_zero] at c1 i1
      have Hx := Lib.hid hxk; clear hxk
      go_wp2_with fail
      · have he : x = n := by simpa using ‹(x == n) = true›
        go_ret
        exact ⟨ret_bool (decide_eq_true (by rw [← he]; exact List.mem_of_getElem? Hx.out)).symm, hb⟩
      · have hne' : x ≠ n := by simpa using ‹(x == n) = false›
        go_roundw
        case rel => exact ⟨k + 1, by omega, by go_num, (fun j hj' => by
          rcases Nat.lt_or_ge j k with h | h
          · exact hj.out j h
          · obtain rfl : j = k := by omega
            rw [Hx.out]; exact fun e => hne' (Option.some.inj e)), hb⟩
        case measure => simp [intOf]; omega
    · obtain rfl : k = l.length := by omega
      go_wp2_with fail
      go_ret
      refine ⟨ret_bool (decide_eq_false fun e => ?_).symm, hb⟩
      obtain ⟨j, hjl, hje⟩ := List.getElem_of_mem e
      exact hj.out j hjl (by simp [hjl, hje])

end Go.Proofs.YtmhchakjkgdpmaaGreatDoor
namespace Go.Proofs.YtmhchakjkgdpmaaGreatDoor
open Go.RowKit

theorem cut32_any (s : Str) (w : World) (hs : s.length ≤ 100000) :
    Calls Tryz.prog 224 #[S s, .int .u8 32] w fun e w' => ∃ v', e = .returned v' ∧ Own encS 9 1 w.heap.size w' v' (cutAt 32 s) ∧ Below w.heap.size w w' := refCut_any s 32 w hs
theorem cut10_any (s : Str) (w : World) (hs : s.length ≤ 100000) :
    Calls Tryz.prog 224 #[S s, .int .u8 10] w fun e w' => ∃ v', e = .returned v' ∧ Own encS 9 1 w.heap.size w' v' (cutAt 10 s) ∧ Below w.heap.size w w' := refCut_any s 10 w hs

end Go.Proofs.YtmhchakjkgdpmaaGreatDoor
namespace Go.Proofs.YtmhchakjkgdpmaaGreatDoor
open Go.RowKit

theorem Own.stays {α : Type} {enc : α → List Value} {sz : Nat} {w w' : World} {v : Value} {l : List α} {e : TypeId} {B : Nat} (hen : Enc enc sz) (h : Own enc e sz B w v l) (hw : ∀ p : Addr, B ≤ p.block → w'.cell? p = w.cell? p) : At enc sz w' v l := by
  rcases Nat.eq_zero_or_pos l.length with h0 | h0
  · obtain ⟨a, c, b, o, hv, ha, hc, hm, hx⟩ := h.at hen
    exact ⟨a, c, b, o, hv, ha, hc, hm, fun k x hk => absurd (List.getElem?_eq_some_iff.1 hk).1 (by omega)⟩
  · obtain ⟨g', cap, cur, rfl, hB, _, hc, hm, _, _⟩ := h.open h0
    refine ⟨_, cap, g', 0, rfl, fun _ => rfl, hc, hm, fun k x hk j u hu => ?_⟩
    have h1 := h.cells hen k x hk j u hu
    rw [Nat.zero_add]
    exact (hw ⟨g', k * sz + j, none⟩ hB).trans h1

theorem fault_tc {fn : Func} {u p : Tmp} (h : fn.results = #[.tmp u, .cell p 49]) {tmps : Array Value} {w : World} {g : Nat} {c q : Int} {v : Value} (hp : tmps.getD p undef = .pointer (some ⟨g, 0, none⟩)) (hg : w.heap[g]? = some (.cells #[.int .i64 c, .int .i64 q] 49 (0, 0))) (hv : tmps.getD u undef = v) :
    (results fn tmps).run Tryz.prog w = .ok (.tuple #[v, faultV c q]) w :=
  results_tmp_cell h tmps w g 49 #[.int .i64 c, .int .i64 q] (0, 0) _ hp hg Tryz.underlying49 rfl (by kernel_rfl) hv
end Go.Proofs.YtmhchakjkgdpmaaGreatDoor
namespace Go.Proofs.YtmhchakjkgdpmaaGreatDoor
open Go.RowKit

theorem listCheck_code {l : List Fl} (h : listCheck l ≠ .nil) : 0 < (listCheck l).code := by
  unfold listCheck at h ⊢
  split
  · decide
  · rename_i h0
    rw [if_neg h0] at h
    exact firstFrom_code h
theorem FilesAt.away {w : World} {v : Value} {l : List Fl} {g : Nat} {x y : Int} {t : TypeId} (h : FilesAt w v l) (hg : w.heap[g]? = some (.cells #[.int .i64 x, .int .i64 y] t (0, 0))) (a b : Value) : FilesAt ((w.setCell ⟨g, 0, none⟩ a).setCell ⟨g, 1, none⟩ b) v l := by
  obtain ⟨a', c, b', o, hv, ha, hc, hm, hx⟩ := h
  refine ⟨a', c, b', o, hv, ha, hc, hm, fun k z hk j u hu => ?_⟩
  have h0 := hx k z hk 0 _ rfl
  have h1 := hx k z hk j u hu
  have hne : b' ≠ g := by
    rintro rfl
    simp only [World.cell?, hg] at h0
    generalize o + k * 6 + 0 = i at h0
    match i with
    | 0 => simp at h0
    | 1 => simp at h0
    | n + 2 => simp at h0
  rw [World.cell?_setCell_other _ _ _ _ (fun e => hne (by have h := congrArg Addr.block e; first | exact h | exact h.symm)), World.cell?_setCell_other _ _ _ _ (fun e => hne (by have h := congrArg Addr.block e; first | exact h | exact h.symm))]
  exact h1
end Go.Proofs.YtmhchakjkgdpmaaGreatDoor
namespace Go.Proofs.YtmhchakjkgdpmaaGreatDoor
open Go.RowKit

theorem keyP_inj {p q : Str} (hp : pathF p ≠ none) (hq : pathF q ≠ none) (h : keyP p = keyP q) : p = q := by
  cases h1 : pathF p with
  | none => exact absurd h1 hp
  | some a =>
    cases h2 : pathF q with
    | none => exact absurd h2 hq
    | some b =>
      obtain ⟨k, n⟩ := a
      obtain ⟨k', n'⟩ := b
      obtain ⟨e1, k1, n1, m1⟩ := pathF_form h1
      obtain ⟨e2, k2, n2, m2⟩ := pathF_form h2
      have hg : ¬ kGone = kData := by decide
      unfold keyP at h
      rw [h1, h2] at h
      simp only at h
      rcases k1 with rfl | rfl <;> rcases k2 with rfl | rfl
      · rw [if_pos rfl, if_pos rfl] at h
        obtain rfl : n = n' := by omega
        rw [e1, e2]
      · rw [if_pos rfl, if_neg hg] at h; omega
      · rw [if_neg hg, if_pos rfl] at h; omega
      · rw [if_neg hg, if_neg hg] at h
        obtain rfl : n = n' := by omega
        rw [e1, e2]
theorem checkF_path {f : Fl} (h : checkF f = 0) : pathF f.path ≠ none := by
  obtain ⟨k, n, hp, -, -⟩ := checkF_zero h
  rw [hp]; exact fun e => by cases e
theorem there_find {l : List Fl} {f : Fl} (hR : RightL l) (hf : checkF f = 0) : thereF l f ↔ 0 ≤ findV l f.path := by
  rw [find_mem]
  constructor
  · rintro ⟨g, hg, hk⟩
    exact ⟨g, hg, keyP_inj (checkF_path (hR.ok g hg)) (checkF_path hf) hk⟩
  · rintro ⟨g, hg, hp⟩
    exact ⟨g, hg, by rw [hp]⟩
end Go.Proofs.YtmhchakjkgdpmaaGreatDoor
namespace Go.Proofs.YtmhchakjkgdpmaaGreatDoor
open Go.RowKit

/-- A change. -/
structure Tx where
  base : Sn
  adds : List Fl
  removes : List Str

def addTE (t : Tx) (f : Fl) : Nat := if checkF { f with seq := 1 } ≠ 0 then checkF { f with seq := 1 } else if 0 ≤ findV t.adds f.path then 7 else 0
def addT (t : Tx) (f : Fl) : Tx := if addTE t f = 0 then { t with adds := t.adds ++ [{ f with seq := 1 }] } else t
def remTE (t : Tx) (p : Str) : Nat := if findV t.base.files p < 0 then 6 else if p ∈ t.removes then 7 else 0
def remT (t : Tx) (p : Str) : Tx := if remTE t p = 0 then { t with removes := t.removes ++ [p] } else t
def goneT (t : Tx) (now : List Fl) : Bool := t.removes.any fun s => decide (findV now s < 0)
def thereT (t : Tx) (now : List Fl) : Bool := t.adds.any fun f => decide (0 ≤ findV now f.path)
def delT (t : Tx) : Bool := t.adds.any fun f => f.part == [45]
def opT (t : Tx) : Str := if t.removes ≠ [] then kRewrite else if delT t = true then kDelete else kAppend
def seqT (t : Tx) (op : Str) (seq : Int) (f : Fl) : Fl := { f with seq := if op = kRewrite ∧ f.part ≠ [45] then t.base.seq else seq }
def keptT (t : Tx) (now : List Fl) : List Fl := now.filter fun f => !decide (f.path ∈ t.removes)
def newT (t : Tx) (op : Str) (seq : Int) : List Fl := t.adds.map (seqT t op seq)
def placeAll (xs l : List Fl) : List Fl := xs.foldl (fun l x => placeF x l) l
def filesT (t : Tx) (now : List Fl) (op : Str) (seq : Int) : List Fl := placeAll (newT t op seq) (keptT t now)
def snapT (t : Tx) (now : Sn) (id day index : Int) : Sn := ⟨id, now.id, now.seq + 1, day, index, opT t, filesT t now.files (opT t) (now.seq + 1)⟩
def commitE (t : Tx) (now : Sn) (id day index : Int) : Er :=
  if snapCheck now ≠ .nil then snapCheck now else if goneT t now.files = true then .bare 11 else if thereT t now.files = true then .bare 7 else (snapCheck (snapT t now id day index)).noPlace
def commitS (t : Tx) (now : Sn) (id day index : Int) : Sn := if commitE t now id day index = .nil then snapT t now id day index else zeroSn

theorem findV_neg {l : List Fl} {p : Str} : findV l p < 0 ↔ ∀ f ∈ l, f.path ≠ p := by
  unfold findV idxVal
  cases h : l.findIdx? (fun f => f.path == p) with
  | none =>
    rw [List.findIdx?_eq_none_iff] at h
    simp only [beq_eq_false_iff_ne] at h
    exact ⟨fun _ => h, fun _ => by decide⟩
  | some i =>
    obtain ⟨h1, h2, -⟩ := List.findIdx?_eq_some_iff_getElem.1 h
    constructor
    · intro h3; simp only at h3; omega
    · intro h3; exact absurd (by simpa using h2) (h3 l[i] (List.getElem_mem h1))
theorem findV_pos {l : List Fl} {p : Str} : 0 ≤ findV l p ↔ ∃ f ∈ l, f.path = p := by
  constructor
  · intro h
    apply Classical.byContradiction
    intro hn
    have : findV l p < 0 := findV_neg.2 fun f hf e => hn ⟨f, hf, e⟩
    omega
  · rintro ⟨f, hf, e⟩
    apply Classical.byContradiction
    intro hn
    exact findV_neg.1 (by omega) f hf e

theorem placeF_perm (f : Fl) : ∀ l : List Fl, (placeF f l).Perm (f :: l)
  | [] => .refl _
  | g :: r => by
    unfold placeF
    split
    · exact .refl _
    · exact ((placeF_perm f r).cons g).trans (List.Perm.swap f g r)
theorem mem_placeF {f g : Fl} {l : List Fl} : g ∈ placeF f l ↔ g = f ∨ g ∈ l := by rw [(placeF_perm f l).mem_iff]; simp
theorem placeF_len (f : Fl) (l : List Fl) : (placeF f l).length = l.length + 1 := by rw [(placeF_perm f l).length_eq]; simp
abbrev UpF (l : List Fl) : Prop := l.Pairwise (fun a b => keyP a.path < keyP b.path)
theorem placeF_up {f : Fl} : ∀ {l : List Fl}, UpF l → (∀ g ∈ l, keyP g.path ≠ keyP f.path) → UpF (placeF f l)
  | [], _, _ => by simp [placeF, UpF]
  | g :: r, h, hn => by
    obtain ⟨h1, h2⟩ := List.pairwise_cons.1 h
    unfold placeF
    have hne := hn g (by simp)
    split
    · rename_i hle
      refine List.pairwise_cons.2 ⟨fun x hx => ?_, h⟩
      rcases List.mem_cons.1 hx with rfl | hx
      · omega
      · have := h1 x hx; omega
    · rename_i hle
      refine List.pairwise_cons.2 ⟨fun x hx => ?_, placeF_up h2 fun x hx => hn x (by simp [hx])⟩
      rcases mem_placeF.1 hx with rfl | hx
      · omega
      · exact h1 x hx
theorem placeAll_cons (x : Fl) (xs l : List Fl) : placeAll (x :: xs) l = placeAll xs (placeF x l) := rfl
theorem placeAll_snoc (x : Fl) (xs l : List Fl) : placeAll (xs ++ [x]) l = placeF x (placeAll xs l) := by unfold placeAll; rw [List.foldl_append]; rfl
theorem placeAll_perm : ∀ (xs l : List Fl), (placeAll xs l).Perm (l ++ xs)
  | [], l => by rw [List.append_nil]; exact .refl _
  | x :: xs, l => by
    rw [placeAll_cons]
    refine (placeAll_perm xs _).trans (((placeF_perm x l).append_right xs).trans ?_)
    exact (List.perm_middle (a := x) (l₁ := l) (l₂ := xs)).symm
theorem placeAll_up : ∀ {xs l : List Fl}, UpF l → xs.Pairwise (fun a b => keyP a.path ≠ keyP b.path) → (∀ x ∈ xs, ∀ g ∈ l, keyP g.path ≠ keyP x.path) → UpF (placeAll xs l)
  | [], _, h, _, _ => h
  | x :: xs, l, h, hp, hn => by
    obtain ⟨h1, h2⟩ := List.pairwise_cons.1 hp
    rw [placeAll_cons]
    refine placeAll_up (placeF_up h (hn x (by simp))) h2 fun y hy g hg => ?_
    rcases mem_placeF.1 hg with rfl | hg
    · exact h1 y hy
    · exact hn y (by simp [hy]) g hg
/-- What is in order, and rising, is one list. -/
theorem upF_unique : ∀ {m n : List Fl}, m.Perm n → m.Pairwise (fun a b => keyP a.path ≤ keyP b.path) → UpF n → m = n
  | [], n, hp, _, _ => hp.nil_eq.symm ▸ rfl
  | a :: m, [], hp, _, _ => absurd hp.length_eq (by simp)
  | a :: m, b :: n, hp, hm, hn => by
    obtain ⟨h1, h2⟩ := List.pairwise_cons.1 hm
    obtain ⟨h3, h4⟩ := List.pairwise_cons.1 hn
    have hb : b ∈ a :: m := hp.mem_iff.2 (by simp)
    have ha : a ∈ b :: n := hp.mem_iff.1 (by simp)
    have hab : a = b := by
      rcases List.mem_cons.1 ha with h | h
      · exact h
      · have := h3 a h
        rcases List.mem_cons.1 hb with h' | h'
        · exact h'.symm
        · have := h1 b h'; omega
    subst hab
    rw [upF_unique (List.Perm.cons_inv hp) h2 h4]

/-- A change that was begun, and its files and names. -/
structure TxOk (t : Tx) : Prop where
  base : RightSn t.base
  ok : ∀ f ∈ t.adds, checkF f = 0
  dif : t.adds.Pairwise (fun a b => a.path ≠ b.path)
  rem : ∀ p ∈ t.removes, 0 ≤ findV t.base.files p
  nod : t.removes.Nodup
def beginT (s : Sn) : Tx := ⟨s, [], []⟩
theorem beginT_ok {s : Sn} (h : RightSn s) : TxOk (beginT s) :=
  ⟨h, fun _ h => (by cases h), List.Pairwise.nil, fun _ h => (by cases h), List.nodup_nil⟩
theorem addTE_zero {t : Tx} {f : Fl} (h : addTE t f = 0) : checkF { f with seq := 1 } = 0 ∧ ∀ g ∈ t.adds, g.path ≠ f.path := by
  unfold addTE at h
  split at h
  · rename_i h1; exact absurd h h1
  · rename_i h1
    split at h
    · cases h
    · rename_i h2
      exact ⟨Decidable.not_not.1 h1, findV_neg.1 (by omega)⟩
theorem addT_ok {t : Tx} (h : TxOk t) (f : Fl) : TxOk (addT t f) := by
  unfold addT
  split
  · rename_i h0
    obtain ⟨h1, h2⟩ := addTE_zero h0
    refine ⟨h.base, fun g hg => ?_, ?_, h.rem, h.nod⟩
    · rcases List.mem_append.1 hg with hg | hg
      · exact h.ok g hg
      · rw [List.mem_singleton.1 hg]; exact h1
    · refine List.pairwise_append.2 ⟨h.dif, by simp, fun a ha b hb => ?_⟩
      rw [List.mem_singleton.1 hb]
      exact h2 a ha
  · exact h
theorem remTE_zero {t : Tx} {p : Str} (h : remTE t p = 0) : 0 ≤ findV t.base.files p ∧ p ∉ t.removes := by
  unfold remTE at h
  split at h
  · cases h
  · rename_i h1
    split at h
    · cases h
    · rename_i h2
      exact ⟨by omega, h2⟩
theorem remT_ok {t : Tx} (h : TxOk t) (p : Str) : TxOk (remT t p) := by
  unfold remT
  split
  · rename_i h0
    obtain ⟨h1, h2⟩ := remTE_zero h0
    refine ⟨h.base, h.ok, h.dif, fun q hq => ?_, ?_⟩
    · rcases List.mem_append.1 hq with hq | hq
      · exact h.rem q hq
      · rw [List.mem_singleton.1 hq]; exact h1
    · exact List.nodup_append.2 ⟨h.nod, by simp, fun a ha b hb e => by
        rw [List.mem_singleton.1 hb] at e
        exact h2 (e ▸ ha)⟩
  · exact h
theorem addT_base (t : Tx) (f : Fl) : (addT t f).base = t.base := by unfold addT; split <;> rfl
theorem remT_base (t : Tx) (p : Str) : (remT t p).base = t.base := by unfold remT; split <;> rfl

theorem thereT_false {t : Tx} {now : List Fl} (h : thereT t now = false) : ∀ f ∈ t.adds, ∀ g ∈ now, g.path ≠ f.path := fun f hf => by
  have := List.any_eq_false.1 h f hf
  simp only [decide_eq_true_eq] at this
  exact findV_neg.1 (by omega)
theorem goneT_false {t : Tx} {now : List Fl} (h : goneT t now = false) : ∀ p ∈ t.removes, ∃ g ∈ now, g.path = p := fun p hp => by
  have := List.any_eq_false.1 h p hp
  simp only [decide_eq_true_eq] at this
  exact findV_pos.1 (by omega)
theorem newT_paths (t : Tx) (op : Str) (seq : Int) : (newT t op seq).map (·.path) = t.adds.map (·.path) := by
  unfold newT; rw [List.map_map]; rfl
theorem keptT_up {t : Tx} {now : List Fl} (h : RightL now) : UpF (keptT t now) := h.ris.filter _
theorem newT_dif {t : Tx} (h : TxOk t) (op : Str) (seq : Int) : (newT t op seq).Pairwise (fun a b => keyP a.path ≠ keyP b.path) := by
  unfold newT
  rw [List.pairwise_map]
  refine h.dif.imp_of_mem fun {a b} ha hb hne e => hne ?_
  exact keyP_inj (checkF_path (h.ok a ha)) (checkF_path (h.ok b hb)) e
theorem newT_off {t : Tx} {now : List Fl} (h : TxOk t) (hr : RightL now) (hn : thereT t now = false) (op : Str) (seq : Int) : ∀ x ∈ newT t op seq, ∀ g ∈ keptT t now, keyP g.path ≠ keyP x.path := by
  intro x hx g hg e
  obtain ⟨f, hf, rfl⟩ := List.mem_map.1 hx
  have hg' := (List.mem_filter.1 hg).1
  exact thereT_false hn f hf g hg' (keyP_inj (checkF_path (hr.ok g hg')) (checkF_path (h.ok f hf)) e)
theorem filesT_up {t : Tx} {now : List Fl} (h : TxOk t) (hr : RightL now) (hn : thereT t now = false) (op : Str) (seq : Int) : UpF (filesT t now op seq) :=
  placeAll_up (keptT_up hr) (newT_dif h op seq) (newT_off h hr hn op seq)
theorem filesT_perm (t : Tx) (now : List Fl) (op : Str) (seq : Int) : (filesT t now op seq).Perm (keptT t now ++ newT t op seq) := placeAll_perm _ _
/-- What the program sorts is what the document places. -/
theorem filesT_sorted {t : Tx} {now m : List Fl} (h : TxOk t) (hr : RightL now) (hn : thereT t now = false) (op : Str) (seq : Int) (hp : m.Perm (keptT t now ++ newT t op seq)) (hm : m.Pairwise (fun a b => keyP a.path ≤ keyP b.path)) : m = filesT t now op seq :=
  upF_unique (hp.trans (filesT_perm t now op seq).symm) hm (filesT_up h hr hn op seq)
/-- What is dropped one by one. -/
theorem drops_kept : ∀ (ps : List Str) (l : List Fl), ps.foldl dropF l = l.filter (fun f => !decide (f.path ∈ ps))
  | [], l => (List.filter_eq_self.2 fun _ _ => by simp).symm
  | p :: ps, l => by
    rw [List.foldl_cons, drops_kept ps, dropF, List.filter_filter]
    refine List.filter_congr fun f _ => ?_
    by_cases h : f.path = p <;> simp [h]
end Go.Proofs.YtmhchakjkgdpmaaGreatDoor
namespace Go.Proofs.YtmhchakjkgdpmaaGreatDoor
open Go.RowKit

theorem noPlace_eq_nil {er : Er} : er.noPlace = .nil ↔ er = .nil := by cases er <;> simp [Er.noPlace]
/-- A commit that was done. -/
theorem commit_nil {t : Tx} {now : Sn} {id day index : Int} (h : commitE t now id day index = .nil) :
    RightSn now ∧ goneT t now.files = false ∧ thereT t now.files = false ∧ RightSn (snapT t now id day index) ∧ commitS t now id day index = snapT t now id day index := by
  have hS : commitS t now id day index = snapT t now id day index := if_pos h
  unfold commitE at h
  split at h
  · rename_i h1; exact absurd h h1
  rename_i h1
  split at h
  · cases h
  rename_i h2
  split at h
  · cases h
  rename_i h3
  exact ⟨(snap_iff _).1 (Decidable.not_not.1 h1), by simpa using h2, by simpa using h3, (snap_iff _).1 (noPlace_eq_nil.1 h), hS⟩

theorem UpF.paths {l : List Fl} (h : UpF l) : (l.map (·.path)).Nodup := by
  unfold List.Nodup
  rw [List.pairwise_map]
  exact h.imp fun hlt e => by rw [e] at hlt; omega
theorem path_one {l : List Fl} (h : UpF l) {f g : Fl} (hf : f ∈ l) (hg : g ∈ l) (e : f.path = g.path) : f = g := by
  obtain ⟨i, hi, rfl⟩ := List.getElem_of_mem hf
  obtain ⟨j, hj, rfl⟩ := List.getElem_of_mem hg
  rcases Nat.lt_trichotomy i j with h1 | rfl | h1
  · have := List.pairwise_iff_getElem.1 h i j hi hj h1
    rw [e] at this; omega
  · rfl
  · have := List.pairwise_iff_getElem.1 h j i hj hi h1
    rw [e] at this; omega
/-- What a name finds in a rising list. -/
theorem find_one {l : List Fl} (h : UpF l) {f : Fl} (hf : f ∈ l) : ∃ k : Nat, findV l f.path = k ∧ l[k]? = some f := by
  have h0 : 0 ≤ findV l f.path := findV_pos.2 ⟨f, hf, rfl⟩
  unfold findV idxVal at *
  cases hi : l.findIdx? (fun g => g.path == f.path) with
  | none => rw [hi] at h0; simp at h0
  | some i =>
    obtain ⟨h1, h2, -⟩ := List.findIdx?_eq_some_iff_getElem.1 hi
    refine ⟨i, rfl, ?_⟩
    rw [List.getElem?_eq_getElem h1, path_one h (List.getElem_mem h1) hf (by simpa using h2)]
theorem kept_len {l : List Fl} {ps : List Str} (h : UpF l) (hn : ps.Nodup) (hs : ∀ p ∈ ps, ∃ g ∈ l, g.path = p) : (l.filter fun f => !decide (f.path ∈ ps)).length + ps.length = l.length := by
  have h1 : ((l.filter fun f => decide (f.path ∈ ps)).map (·.path)).Perm ps := by
    refine (List.perm_ext_iff_of_nodup ?_ hn).2 fun p => ?_
    · exact ((UpF.paths h).sublist ((List.filter_sublist (l := l)).map _))
    · simp only [List.mem_map, List.mem_filter, decide_eq_true_eq]
      constructor
      · rintro ⟨f, ⟨-, h2⟩, rfl⟩; exact h2
      · intro hp
        obtain ⟨g, hg, rfl⟩ := hs p hp
        exact ⟨g, ⟨hg, hp⟩, rfl⟩
  have h2 := h1.length_eq
  rw [List.length_map] at h2
  have h3 := (List.filter_append_perm (fun f : Fl => decide (f.path ∈ ps)) l).length_eq
  rw [List.length_append] at h3
  omega

/-- A path added by a change, or taken by it. -/
def addedT (t : Tx) : List Str := t.adds.map (·.path)
theorem mem_filesT {t : Tx} {now : List Fl} {op : Str} {seq : Int} {g : Fl} : g ∈ filesT t now op seq ↔ (g ∈ now ∧ g.path ∉ t.removes) ∨ g ∈ newT t op seq := by
  rw [(filesT_perm t now op seq).mem_iff, List.mem_append]
  unfold keptT
  simp [List.mem_filter]
theorem mem_newT_path {t : Tx} {op : Str} {seq : Int} {g : Fl} (h : g ∈ newT t op seq) : g.path ∈ addedT t := by
  have : g.path ∈ (newT t op seq).map (·.path) := List.mem_map_of_mem h
  rwa [newT_paths] at this
theorem mem_addedT {t : Tx} {op : Str} {seq : Int} {p : Str} (h : p ∈ addedT t) : ∃ g ∈ newT t op seq, g.path = p := by
  have : p ∈ (newT t op seq).map (·.path) := by rw [newT_paths]; exact h
  obtain ⟨g, hg, e⟩ := List.mem_map.1 this
  exact ⟨g, hg, e⟩
theorem filesT_len {t : Tx} {now : List Fl} {op : Str} {seq : Int} (h : TxOk t) (hr : RightL now) (hg : goneT t now = false) : (filesT t now op seq).length + t.removes.length = now.length + t.adds.length := by
  have h1 := (filesT_perm t now op seq).length_eq
  have h2 := kept_len (ps := t.removes) hr.ris h.nod (goneT_false hg)
  rw [List.length_append] at h1
  unfold keptT newT at h1
  rw [List.length_map] at h1
  omega

/-- KUNG and ROBINSON: two changes of one base, one behind the other. -/
structure TwoDone (base s : Sn) (t u : Tx) (id : Int) : Prop where
  parent : s.parent = id
  seq : s.seq = base.seq + 2
  check : snapCheck s = .nil
  kept : ∀ f ∈ base.files, ¬ (f.path ∈ t.removes ++ u.removes ∧ f.path ∈ addedT t ++ addedT u) → (f.path ∈ t.removes ++ u.removes ↔ findV s.files f.path < 0) ∧ (∀ k : Nat, findV s.files f.path = k → s.files[k]? = some f)
  added : ∀ p ∈ addedT t ++ addedT u, 0 ≤ findV s.files p
  len : s.files.length + (t.removes ++ u.removes).length = base.files.length + (addedT t ++ addedT u).length
theorem two_done {base : Sn} {t u : Tx} {id id2 day index : Int} (ht : TxOk t) (hu : TxOk u) (hub : u.base = base) (h1 : commitE t base id day index = .nil) (h2 : commitE u (commitS t base id day index) id2 day index = .nil) :
    TwoDone base (commitS u (commitS t base id day index) id2 day index) t u id := by
  obtain ⟨r1, g1, e1, q1, s1⟩ := commit_nil h1
  rw [s1] at h2 ⊢
  obtain ⟨r2, g2, e2, q2, s2⟩ := commit_nil h2
  rw [s2]
  have hF1 : (snapT t base id day index).files = filesT t base.files (opT t) (base.seq + 1) := rfl
  have hF2 : (snapT u (snapT t base id day index) id2 day index).files = filesT u (filesT t base.files (opT t) (base.seq + 1)) (opT u) (base.seq + 1 + 1) := rfl
  rw [hF1] at g2 e2
  have hup := filesT_up hu (hF1 ▸ r2.lst) e2 (opT u) (base.seq + 1 + 1)
  refine ⟨rfl, by show base.seq + 1 + 1 = _; omega, (snap_iff _).2 q2, fun f hf hna => ?_, fun p hp => ?_, ?_⟩
  · rw [hF2]
    by_cases hg : f.path ∈ t.removes ++ u.removes
    · have hnp : f.path ∉ addedT t ++ addedT u := fun h => hna ⟨hg, h⟩
      have hneg : findV (filesT u (filesT t base.files (opT t) (base.seq + 1)) (opT u) (base.seq + 1 + 1)) f.path < 0 := by
        refine findV_neg.2 fun g hgm e => ?_
        rcases mem_filesT.1 hgm with ⟨h3, h4⟩ | h3
        · rcases mem_filesT.1 h3 with ⟨h5, h6⟩ | h5
          · rw [e] at h4 h6
            rcases List.mem_append.1 hg with h | h
            · exact h6 h
            · exact h4 h
          · exact hnp (List.mem_append_left _ (e ▸ mem_newT_path h5))
        · exact hnp (List.mem_append_right _ (e ▸ mem_newT_path h3))
      exact ⟨⟨fun _ => hneg, fun _ => hg⟩, fun k hk => by omega⟩
    · have hmem : f ∈ filesT u (filesT t base.files (opT t) (base.seq + 1)) (opT u) (base.seq + 1 + 1) :=
        mem_filesT.2 (.inl ⟨mem_filesT.2 (.inl ⟨hf, fun h => hg (List.mem_append_left _ h)⟩), fun h => hg (List.mem_append_right _ h)⟩)
      obtain ⟨k, hk, hk2⟩ := find_one hup hmem
      refine ⟨⟨fun h => absurd h hg, fun h => by omega⟩, fun j hj => ?_⟩
      obtain rfl : j = k := by omega
      exact hk2
  · rw [hF2]
    rcases List.mem_append.1 hp with hp | hp
    · obtain ⟨g, hg, rfl⟩ := mem_addedT (op := opT t) (seq := base.seq + 1) hp
      have hg1 : g ∈ filesT t base.files (opT t) (base.seq + 1) := mem_filesT.2 (.inr hg)
      refine findV_pos.2 ⟨g, mem_filesT.2 (.inl ⟨hg1, fun hr => ?_⟩), rfl⟩
      obtain ⟨b, hb, e⟩ := findV_pos.1 (hub ▸ hu.rem _ hr)
      obtain ⟨f, hf, rfl⟩ := List.mem_map.1 hg
      exact thereT_false e1 f hf b hb e
    · obtain ⟨g, hg, rfl⟩ := mem_addedT (op := opT u) (seq := base.seq + 1 + 1) hp
      exact findV_pos.2 ⟨g, mem_filesT.2 (.inr hg), rfl⟩
  · rw [hF2]
    have l1 := filesT_len (op := opT t) (seq := base.seq + 1) ht r1.lst g1
    have l2 := filesT_len (op := opT u) (seq := base.seq + 1 + 1) hu (hF1 ▸ r2.lst) g2
    unfold addedT
    rw [List.length_append, List.length_append, List.length_map, List.length_map]
    omega
end Go.Proofs.YtmhchakjkgdpmaaGreatDoor
namespace Go.Proofs.YtmhchakjkgdpmaaGreatDoor
open Go.RowKit

/-- A cell of a block that was laid anew, later. -/
theorem newCell {w w6 : World} {cs : Array Value} {t : TypeId} (h : Below (w.alloc (.cells cs t)).heap.size (w.alloc (.cells cs t)) w6) (j : Nat) {x : Value} (hx : cs[j]? = some x) : w6.cell? ⟨w.heap.size, j, none⟩ = some x := by
  have h1 : (w.alloc (.cells cs t)).cell? ⟨w.heap.size, j, none⟩ = some x := by
    rw [cell_of_row (w.alloc _) w.heap.size _ _ t (0, 0) (heap_alloc_new w _)]; exact hx
  exact (h.cell (World.block_lt_of_cell? _ _ h1)).trans h1
abbrev snapV (s : Sn) (v : Value) : Value := .agg #[.int .i64 s.id, .int .i64 s.parent, .int .i64 s.seq, .int .i64 s.day, .int .i64 s.index, S s.op, v]
theorem snapCells {w w6 : World} {s : Sn} {v : Value} {t : TypeId} (h : Below (w.alloc (.cells #[.int .i64 s.id, .int .i64 s.parent, .int .i64 s.seq, .int .i64 s.day, .int .i64 s.index, S s.op, v] t)).heap.size (w.alloc (.cells #[.int .i64 s.id, .int .i64 s.parent, .int .i64 s.seq, .int .i64 s.day, .int .i64 s.index, S s.op, v] t)) w6) :
    w6.cell? ⟨w.heap.size, 0, none⟩ = some (.int .i64 s.id) ∧ w6.cell? ⟨w.heap.size, 1, none⟩ = some (.int .i64 s.parent) ∧ w6.cell? ⟨w.heap.size, 2, none⟩ = some (.int .i64 s.seq) ∧ w6.cell? ⟨w.heap.size, 3, none⟩ = some (.int .i64 s.day) ∧ w6.cell? ⟨w.heap.size, 4, none⟩ = some (.int .i64 s.index) ∧ w6.cell? ⟨w.heap.size, 5, none⟩ = some (S s.op) ∧ w6.cell? ⟨w.heap.size, 6, none⟩ = some v :=
  ⟨newCell h 0 rfl, newCell h 1 rfl, newCell h 2 rfl, newCell h 3 rfl, newCell h 4 rfl, newCell h 5 rfl, newCell h 6 rfl⟩

theorem strs_new (l : List Str) (w : World) (t : TypeId) (H n : Nat) (cs : Array Value) (hH : w.heap.size = H) (hcs : cs = (l.map S).toArray) (hn : l.length = n) (hm : n ≤ 100000) : StrsAt (w.alloc (.cells cs t)) (.slice (some ⟨H, 0, none⟩) n n) l := by
  subst hH hcs hn
  refine ⟨_, _, w.heap.size, 0, rfl, fun _ => rfl, Nat.le_refl _, by unfold maxLen; omega, fun k z hk j u hu => ?_⟩
  obtain rfl : j = 0 := by
    rcases Nat.eq_zero_or_pos j with h | h
    · exact h
    · rw [List.getElem?_eq_none (by simp; omega)] at hu; cases hu
  obtain rfl : S z = u := by simpa using hu
  rw [cell_of_row (w.alloc _) w.heap.size _ _ t (0, 0) (heap_alloc_new w _)]
  simp [hk]

theorem containsB_mem : ∀ (l : List Str) (x : Str), Lib.containsS (l.map fun s => (⟨s.toArray⟩ : ByteArray)) ⟨x.toArray⟩ = decide (x ∈ l) := by
  intro l x
  rw [Bool.eq_iff_iff]
  unfold Lib.containsS
  rw [decide_eq_true_eq, decide_eq_true_eq, Lib.idxOfS_nonneg_iff]
  simp
theorem containsS_any (v : Value) (l : List Str) (x : Str) (w : World) (hl : StrsAt w v l) (hn : l.length ≤ 100000) :
    Calls Tryz.prog 63 #[v, S x] w fun e w' => e = .returned (.bool (decide (x ∈ l))) ∧ w = w' := by
  obtain ⟨a, c, b, o, rfl, ha, hc, hcm, hx⟩ := hl
  by_cases h0 : 0 < l.length
  · obtain rfl := ha h0
    refine (Tryz.slices_Contains_string b o l.length c (l.map fun s => (⟨s.toArray⟩ : ByteArray)) ⟨x.toArray⟩ w (by simp) (by omega) (fun j hj => ?_)).mono ?_
    · have hj' : j < l.length := by simpa using hj
      have := hx j l[j] (by simp [hj']) 0 _ rfl
      simpa [List.getD, hj'] using this
    · rintro e w' ⟨rfl, rfl⟩
      refine ⟨?_, rfl⟩
      rw [List.take_of_length_le (by simp), containsB_mem]
  · have : l = [] := List.eq_nil_of_length_eq_zero (by omega)
    subst this
    refine (Tryz.slices_Contains_string_empty a c ⟨x.toArray⟩ w).mono ?_
    rintro e w' ⟨rfl, rfl⟩
    exact ⟨by simp, rfl⟩

theorem in_any (n lo hi : Int) (w : World) : Calls Tryz.prog 71 #[.int .i64 n, .int .i64 lo, .int .i64 hi] w fun e w' => e = .returned (.bool (inB n lo hi)) ∧ w = w' := by
  unfold inB
  by_cases h1 : lo ≤ n
  · by_cases h2 : n ≤ hi
    · rw [decide_eq_true h1, decide_eq_true h2]
      go_enter Tryz.func71, Tryz.ntmps71
      go_wp2_with fail
      go_ret
      exact ⟨rfl, rfl⟩
    · have g2 := decide_eq_false h2
      rw [decide_eq_true h1, g2]
      clear h2
      go_enter Tryz.func71, Tryz.ntmps71
      go_wp2_with fail
      go_ret
      exact ⟨rfl, rfl⟩
  · have g1 := decide_eq_false h1
    rw [g1]
    clear h1
    go_enter Tryz.func71, Tryz.ntmps71
    go_wp2_with fail
    go_ret
    exact ⟨rfl, rfl⟩

theorem snap_ways (s : Sn) : (snapBound s = true ∧ (inB s.id 1 1073741824 = false ∨ (inB s.id 1 1073741824 = true ∧ (s.parent < 0 ∨ (decide (s.parent < 0) = false ∧ (s.id ≤ s.parent ∨ (decide (s.id ≤ s.parent) = false ∧
    (inB s.seq 0 1073741824 = false ∨ (inB s.seq 0 1073741824 = true ∧ (inB s.day 0 100000 = false ∨ (inB s.day 0 100000 = true ∧ inB s.index 0 1073741824 = false))))))))))) ∨
    (snapBound s = false ∧ inB s.id 1 1073741824 = true ∧ decide (s.parent < 0) = false ∧ decide (s.id ≤ s.parent) = false ∧ inB s.seq 0 1073741824 = true ∧ inB s.day 0 100000 = true ∧ inB s.index 0 1073741824 = true) := by
  unfold snapBound
  cases inB s.id 1 1073741824 <;> cases inB s.seq 0 1073741824 <;> cases inB s.day 0 100000 <;> cases inB s.index 0 1073741824 <;> simp <;> omega

set_option maxHeartbeats 1000000 in
set_option maxRecDepth 20000 in
theorem snapCheck_any (E : Nat → Addr) (B : Nat) (s : Sn) (v : Value) (w : World) (hE : Errs [2, 4, 5, 8, 9] E B w) (hT : LNum B w) (hM : LMax B w) (hl : FilesAt w v s.files) (hs : ∀ x ∈ s.files, midF x) :
    Calls Tryz.prog 19 #[snapV s v] w fun e w' => ∃ ev, e = .returned ev ∧ ErV E w' ev (snapCheck s) ∧ Below w.heap.size w w' := by
  have hBw := hE.le
  have hif := isIfaceE
  have hSC : snapCheck s = if snapBound s = true then .bare 2 else if s.op ∉ kOps then .bare 4 else if listCheck s.files ≠ .nil then listCheck s.files else firstErr (seqFault s) s.files.length := rfl
  have HSC := Lib.hid hSC; clear hSC
  have Hs := Lib.hid hs; clear hs
  have hb0 : Below w.heap.size w (w.alloc (.cells #[.int .i64 s.id, .int .i64 s.parent, .int .i64 s.seq, .int .i64 s.day, .int .i64 s.index, S s.op, v] 24)) := (Below.refl _ _).alloc (Nat.le_refl _) _
  have CS := Lib.hid (fun w6 (h : Below (w.alloc (.cells #[.int .i64 s.id, .int .i64 s.parent, .int .i64 s.seq, .int .i64 s.day, .int .i64 s.index, S s.op, v] 24)).heap.size (w.alloc (.cells #[.int .i64 s.id, .int .i64 s.parent, .int .i64 s.seq, .int .i64 s.day, .int .i64 s.index, S s.op, v] 24)) w6) => snapCells h)
  have V2 := fun w6 (h : Below w.heap.size w w6) => (hE.below' h hBw).var 2 (by decide)
  have V4 := fun w6 (h : Below w.heap.size w w6) => (hE.below' h hBw).var 4 (by decide)
  have V9 := fun w6 (h : Below w.heap.size w w6) => (hE.below' h hBw).var 9 (by decide)
  simp only [errG] at V2 V4 V9
  have U2 := Lib.hid V2; have U4 := Lib.hid V4; have U9 := Lib.hid V9
  clear V2 V4 V9
  have v2 := U2.out _ hb0
  obtain ⟨c0, c1, c2, c3, c4, c5, c6⟩ := CS.out _ (Below.refl _ _)
  go_enter Tryz.func19, Tryz.ntmps19
  go_wp2_with fail
  generalize w.alloc (.cells #[.int .i64 s.id, .int .i64 s.parent, .int .i64 s.seq, .int .i64 s.day, .int .i64 s.index, S s.op, v] 24) = w0 at *
  rcases snap_ways s with ⟨hbd, hw⟩ | ⟨hbd, g1, g2, g3, g4, g5, g6⟩
  · have HC : Hid (snapCheck s = .bare 2) := Lib.hid (by rw [HSC.out, if_pos hbd])
    clear hbd
    rcases hw with g1 | ⟨g1, g2 | ⟨g2, g3 | ⟨g3, g4 | ⟨g4, g5 | ⟨g5, g6⟩⟩⟩⟩⟩
    all_goals
      refine (in_any _ _ _ _).mono ?_
      rintro e w' ⟨rfl, rfl⟩
      go_wp2_with (refine (in_any _ _ _ _).mono ?_; rintro e w' ⟨rfl, rfl⟩)
      go_ret
      exact ⟨_, rfl, by rw [HC.out]; exact ⟨by decide, rfl⟩, hb0⟩
  have hba : Below w0.heap.size w0 (w0.alloc (.cells #[S kStart, S kAppend, S kDelete, S kRewrite] 9)) := (Below.refl _ _).alloc (Nat.le_refl _) _
  have hops : StrsAt (w0.alloc (.cells #[S kStart, S kAppend, S kDelete, S kRewrite] 9)) (.slice (some ⟨w0.heap.size, 0, none⟩) 4 4) kOps := strs_new kOps w0 9 _ 4 _ rfl rfl rfl (by decide)
  have hbw := hb0.trans (hba.mono hb0.size)
  have k5 := (CS.out _ hba).2.2.2.2.2.1
  have v4 := U4.out _ hbw
  have hcn := containsS_any _ kOps s.op _ hops (by decide)
  refine (in_any _ _ _ _).mono ?_
  rintro e w' ⟨rfl, rfl⟩
  by_cases hop : s.op ∈ kOps
  case neg =>
    rw [decide_eq_false hop] at hcn
    have HCn := Lib.hid hcn
    have HC : Hid (snapCheck s = .bare 4) := Lib.hid (by rw [HSC.out, if_neg (by rw [hbd]; simp), if_pos hop])
    clear hop hbd hcn hops
    go_wp2_with (first | (go_at_call 71; refine (in_any _ _ _ _).mono ?_; rintro e w' ⟨rfl, rfl⟩) | (go_at_call 63; refine HCn.out.mono ?_; rintro e w' ⟨rfl, rfl⟩))
    go_ret
    exact ⟨_, rfl, by rw [HC.out]; exact ⟨by decide, rfl⟩, hbw⟩
  rw [decide_eq_true hop] at hcn
  have HCn := Lib.hid hcn
  have HC : Hid (snapCheck s = if listCheck s.files ≠ .nil then listCheck s.files else firstErr (seqFault s) s.files.length) := Lib.hid (by rw [HSC.out, if_neg (by rw [hbd]; simp), if_neg (fun h => h hop)])
  clear hop hbd hcn hops HSC
  go_wp2_with (first | (go_at_call 71; refine (in_any _ _ _ _).mono ?_; rintro e w' ⟨rfl, rfl⟩) | (go_at_call 63; refine HCn.out.mono ?_; rintro e w' ⟨rfl, rfl⟩; have k6 := (CS.out _ hba).2.2.2.2.2.2))
  clear HCn k5 v4 v2 c0 c1 c2 c3 c4 c5 c6 g1 g2 g3 g4 g5 g6
  generalize w0.alloc (.cells #[S kStart, S kAppend, S kDelete, S kRewrite] 9) = w1 at *
  refine (listCheck_any E B v s.files w1 (hE.below' hbw hBw) (hT.below' hbw hBw) (hM.below' hbw hBw) (hl.below hbw) Hs.out).mono ?_
  rintro e w2 ⟨ev, rfl, hev, hb2⟩
  have hb02 := hba.trans (hb2.mono hba.size)
  have hbw2 := hbw.trans (hb2.mono hbw.size)
  by_cases hck : listCheck s.files = .nil
  case neg =>
    obtain ⟨u, x, rfl⟩ := hev.iface hck
    have HC' : Hid (snapCheck s = listCheck s.files) := Lib.hid (by rw [HC.out, if_pos hck])
    have HEv := Lib.hid hev
    clear hck hev
    go_wp2_with fail
    go_ret
    exact ⟨_, rfl, by rw [HC'.out]; exact HEv.out, hbw2⟩
  rw [hck] at hev
  obtain rfl : ev = .nilIface := hev
  have HF : Hid (snapCheck s = firstErr (seqFault s) s.files.length) := Lib.hid (by rw [HC.out, if_neg (fun h => h hck)])
  clear hck HC
  obtain ⟨a, c, b, o, rfl, ha, hc, hcm, hx⟩ := hl
  unfold maxLen at hcm
  have k6 := (CS.out _ hb02).2.2.2.2.2.2
  obtain ⟨fl, hfl⟩ : ∃ fl, s.files = fl := ⟨_, rfl⟩
  rw [hfl] at hx ha hc k6 HF ⊢
  have HFl := Lib.hid hfl; clear hfl
  go_wp2_with fail
  clear k6
  go_loopw [58] (fun i wr => ∃ k : Nat, k ≤ fl.length ∧ i = .int .i64 k ∧ Hid (∀ j < k, seqFault s j = 0) ∧ Below w2.heap.size w2 wr) (fun i _ => fl.length - (intOf i).toNat)
  case atStart => exact ⟨0, by omega, rfl, Lib.hid fun j hj => absurd hj (by omega), Below.refl _ _⟩
  case round =>
    obtain ⟨k, hk, rfl, hj, hb⟩ := hrel
    have hb0r := hb02.trans (hb.mono hb02.size)
    have hbr := hbw2.trans (hb.mono hbw2.size)
    by_cases hlt : k < fl.length
    case neg =>
      obtain rfl : k = fl.length := by omega
      have f : decide ((fl.length : Int) < (fl.length : Int)) = false := by simp
      go_wp2_with fail
      go_ret
      exact ⟨_, rfl, by rw [HF.out, firstErr_all hj.out]; rfl, hbr⟩
    obtain ⟨x, hxk⟩ := get_ex hlt
    obtain ⟨c0, c1, c2, c3, c4, c5⟩ := flCells hx hbr hxk
    have i1 := idx_at (c := c) 6 Tryz.underlying22 szFl ha k hlt
    have hk1 : (k : Int) < (fl.length : Int) := by omega
    have hb3 : Below wr.heap.size wr (wr.alloc (.cells #[S x.path, S x.part, .int .i64 x.n, .int .i64 x.lo, .int .i64 x.hi, .int .i64 x.seq] 37)) := (Below.refl _ _).alloc (Nat.le_refl _) _
    have k2 := (CS.out _ (hb0r.trans (hb3.mono hb0r.size))).2.2.1
    have v9 := U9.out _ (hbr.trans (hb3.mono hbr.size))
    by_cases hsq : s.seq < x.seq
    · have hf : seqFault s k = 9 := by unfold seqFault; rw [HFl.out, hxk]; simp only; rw [if_pos hsq]
      have HL : Hid (snapCheck s = .loc 9 k) := Lib.hid (HF.out.trans ((firstErr_hit hlt hj.out (by rw [hf]; decide)).trans (by rw [hf])))
      clear hf hxk
      go_wp2_with fail
      go_ret
      exact ⟨_, rfl, by rw [HL.out]; exact ErV.fresh (by decide) _ _ _ _ (by simp), (hbr.trans (hb3.mono hbr.size)).alloc (hbr.trans (hb3.mono hbr.size)).size _⟩
    · have hf : seqFault s k = 0 := by unfold seqFault; rw [HFl.out, hxk]; simp only; rw [if_neg hsq]
      have Hf := Lib.hid hf
      have g : decide (s.seq < x.seq) = false := by simpa using hsq
      clear hf hxk hsq
      go_wp2_with fail
      refine ⟨⟨k + 1, by omega, by go_num, (Lib.hid fun j hj' => by
        rcases Nat.lt_or_ge j k with h | h
        · exact hj.out j h
        · obtain rfl : j = k := by omega
          exact Hf.out), hb.trans (hb3.mono hb.size)⟩, ?_⟩
      simp [intOf]; omega
end Go.Proofs.YtmhchakjkgdpmaaGreatDoor
