/- list.Check. -/
import Derived.Test.YtpicofkmeijioaaGreatDoorFlN
import Derived.Test.YtpicofkmeijioaaGreatDoorFlG
import Derived.Deep.RegionHeld3
namespace Go.Proofs.YtpicofkmeijioaaGreatDoor
open Go.RowKit

set_option maxHeartbeats 1000000 in
set_option maxRecDepth 20000 in
theorem listCheck_any (E : Nat → Addr) (B : Nat) (v : Value) (l : List Fl) (w : World) (hE : Errs [2, 4, 5, 8, 9] E B w) (hT : LNum B w) (hM : LMax B w) (hl : FilesAt w v l) (hs : ∀ f ∈ l, midF f) :
    Calls Tryz.prog 36 #[v] w fun e w' => ∃ ev, e = .returned ev ∧ ErV E w' ev (listCheck l) ∧ Below w.heap.size w w' := by
  obtain ⟨a, c, b, o, rfl, ha, hc, hcm, hx⟩ := hl
  unfold maxLen at hcm
  have hif := isIfaceE
  have hBw := hE.le
  by_cases h60 : 60 < l.length
  · have g : (60 : Int) < (l.length : Int) := by omega
    have v8 := hE.var 8 (by decide)
    simp only [errG] at v8
    have HF : Hid (listCheck l = .bare 8) := Lib.hid (if_pos h60)
    go_enter Tryz.func36, Tryz.ntmps36
    go_wp2_with fail
    go_ret
    exact ⟨_, rfl, by rw [HF.out]; exact ⟨by decide, rfl⟩, Below.refl _ _⟩
  have g60 : (l.length : Int) ≤ 60 := by omega
  have HF : Hid (listCheck l = firstErr (fileFault l) l.length) := Lib.hid (if_neg h60)
  clear h60
  have V0 := fun w6 (h : Below w.heap.size w w6) => (hE.below' h hBw).var 9 (by decide)
  simp only [errG] at V0
  have V := Lib.hid V0
  clear V0
  have Hs := Lib.hid hs
  clear hs
  go_enter Tryz.func36, Tryz.ntmps36
  go_wp2_with fail
  go_loopw [12] (fun i wr => ∃ k : Nat, k ≤ l.length ∧ i = .int .i64 k ∧ Hid (∀ j < k, fileFault l j = 0) ∧ Below w.heap.size w wr) (fun i _ => l.length - (intOf i).toNat)
  case atStart => exact ⟨0, by omega, rfl, Lib.hid fun j hj => absurd hj (by omega), Below.refl _ _⟩
  case round =>
    obtain ⟨k, hk, rfl, hj, hb⟩ := hrel
    by_cases hlt : k < l.length
    case neg =>
      obtain rfl : k = l.length := by omega
      have f : decide ((l.length : Int) < (l.length : Int)) = false := by simp
      go_wp2_with fail
      go_ret
      exact ⟨_, rfl, by rw [HF.out, firstErr_all hj.out]; rfl, hb⟩
    obtain ⟨x, hxk⟩ := get_ex hlt
    obtain ⟨c0, c1, c2, c3, c4, c5⟩ := flCells hx hb hxk
    have i1 := idx_at (c := c) 6 Tryz.underlying28 szFl ha k hlt
    have hk1 : (k : Int) < (l.length : Int) := by omega
    have hsx := Hs.out x (List.mem_of_getElem? hxk)
    have Hx := Lib.hid hxk; clear hxk
    have hb0 : Below w.heap.size w (wr.alloc (.cells #[S x.path, S x.part, .int .i64 x.n, .int .i64 x.lo, .int .i64 x.hi, .int .i64 x.seq] 50)) := hb.alloc hb.size _
    have Cs := Lib.hid (fun w6 (h : Below (wr.alloc (.cells #[S x.path, S x.part, .int .i64 x.n, .int .i64 x.lo, .int .i64 x.hi, .int .i64 x.seq] 50)).heap.size (wr.alloc (.cells #[S x.path, S x.part, .int .i64 x.n, .int .i64 x.lo, .int .i64 x.hi, .int .i64 x.seq] 50)) w6) => (fileCells rfl h).1)
    go_wp2_with fail
    generalize wr.alloc (.cells #[S x.path, S x.part, .int .i64 x.n, .int .i64 x.lo, .int .i64 x.hi, .int .i64 x.seq] 50) = w1 at *
    refine (fileCheck_any E B x _ ((hE.sub (by decide)).below' hb0 hBw) (hT.below' hb0 hBw) (hM.below' hb0 hBw) hsx).mono ?_
    rintro e w2 ⟨ev, rfl, hev, hb2⟩
    have p0 := Cs.out w2 hb2
    have hb2' := hb0.trans (hb2.mono hb0.size)
    clear c0 c1 c2 c3 c4 c5 i1 Cs
    by_cases hck : checkF x = 0
    case neg =>
      have hf : fileFault l k = checkF x := by unfold fileFault; rw [Hx.out]; simp only; rw [if_pos hck]
      have hfe : fileEr x = .bare (checkF x) := fileEr_bad rfl hck
      rw [hfe] at hev
      obtain ⟨hcr, rfl⟩ := hev
      have HK := Lib.hid hck
      have Hf := Lib.hid hf
      have HL : Hid (listCheck l = .loc (checkF x) k) := Lib.hid (HF.out.trans ((firstErr_hit hlt hj.out (by rw [hf]; exact hck)).trans (by rw [hf])))
      clear hf hfe hck
      generalize checkF x = cx at *
      go_wp2_with fail
      go_quiet (fail)
      go_wp2_with fail
      go_ret
      exact ⟨_, rfl, by rw [HL.out]; exact ErV.fresh hcr _ _ _ _ rfl, (Bdn hb2' _).alloc hb2'.size _⟩
    have hfe := fileEr_nil hck
    rw [hfe] at hev
    obtain rfl : ev = .nilIface := hev
    have HK := Lib.hid hck
    clear hck hfe
    by_cases h0 : k = 0
    · have hf : fileFault l k = 0 := by unfold fileFault; rw [Hx.out]; simp only; rw [if_neg (by simp [HK.out]), if_neg (by simp [h0])]
      have gk : decide (0 < k) = false := by simp [h0]
      have Hf := Lib.hid hf
      have H0 := Lib.hid h0
      clear hf h0
      go_wp2_with fail
      go_quiet (fail)
      go_wp2_with fail
      go_roundw
      case rel => exact ⟨k + 1, by omega, by go_num, (Lib.hid fun j hj' => by
        obtain rfl : j = k := by have := H0.out; omega
        exact Hf.out), Bdn hb2' _⟩
      case measure => simp [intOf]; omega
    obtain ⟨y, hyk⟩ := get_ex (l := l) (k := k - 1) (by omega)
    have hsy := Hs.out y (List.mem_of_getElem? hyk)
    obtain ⟨d0, -⟩ := flCells hx hb2' hyk
    have i2 := idx_at (c := c) 6 Tryz.underlying28 szFl ha (k - 1) (by omega)
    have hcast : ((k - 1 : Nat) : Int) = (k : Int) - 1 := by omega
    simp only [hcast] at i2
    have hk0 : 0 < k := by omega
    have gk : decide (0 < k) = true := decide_eq_true hk0
    have hk01 : (1 : Int) ≤ k := by omega
    have hk02 : (0 : Int) ≤ (k : Int) - 1 := by omega
    have hk03 : (k : Int) - 1 < l.length := by omega
    have Hy := Lib.hid hyk
    clear hyk hcast h0
    have hb2d := hb2'.drew
    have hwk : IntKind.i64.wrap ((k : Int) - 1) = (k : Int) - 1 := by rw [IntKind.wrap_i64]; omega
    have hC := listCompare_any E B x.path y.path w2.drew ((hE.sub (by decide)).below' hb2d hBw) (hT.below' hb2d hBw) (hM.below' hb2d hBw) (by have := hsx.1; omega) (by have := hsy.1; omega)
    obtain ⟨cv, hcv⟩ : ∃ cv, cmpP x.path y.path = cv := ⟨_, rfl⟩
    rw [hcv] at hC
    have HC := Lib.hid hC
    clear hC
    by_cases hle : cv ≤ 0
    · have hf : fileFault l k = 9 := by
        unfold fileFault; rw [Hx.out]; simp only
        rw [if_neg (by simp [HK.out]), if_pos ⟨hk0, y, Hy.out, by rw [hcv]; exact hle⟩]
      have HL : Hid (listCheck l = .loc 9 k) := Lib.hid (HF.out.trans ((firstErr_hit hlt hj.out (by rw [hf]; decide)).trans (by rw [hf])))
      clear hf hcv
      go_wp2_with fail
      go_region_held3 (fun w' => w'.cell? ⟨wr.heap.size, 0, none⟩ = some (S x.path) ∧ w'.cell? ⟨b, o + (k - 1) * 6, none⟩ = some (S y.path)) (exact ⟨p0, d0⟩) (first | (go_at_call 88; refine HC.out.mono ?_; rintro e w3 ⟨rfl, hb3⟩; have hb3' := hb2d.trans (hb3.mono hb2d.size); have q0 := (hb3.cell (World.block_lt_of_cell? w2 _ p0)).trans p0; have e0 := (hb3.cell (World.block_lt_of_cell? w2 _ d0)).trans d0; clear p0 d0; have p0 := q0; have d0 := e0; have v9 := V.out _ hb3'))
      go_wp2_with fail
      go_ret
      exact ⟨_, rfl, by rw [HL.out]; exact ErV.fresh (by decide) _ _ _ _ rfl, hb3'.alloc hb3'.size _⟩
    · have hf : fileFault l k = 0 := by
        unfold fileFault; rw [Hx.out]; simp only
        rw [if_neg (by simp [HK.out]), if_neg]
        rintro ⟨_, g, hg, hle'⟩
        rw [Hy.out] at hg
        obtain rfl := Option.some.inj hg
        rw [hcv] at hle'
        exact hle hle'
      have Hf := Lib.hid hf
      have hgt : 0 < cv := by omega
      clear hf hcv hle
      go_wp2_with fail
      go_region_held3 (fun w' => w'.cell? ⟨wr.heap.size, 0, none⟩ = some (S x.path) ∧ w'.cell? ⟨b, o + (k - 1) * 6, none⟩ = some (S y.path)) (exact ⟨p0, d0⟩) (first | (go_at_call 88; refine HC.out.mono ?_; rintro e w3 ⟨rfl, hb3⟩; have hb3' := hb2d.trans (hb3.mono hb2d.size); have q0 := (hb3.cell (World.block_lt_of_cell? w2 _ p0)).trans p0; have e0 := (hb3.cell (World.block_lt_of_cell? w2 _ d0)).trans d0; clear p0 d0; have p0 := q0; have d0 := e0))
      go_wp2_with fail
      go_roundw
      case rel => exact ⟨k + 1, by omega, by go_num, (Lib.hid fun j hj' => by
        rcases Nat.lt_or_ge j k with h | h
        · exact hj.out j h
        · obtain rfl : j = k := by omega
          exact Hf.out), hb3'⟩
      case measure => simp [intOf]; omega
end Go.Proofs.YtpicofkmeijioaaGreatDoor
