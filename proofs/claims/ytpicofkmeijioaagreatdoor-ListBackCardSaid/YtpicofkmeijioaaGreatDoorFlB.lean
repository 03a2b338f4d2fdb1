/- slices.BinarySearchFunc at []api.File; list.Find, Add, Remove. -/
import Derived.Test.YtpicofkmeijioaaGreatDoorFlL
import Derived.Test.YtpicofkmeijioaaGreatDoorFlS
import Derived.Deep.LoopGhost
namespace Go.Proofs.YtpicofkmeijioaaGreatDoor
open Go.RowKit

/-- A function value that compares a file with another one by their paths. -/
def CmpOn (f : FuncId) (caps : Array Value) (l : List Fl) (t : Fl) (base : Nat) (w0 : World) : Prop :=
  ∀ W x, x ∈ l → Below base w0 W → base ≤ W.heap.size → Calls Tryz.prog f (#[fileV x, fileV t] ++ caps) W fun e W' => e = .returned (.int .i64 (cmpP x.path t.path)) ∧ Below W.heap.size W W'

theorem placeAt_of {l : List Fl} {t : Fl} {k : Nat} (hk : k ≤ l.length) (h1 : ∀ (j : Nat) (y : Fl), j < k → l[j]? = some y → cmpP y.path t.path < 0) (h2 : ∀ (j : Nat) (y : Fl), k ≤ j → l[j]? = some y → 0 ≤ cmpP y.path t.path) : PlaceAt l t k :=
  ⟨hk, fun j g hj hg => cmpP_lt.1 (h1 j g hj hg), fun j g hj hg => by
    have := h2 j g hj hg
    have := @cmpP_lt g.path t.path
    omega⟩
theorem rising_low {l : List Fl} {t x : Fl} {m : Nat} (hr : l.Pairwise (fun a b => keyP a.path < keyP b.path)) (hm : l[m]? = some x) (hx : cmpP x.path t.path < 0) : ∀ (j : Nat) (y : Fl), j < m + 1 → l[j]? = some y → cmpP y.path t.path < 0 := by
  intro j y hj hy
  obtain ⟨a1, a2⟩ := List.getElem?_eq_some_iff.1 hm
  obtain ⟨b1, b2⟩ := List.getElem?_eq_some_iff.1 hy
  rcases Nat.lt_or_ge j m with h | h
  · have := List.pairwise_iff_getElem.1 hr j m b1 a1 h
    rw [a2, b2] at this
    rw [cmpP_lt] at hx ⊢
    omega
  · obtain rfl : j = m := by omega
    rw [hm] at hy
    obtain rfl := Option.some.inj hy
    exact hx
theorem rising_high {l : List Fl} {t x : Fl} {m : Nat} (hr : l.Pairwise (fun a b => keyP a.path < keyP b.path)) (hm : l[m]? = some x) (hx : 0 ≤ cmpP x.path t.path) : ∀ (j : Nat) (y : Fl), m ≤ j → l[j]? = some y → 0 ≤ cmpP y.path t.path := by
  intro j y hj hy
  obtain ⟨a1, a2⟩ := List.getElem?_eq_some_iff.1 hm
  obtain ⟨b1, b2⟩ := List.getElem?_eq_some_iff.1 hy
  rcases Nat.lt_or_ge m j with h | h
  · have := List.pairwise_iff_getElem.1 hr m j a1 b1 h
    rw [a2, b2] at this
    have h1 := @cmpP_lt x.path t.path
    have h2 := @cmpP_lt y.path t.path
    omega
  · obtain rfl : j = m := by omega
    rw [hm] at hy
    obtain rfl := Option.some.inj hy
    exact hx
set_option maxHeartbeats 1000000 in
set_option maxRecDepth 20000 in
theorem bsearchF_any (f : FuncId) (caps : Array Value) (t : Fl) (base : Nat) (w0 : World) (v : Value) (l : List Fl) (w : World) (hf : Clo Tryz.prog f) (hp : CmpOn f caps l t base w0)
    (hl : FilesAt w v l) (hn : l.length ≤ 100000) (hr : l.Pairwise (fun a b => keyP a.path < keyP b.path)) (hw : Below base w0 w) (hB : base ≤ w.heap.size) :
    Calls Tryz.prog 90 #[v, fileV t, .func (.func f) #[] caps] w fun e w' => ∃ k : Nat, e = .returned (.tuple #[.int .i64 k, .bool (decide (thereF l t))]) ∧ PlaceAt l t k ∧ Below w.heap.size w w' := by
  have hba : Below w.heap.size w (w.alloc (.cells #[S t.path, S t.part, .int .i64 t.n, .int .i64 t.lo, .int .i64 t.hi, .int .i64 t.seq] 50)) := (Below.refl _ _).alloc (Nat.le_refl _) _
  have hl := hl.below hba
  have hw := hw.trans (hba.mono hB)
  have hB := Nat.le_trans hB hba.size
  have CT := Lib.hid (fun w6 (h : Below (w.alloc (.cells #[S t.path, S t.part, .int .i64 t.n, .int .i64 t.lo, .int .i64 t.hi, .int .i64 t.seq] 50)).heap.size (w.alloc (.cells #[S t.path, S t.part, .int .i64 t.n, .int .i64 t.lo, .int .i64 t.hi, .int .i64 t.seq] 50)) w6) => fileCells rfl h)
  obtain ⟨a, c, b, o, rfl, ha, hc, hcm, hx⟩ := hl
  unfold maxLen at hcm
  have hf' := hf
  unfold Clo at hf'
  have HR := Lib.hid hr; clear hr
  have HT := Lib.hid hba
  go_enter Tryz.func90, Tryz.ntmps90
  go_wp2_with fail
  generalize w.alloc (.cells #[S t.path, S t.part, .int .i64 t.n, .int .i64 t.lo, .int .i64 t.hi, .int .i64 t.seq] 50) = w1 at *
  go_loopg [9, 10] l.length (fun kx s9 s10 wr => ∃ lo hi : Nat, s9 = .int .i64 lo ∧ s10 = .int .i64 hi ∧ lo ≤ hi ∧ hi ≤ l.length ∧ hi - lo ≤ kx ∧ Below w1.heap.size w1 wr ∧
    Hid ((∀ (j : Nat) (y : Fl), j < lo → l[j]? = some y → cmpP y.path t.path < 0) ∧ (∀ (j : Nat) (y : Fl), hi ≤ j → l[j]? = some y → 0 ≤ cmpP y.path t.path)))
  case atStart => exact ⟨0, l.length, rfl, rfl, Nat.zero_le _, Nat.le_refl _, by omega, Below.refl _ _, Lib.hid ⟨fun j y hj => absurd hj (Nat.not_lt_zero _), fun j y h1 h2 => by rw [List.getElem?_eq_none h1] at h2; cases h2⟩⟩
  case round =>
    obtain ⟨lo, hi, rfl, rfl, hlh, hin, hg, hb, I⟩ := hrel
    obtain ⟨d0, d1, d2, d3, d4, d5⟩ := CT.out wr hb
    by_cases hlt : lo < hi
    · obtain ⟨m, hm⟩ : ∃ m, (lo + hi) / 2 = m := ⟨_, rfl⟩
      obtain ⟨x, hxk⟩ := get_ex (l := l) (k := m) (by omega)
      obtain ⟨c0, c1, c2, c3, c4, c5⟩ := flCells hx hb hxk
      have i1 := idx_at (c := c) 6 Tryz.underlying28 szFl ha m (by omega)
      have hcast : ((lo : Int) + (hi : Int)) / 2 = (m : Int) := by omega
      have hpx := hp wr.drew x (List.mem_of_getElem? hxk) (hw.trans (hb.drew.mono hB)) (Nat.le_trans hB hb.size)
      have CX := Lib.hid (fun w6 (h : Below w1.heap.size w1 w6) => flCells hx h hxk)
      generalize hcv : cmpP x.path t.path = cv at hpx
      have Hp := Lib.hid hpx; clear hpx
      have Hx := Lib.hid hxk; clear hxk
      have Hc := Lib.hid hcv; clear hcv
      by_cases hyx : cv < 0
      · go_wp2_with fail
        go_region_held3 (fun w' => (w'.cell? ⟨b, o + m * 6, none⟩ = some (S x.path) ∧ w'.cell? ⟨b, o + m * 6 + 1, none⟩ = some (S x.part) ∧ w'.cell? ⟨b, o + m * 6 + 2, none⟩ = some (.int .i64 x.n) ∧ w'.cell? ⟨b, o + m * 6 + 3, none⟩ = some (.int .i64 x.lo) ∧ w'.cell? ⟨b, o + m * 6 + 4, none⟩ = some (.int .i64 x.hi) ∧ w'.cell? ⟨b, o + m * 6 + 5, none⟩ = some (.int .i64 x.seq)) ∧ w'.cell? ⟨w.heap.size, 0, none⟩ = some (S t.path) ∧ w'.cell? ⟨w.heap.size, 1, none⟩ = some (S t.part) ∧ w'.cell? ⟨w.heap.size, 2, none⟩ = some (.int .i64 t.n) ∧ w'.cell? ⟨w.heap.size, 3, none⟩ = some (.int .i64 t.lo) ∧ w'.cell? ⟨w.heap.size, 4, none⟩ = some (.int .i64 t.hi) ∧ w'.cell? ⟨w.heap.size, 5, none⟩ = some (.int .i64 t.seq)) (exact ⟨⟨c0, c1, c2, c3, c4, c5⟩, d0, d1, d2, d3, d4, d5⟩) (first | (go_at_fn f; refine Hp.out.mono ?_; rintro e w2 ⟨rfl, hb1⟩; have hb2 := hb.drew.trans (hb1.mono hb.size); clear c0 c1 c2 c3 c4 c5 d0 d1 d2 d3 d4 d5; obtain ⟨c0, c1, c2, c3, c4, c5⟩ := CX.out w2 hb2; obtain ⟨d0, d1, d2, d3, d4, d5⟩ := CT.out w2 hb2))
        go_wp2_with fail
        go_roundg (hi - (m + 1))
        case measure => omega
        case rel => exact ⟨m + 1, hi, by go_num, rfl, by omega, hin, Nat.le_refl _, hb2, Lib.hid ⟨rising_low HR.out Hx.out (by rw [Hc.out]; exact hyx), I.out.2⟩⟩
      · go_wp2_with fail
        go_region_held3 (fun w' => (w'.cell? ⟨b, o + m * 6, none⟩ = some (S x.path) ∧ w'.cell? ⟨b, o + m * 6 + 1, none⟩ = some (S x.part) ∧ w'.cell? ⟨b, o + m * 6 + 2, none⟩ = some (.int .i64 x.n) ∧ w'.cell? ⟨b, o + m * 6 + 3, none⟩ = some (.int .i64 x.lo) ∧ w'.cell? ⟨b, o + m * 6 + 4, none⟩ = some (.int .i64 x.hi) ∧ w'.cell? ⟨b, o + m * 6 + 5, none⟩ = some (.int .i64 x.seq)) ∧ w'.cell? ⟨w.heap.size, 0, none⟩ = some (S t.path) ∧ w'.cell? ⟨w.heap.size, 1, none⟩ = some (S t.part) ∧ w'.cell? ⟨w.heap.size, 2, none⟩ = some (.int .i64 t.n) ∧ w'.cell? ⟨w.heap.size, 3, none⟩ = some (.int .i64 t.lo) ∧ w'.cell? ⟨w.heap.size, 4, none⟩ = some (.int .i64 t.hi) ∧ w'.cell? ⟨w.heap.size, 5, none⟩ = some (.int .i64 t.seq)) (exact ⟨⟨c0, c1, c2, c3, c4, c5⟩, d0, d1, d2, d3, d4, d5⟩) (first | (go_at_fn f; refine Hp.out.mono ?_; rintro e w2 ⟨rfl, hb1⟩; have hb2 := hb.drew.trans (hb1.mono hb.size); clear c0 c1 c2 c3 c4 c5 d0 d1 d2 d3 d4 d5; obtain ⟨c0, c1, c2, c3, c4, c5⟩ := CX.out w2 hb2; obtain ⟨d0, d1, d2, d3, d4, d5⟩ := CT.out w2 hb2))
        go_wp2_with fail
        go_roundg (m - lo)
        case measure => omega
        case rel => exact ⟨lo, m, rfl, by go_num, by omega, by omega, Nat.le_refl _, hb2, Lib.hid ⟨I.out.1, rising_high HR.out Hx.out (by rw [Hc.out]; omega)⟩⟩
    · obtain rfl : hi = lo := by omega
      have hpl := placeAt_of hin I.out.1 I.out.2
      have HPL := Lib.hid hpl; clear hpl
      by_cases hn : hi < l.length
      · obtain ⟨x, hxk⟩ := get_ex hn
        obtain ⟨c0, c1, c2, c3, c4, c5⟩ := flCells hx hb hxk
        have i1 := idx_at (c := c) 6 Tryz.underlying28 szFl ha hi hn
        have hk1 : (hi : Int) < (l.length : Int) := by omega
        have hpx := hp wr.drew x (List.mem_of_getElem? hxk) (hw.trans (hb.drew.mono hB)) (Nat.le_trans hB hb.size)
        have CX := Lib.hid (fun w6 (h : Below w1.heap.size w1 w6) => flCells hx h hxk)
        have hth : thereF l t ↔ cmpP x.path t.path = 0 := (HPL.out.there HR.out).trans ⟨fun ⟨g, h1, h2⟩ => by
          rw [hxk] at h1
          obtain rfl := Option.some.inj h1
          exact h2, fun h => ⟨x, hxk, h⟩⟩
        generalize cmpP x.path t.path = cv at hpx hth
        have Hp := Lib.hid hpx; clear hpx
        have Hx := Lib.hid hxk; clear hxk
        by_cases hyx : cv = 0
        · have hd := decide_eq_true (hth.2 hyx)
          have HD := Lib.hid hd; clear hd hth
          go_wp2_with fail
          go_region_held3 (fun w' => (w'.cell? ⟨b, o + hi * 6, none⟩ = some (S x.path) ∧ w'.cell? ⟨b, o + hi * 6 + 1, none⟩ = some (S x.part) ∧ w'.cell? ⟨b, o + hi * 6 + 2, none⟩ = some (.int .i64 x.n) ∧ w'.cell? ⟨b, o + hi * 6 + 3, none⟩ = some (.int .i64 x.lo) ∧ w'.cell? ⟨b, o + hi * 6 + 4, none⟩ = some (.int .i64 x.hi) ∧ w'.cell? ⟨b, o + hi * 6 + 5, none⟩ = some (.int .i64 x.seq)) ∧ w'.cell? ⟨w.heap.size, 0, none⟩ = some (S t.path) ∧ w'.cell? ⟨w.heap.size, 1, none⟩ = some (S t.part) ∧ w'.cell? ⟨w.heap.size, 2, none⟩ = some (.int .i64 t.n) ∧ w'.cell? ⟨w.heap.size, 3, none⟩ = some (.int .i64 t.lo) ∧ w'.cell? ⟨w.heap.size, 4, none⟩ = some (.int .i64 t.hi) ∧ w'.cell? ⟨w.heap.size, 5, none⟩ = some (.int .i64 t.seq)) (exact ⟨⟨c0, c1, c2, c3, c4, c5⟩, d0, d1, d2, d3, d4, d5⟩) (first | (go_at_fn f; refine Hp.out.mono ?_; rintro e w2 ⟨rfl, hb1⟩; have hb2 := hb.drew.trans (hb1.mono hb.size); clear c0 c1 c2 c3 c4 c5 d0 d1 d2 d3 d4 d5; obtain ⟨c0, c1, c2, c3, c4, c5⟩ := CX.out w2 hb2; obtain ⟨d0, d1, d2, d3, d4, d5⟩ := CT.out w2 hb2))
          go_wp2_with fail
          go_ret2
          exact ⟨hi, by rw [HD.out]; rfl, HPL.out, HT.out.trans ((hb2).mono HT.out.size)⟩
        · have e0 : (cv == 0) = false := by simpa using hyx
          have hd := decide_eq_false (fun h => hyx (hth.1 h))
          have HD := Lib.hid hd; clear hd hth
          go_wp2_with fail
          go_region_held3 (fun w' => (w'.cell? ⟨b, o + hi * 6, none⟩ = some (S x.path) ∧ w'.cell? ⟨b, o + hi * 6 + 1, none⟩ = some (S x.part) ∧ w'.cell? ⟨b, o + hi * 6 + 2, none⟩ = some (.int .i64 x.n) ∧ w'.cell? ⟨b, o + hi * 6 + 3, none⟩ = some (.int .i64 x.lo) ∧ w'.cell? ⟨b, o + hi * 6 + 4, none⟩ = some (.int .i64 x.hi) ∧ w'.cell? ⟨b, o + hi * 6 + 5, none⟩ = some (.int .i64 x.seq)) ∧ w'.cell? ⟨w.heap.size, 0, none⟩ = some (S t.path) ∧ w'.cell? ⟨w.heap.size, 1, none⟩ = some (S t.part) ∧ w'.cell? ⟨w.heap.size, 2, none⟩ = some (.int .i64 t.n) ∧ w'.cell? ⟨w.heap.size, 3, none⟩ = some (.int .i64 t.lo) ∧ w'.cell? ⟨w.heap.size, 4, none⟩ = some (.int .i64 t.hi) ∧ w'.cell? ⟨w.heap.size, 5, none⟩ = some (.int .i64 t.seq)) (exact ⟨⟨c0, c1, c2, c3, c4, c5⟩, d0, d1, d2, d3, d4, d5⟩) (first | (go_at_fn f; refine Hp.out.mono ?_; rintro e w2 ⟨rfl, hb1⟩; have hb2 := hb.drew.trans (hb1.mono hb.size); clear c0 c1 c2 c3 c4 c5 d0 d1 d2 d3 d4 d5; obtain ⟨c0, c1, c2, c3, c4, c5⟩ := CX.out w2 hb2; obtain ⟨d0, d1, d2, d3, d4, d5⟩ := CT.out w2 hb2))
          go_wp2_with fail
          go_ret2
          exact ⟨hi, by rw [HD.out]; rfl, HPL.out, HT.out.trans ((hb2).mono HT.out.size)⟩
      · have hd : decide (thereF l t) = false := decide_eq_false fun h => by
          obtain ⟨g, h1, -⟩ := (HPL.out.there HR.out).1 h
          rw [List.getElem?_eq_none (by omega)] at h1
          cases h1
        have HD := Lib.hid hd; clear hd
        obtain rfl : hi = l.length := by omega
        go_wp2_with fail
        go_quiet (fail)
        go_wp2_with fail
        go_ret2
        exact ⟨l.length, by rw [HD.out]; rfl, HPL.out, Bdn (HT.out.trans (hb.mono HT.out.size)) _⟩

theorem find1_any (x : Fl) (p : Str) (ad : Addr) (w : World) (h1 : w.cell? ad = some (S p)) :
    Calls Tryz.prog 95 #[fileV x, .pointer (some ad)] w fun e w' => e = .returned (.bool (x.path == p)) ∧ Below w.heap.size w w' := by
  have h1' : (w.alloc (fileO x)).cell? ad = some (S p) := (((Below.refl w.heap.size w).alloc (Nat.le_refl _) (fileO x)).cell (World.block_lt_of_cell? w _ h1)).trans h1
  have hb : Below w.heap.size w (w.alloc (fileO x)) := (Below.refl _ _).alloc (Nat.le_refl _) _
  go_enter Tryz.func95, Tryz.ntmps95
  go_wp2_with fail
  go_ret
  exact ⟨rfl, hb⟩
theorem clo_find1 : Clo Tryz.prog 95 := fun _ _ => by kernel_rfl
def findV (l : List Fl) (p : Str) : Int := idxVal (fun f => f.path == p) l
theorem listFind_any (v : Value) (l : List Fl) (p : Str) (w : World) (hl : FilesAt w v l) :
    Calls Tryz.prog 37 #[v, S p] w fun e w' => e = .returned (.int .i64 (findV l p)) ∧ Below w.heap.size w w' := by
  obtain ⟨a, c, rfl, -, -⟩ := hl.form'
  have hba : Below w.heap.size w (w.alloc (.cells #[S p] 9)) := (Below.refl _ _).alloc (Nat.le_refl _) _
  have c0 : (w.alloc (.cells #[S p] 9)).cell? ⟨w.heap.size, 0, none⟩ = some (S p) := by simp
  have Hl := Lib.hid (hl.below hba)
  go_enter Tryz.func37, Tryz.ntmps37
  go_wp2_with fail
  refine (indexFuncF_any _ _ (fun f => f.path == p) _ _ _ l _ clo_find1 ?_ Hl.out (Below.refl _ _) (Nat.le_refl _)).mono ?_
  · intro W x hx hbW hle
    exact find1_any x p _ W ((hbW.cell (World.block_lt_of_cell? _ _ c0)).trans c0)
  · rintro e w1 ⟨rfl, hb1⟩
    go_wp2_with fail
    go_ret
    exact ⟨rfl, hba.trans (hb1.mono hba.size)⟩

theorem add1_any (E : Nat → Addr) (B : Nat) (x y : Fl) (w : World) (hE : Errs [5] E B w) (hT : LNum B w) (hM : LMax B w) (hx : midF x) (hy : midF y) :
    Calls Tryz.prog 91 #[fileV x, fileV y] w fun e w' => e = .returned (.int .i64 (cmpP x.path y.path)) ∧ Below w.heap.size w w' := by
  have hba : Below w.heap.size w ((w.alloc (fileO x)).alloc (fileO y)) := ((Below.refl _ _).alloc (Nat.le_refl _) _).alloc (by simp) _
  have hC := listCompare_any E B x.path y.path ((w.alloc (fileO x)).alloc (fileO y)) (hE.below' hba hE.le) (hT.below' hba hT.le) (hM.below' hba hM.le) (by have := hx.1; omega) (by have := hy.1; omega)
  have HC := Lib.hid hC; clear hC
  go_enter Tryz.func91, Tryz.ntmps91
  go_wp2_with fail
  refine HC.out.mono ?_
  rintro e w1 ⟨rfl, hb1⟩
  go_wp2_with fail
  go_ret
  exact ⟨rfl, hba.trans (hb1.mono hba.size)⟩
theorem clo_add1 : Clo Tryz.prog 91 := fun _ _ => by kernel_rfl
end Go.Proofs.YtpicofkmeijioaaGreatDoor
