/- file.Check; list.Compare; list.Check. cmp.Or at int; list.Compare. A function value that answers by a plain predicate. The library's generic functions at []api.File: IndexFunc, Clone, Delete, Insert, BinarySearchFunc. list.Check. strings.Builder: WriteString and String, laid at this program by hand (the tool passes over copyCheck, whose body here names no text). file.Text; list.Text. data.Head, data.Whole, data.Fits: the walks; slices.Min, slices.Max, strings.Join as they use them. slices.Grow at the nil slice of texts, slices.Concat of two slices of texts; strings.Cut by one byte. file.Read: the walk. Rows in memory; row.Name, row.Check, row.Text. part.spec, Check, floor, name, Of: the walks. list.Read: the walk. data.Split, data.Each, data.Fits: the walks. data.Fits: the walk. -/
import Derived.Test.YtpfohfihkmjnaaaGreatDoorPk5
import Derived.Outline
import Derived.Test.YtpfohfihkmjnaaaGreatDoorPk1
import Derived.Deep.RegionHeld3
import Derived.Test.YtpfohfihkmjnaaaGreatDoorPk2
import Derived.Shelf.Strings.Builder1
import Derived.Test.YtpfohfihkmjnaaaGreatDoorPk4
import Derived.BigQuiet
namespace Go.Proofs.YtpfohfihkmjnaaaGreatDoor
open Go.RowKit
theorem fileCells {w w1 w6 : World} {f : Fl} (hw : w1 = w.alloc (fileO f)) (h6 : Below w1.heap.size w1 w6) :
    w6.cell? ⟨w.heap.size, 0, none⟩ = some (S f.path) ∧ w6.cell? ⟨w.heap.size, 1, none⟩ = some (S f.part) ∧ w6.cell? ⟨w.heap.size, 2, none⟩ = some (.int .i64 f.n) ∧ w6.cell? ⟨w.heap.size, 3, none⟩ = some (.int .i64 f.lo) ∧ w6.cell? ⟨w.heap.size, 4, none⟩ = some (.int .i64 f.hi) ∧ w6.cell? ⟨w.heap.size, 5, none⟩ = some (.int .i64 f.seq) := by
  subst hw
  have h := heap_alloc_new w (.cells #[S f.path, S f.part, .int .i64 f.n, .int .i64 f.lo, .int .i64 f.hi, .int .i64 f.seq] 43)
  have h' := (h6.block w.heap.size (by simp)).trans h
  refine ⟨?_, ?_, ?_, ?_, ?_, ?_⟩ <;> (rw [cell_of_row w6 _ _ _ _ (0, 0) h']; rfl)
/-- A file's error. -/
def fileEr (f : Fl) : Er := if checkF f = 0 then .nil else .bare (checkF f)
theorem fileEr_nil {f : Fl} (h : checkF f = 0) : fileEr f = .nil := if_pos h
theorem fileEr_bad {f : Fl} {c : Nat} (h : checkF f = c) (h0 : c ≠ 0) : fileEr f = .bare c := by unfold fileEr; rw [if_neg (by omega), h]
theorem checkF_none {f : Fl} (h : pathF f.path = none) : checkF f = 5 := by unfold checkF; rw [if_pos h]
theorem checkF_part {f : Fl} {kn} (h : pathF f.path = some kn) (h2 : partOk (kindF f.path) f.part = false) : checkF f = 4 := by unfold checkF; rw [if_neg (by rw [h]; simp), if_pos h2]
theorem checkF_bound {f : Fl} {kn} (h : pathF f.path = some kn) (h2 : partOk (kindF f.path) f.part = true) (h3 : boundF f) : checkF f = 2 := by unfold checkF; rw [if_neg (by rw [h]; simp), if_neg (by rw [h2]; decide), if_pos h3]
theorem checkF_right {f : Fl} {kn} (h : pathF f.path = some kn) (h2 : partOk (kindF f.path) f.part = true) (h3 : ¬ boundF f) : checkF f = 0 := by unfold checkF; rw [if_neg (by rw [h]; simp), if_neg (by rw [h2]; decide), if_neg h3]
set_option maxHeartbeats 2000000 in
set_option maxRecDepth 20000 in
theorem fileCheck_any (E : Nat → Addr) (B : Nat) (f : Fl) (w : World) (hE : Errs [2, 4, 5] E B w) (hT : LNum B w) (hM : LMax B w) (hs : midF f) :
    Calls Tryz.prog 89 #[fileV f] w fun e w' => ∃ ev, e = .returned ev ∧ ErV E w' ev (fileEr f) ∧ Below w.heap.size w w' := by
  have hBw := hE.le
  obtain ⟨hs1, hs2⟩ := hs
  have hb0 : Below w.heap.size w (w.alloc (.cells #[S f.path, S f.part, .int .i64 f.n, .int .i64 f.lo, .int .i64 f.hi, .int .i64 f.seq] 43)) := (Below.refl _ _).alloc (Nat.le_refl _) _
  have Cs := Lib.hid (fun w6 (h : Below (w.alloc (.cells #[S f.path, S f.part, .int .i64 f.n, .int .i64 f.lo, .int .i64 f.hi, .int .i64 f.seq] 43)).heap.size (w.alloc (.cells #[S f.path, S f.part, .int .i64 f.n, .int .i64 f.lo, .int .i64 f.hi, .int .i64 f.seq] 43)) w6) => fileCells rfl h)
  have hE1 := hE.below' hb0 hE.le; have hT1 := hT.below' hb0 hE.le; have hM1 := hM.below' hb0 hE.le
  have V0 := fun w6 (h : Below (w.alloc (.cells #[S f.path, S f.part, .int .i64 f.n, .int .i64 f.lo, .int .i64 f.hi, .int .i64 f.seq] 43)).heap.size (w.alloc (.cells #[S f.path, S f.part, .int .i64 f.n, .int .i64 f.lo, .int .i64 f.hi, .int .i64 f.seq] 43)) w6) => (⟨(hE1.below' h hE1.le).var 2 (by decide), (hE1.below' h hE1.le).var 4 (by decide)⟩ : _ ∧ _)
  simp only [errG] at V0
  have V := Lib.hid V0
  clear V0
  obtain ⟨c0, c1, c2, c3, c4, c5⟩ := Cs.out _ (Below.refl _ _)
  go_enter Tryz.func89, Tryz.ntmps89
  go_wp2_with fail
  generalize w.alloc (.cells #[S f.path, S f.part, .int .i64 f.n, .int .i64 f.lo, .int .i64 f.hi, .int .i64 f.seq] 43) = w1 at *
  refine (fileNumber_any E B f.path _ (hE1.sub (by decide)) hT1 hM1 (by omega)).mono ?_
  rintro e w2 ⟨ev, rfl, hev, hb2⟩
  clear c0 c1 c2 c3 c4 c5
  obtain ⟨c0, c1, c2, c3, c4, c5⟩ := Cs.out w2 hb2
  have hb2' := hb0.trans (hb2.mono hb0.size)
  cases hpf : pathF f.path with
  | none =>
    rw [hpf] at hev
    obtain ⟨-, rfl⟩ := hev
    have HF := Lib.hid (fileEr_bad (checkF_none hpf) (by decide))
    clear hpf
    go_wp2_with fail
    go_ret
    exact ⟨_, rfl, by rw [HF.out]; exact ⟨by decide, rfl⟩, hb2'⟩
  | some kn =>
    rw [hpf] at hev
    obtain rfl : ev = .nilIface := hev
    have HP := Lib.hid hpf
    clear hpf
    go_wp2_with fail
    refine (part_any (kindF f.path) f.part _ (by omega)).mono ?_
    rintro e w3 ⟨rfl, hb3⟩
    have hb3' := hb2.trans (hb3.mono hb2.size)
    have hb3w := hb2'.trans (hb3.mono hb2'.size)
    clear c0 c1 c2 c3 c4 c5
    obtain ⟨c0, c1, c2, c3, c4, c5⟩ := Cs.out w3 hb3'
    obtain ⟨v2, v4⟩ := V.out w3 hb3'
    generalize hpk : partOk (kindF f.path) f.part = pk
    have HK := Lib.hid hpk
    clear hpk hb2 hb3 hb2' hb3'
    cases pk with
    | false =>
      have HF := Lib.hid (fileEr_bad (checkF_part HP.out HK.out) (by decide))
      go_wp2_with fail
      go_ret
      exact ⟨_, rfl, by rw [HF.out]; exact ⟨by decide, rfl⟩, hb3w⟩
    | true =>
      by_cases b1 : f.n < 1
      · have HF := Lib.hid (fileEr_bad (checkF_bound HP.out HK.out (.inl b1)) (by decide))
        go_wp2_with fail
        go_ret
        exact ⟨_, rfl, by rw [HF.out]; exact ⟨by decide, rfl⟩, hb3w⟩
      have g1 : decide (f.n < 1) = false := by simpa using b1
      by_cases b2 : 40 < f.n
      · have HF := Lib.hid (fileEr_bad (checkF_bound HP.out HK.out (.inr (.inl b2))) (by decide))
        clear b1
        go_wp2_with fail
        go_ret
        exact ⟨_, rfl, by rw [HF.out]; exact ⟨by decide, rfl⟩, hb3w⟩
      have g2 : decide (40 < f.n) = false := by simpa using b2
      have B12 := Lib.hid (⟨b1, b2⟩ : _ ∧ _)
      clear b1 b2
      go_wp2_with fail
      refine (far_any f.lo _).mono ?_
      rintro e w4 ⟨rfl, rfl⟩
      by_cases b3 : farN f.lo
      · have HF := Lib.hid (fileEr_bad (checkF_bound HP.out HK.out (.inr (.inr (.inl b3)))) (by decide))
        rw [decide_eq_true b3]
        clear b3
        go_wp2_with fail
        go_ret
        exact ⟨_, rfl, by rw [HF.out]; exact ⟨by decide, rfl⟩, hb3w⟩
      rw [decide_eq_false b3]
      have B3 := Lib.hid b3
      clear b3
      go_wp2_with fail
      refine (far_any f.hi _).mono ?_
      rintro e w4 ⟨rfl, rfl⟩
      by_cases b4 : farN f.hi
      · have HF := Lib.hid (fileEr_bad (checkF_bound HP.out HK.out (.inr (.inr (.inr (.inl b4))))) (by decide))
        rw [decide_eq_true b4]
        clear b4
        go_wp2_with fail
        go_ret
        exact ⟨_, rfl, by rw [HF.out]; exact ⟨by decide, rfl⟩, hb3w⟩
      rw [decide_eq_false b4]
      have B4 := Lib.hid b4
      clear b4
      by_cases b5 : f.hi < f.lo
      · have HF := Lib.hid (fileEr_bad (checkF_bound HP.out HK.out (.inr (.inr (.inr (.inr (.inl b5)))))) (by decide))
        go_wp2_with fail
        go_ret
        exact ⟨_, rfl, by rw [HF.out]; exact ⟨by decide, rfl⟩, hb3w⟩
      have g5 : decide (f.hi < f.lo) = false := by simpa using b5
      by_cases b6 : f.seq < 1
      · have HF := Lib.hid (fileEr_bad (checkF_bound HP.out HK.out (.inr (.inr (.inr (.inr (.inr (.inl b6))))))) (by decide))
        clear b5
        go_wp2_with fail
        go_ret
        exact ⟨_, rfl, by rw [HF.out]; exact ⟨by decide, rfl⟩, hb3w⟩
      have g6 : decide (f.seq < 1) = false := by simpa using b6
      by_cases b7 : 1073741824 < f.seq
      · have HF := Lib.hid (fileEr_bad (checkF_bound HP.out HK.out (.inr (.inr (.inr (.inr (.inr (.inr b7))))))) (by decide))
        clear b5 b6
        go_wp2_with fail
        go_ret
        exact ⟨_, rfl, by rw [HF.out]; exact ⟨by decide, rfl⟩, hb3w⟩
      have g7 : decide (1073741824 < f.seq) = false := by simpa using b7
      have HF := Lib.hid (fileEr_nil (checkF_right HP.out HK.out (by
        rintro (h | h | h | h | h | h | h)
        · have := B12.out.1; omega
        · have := B12.out.2; omega
        · exact B3.out h
        · exact B4.out h
        · exact b5 h
        · exact b6 h
        · exact b7 h)))
      clear b5 b6 b7
      go_wp2_with fail
      go_ret
      exact ⟨_, rfl, by rw [HF.out]; rfl, hb3w⟩
end Go.Proofs.YtpfohfihkmjnaaaGreatDoor
namespace Go.Proofs.YtpfohfihkmjnaaaGreatDoor
open Go.RowKit
/-- A slice of numbers written out in a new block. -/
theorem ints_new (l : List Int) (w : World) (t : TypeId) (H n : Nat) (cs : Array Value) (hH : w.heap.size = H) (hcs : cs = (l.map (Value.int .i64)).toArray) (hn : l.length = n) (hm : n ≤ 100000) : IntsAt (w.alloc (.cells cs t)) (.slice (some ⟨H, 0, none⟩) n n) l := by
  subst hH hcs hn
  refine ⟨_, _, w.heap.size, 0, rfl, fun _ => rfl, Nat.le_refl _, by unfold maxLen; omega, fun k z hk j u hu => ?_⟩
  obtain rfl : j = 0 := by
    rcases Nat.eq_zero_or_pos j with h | h
    · exact h
    · rw [List.getElem?_eq_none (by simp; omega)] at hu; cases hu
  obtain rfl : .int .i64 z = u := by simpa using hu
  rw [cell_of_row (w.alloc _) w.heap.size _ _ t (0, 0) (heap_alloc_new w _)]
  simp [hk]
/-- The first number that is not 0. -/
def orOf (l : List Int) : Int := (l.find? (fun x => x != 0)).getD 0
theorem orOf_hit {l : List Int} {k : Nat} {x : Int} (hk : l[k]? = some x) (hx : x ≠ 0) (h : ∀ (j : Nat), j < k → ∀ y, l[j]? = some y → y = 0) : orOf l = x := by
  unfold orOf
  obtain ⟨h1, h2⟩ := List.getElem?_eq_some_iff.1 hk
  have : l.find? (fun x => x != 0) = some x := by
    rw [List.find?_eq_some_iff_getElem]
    refine ⟨by simpa using hx, k, h1, h2, fun j hj => ?_⟩
    have := h j hj l[j] (by simp)
    simp [this]
  rw [this]; rfl
theorem orOf_none {l : List Int} (h : ∀ (j : Nat) (y : Int), l[j]? = some y → y = 0) : orOf l = 0 := by
  unfold orOf
  have : l.find? (fun x => x != 0) = none := List.find?_eq_none.2 fun x hx => by
    obtain ⟨j, hj⟩ := List.getElem?_of_mem hx
    simp [h j x hj]
  rw [this]; rfl
theorem cmpOr_any (v : Value) (l : List Int) (w : World) (hl : IntsAt w v l) :
    Calls Tryz.prog 128 #[v] w fun e w' => e = .returned (.int .i64 (orOf l)) ∧ w = w' := by
  obtain ⟨a, c, b, o, rfl, ha, hc, hcm, hx⟩ := hl
  unfold maxLen at hcm
  go_enter Tryz.func128, Tryz.ntmps128
  go_wp2_with fail
  go_loop [8] (fun i => ∃ k : Nat, k ≤ l.length ∧ i = .int .i64 k ∧ Hid (∀ (j : Nat), j < k → ∀ y, l[j]? = some y → y = 0)) (fun i => l.length - (intOf i).toNat)
  case atStart => exact ⟨0, by omega, rfl, Lib.hid fun j hj => absurd hj (by omega)⟩
  case round =>
    obtain ⟨k, hk, rfl, hj⟩ := hrel
    by_cases hlt : k < l.length
    · obtain ⟨x, hxk⟩ := get_ex hlt
      have c1 := hx k x hxk 0 _ rfl
      have i1 := idx_at (c := c) 1 Tryz.underlying69 szInt ha k hlt
      have hk1 : (k : Int) < (l.length : Int) := by omega
      simp only [Nat.mul_one, Nat.add_zero] at c1 i1
      have Hx := Lib.hid hxk; clear hxk
      by_cases h0 : x = 0
      · subst h0
        go_wp2_with fail
        go_round
        case rel => exact ⟨k + 1, by omega, by go_num, Lib.hid fun j hj' y hy => by
          rcases Nat.lt_or_ge j k with h | h
          · exact hj.out j h y hy
          · obtain rfl : j = k := by omega
            rw [Hx.out] at hy
            exact (Option.some.inj hy).symm⟩
        case measure => simp [intOf]; omega
      · have g : (x != 0) = true := by simpa using h0
        have H := Lib.hid (orOf_hit Hx.out h0 hj.out)
        clear h0
        go_wp2_with fail
        go_ret
        exact ⟨by rw [H.out]; rfl, rfl⟩
    · obtain rfl : k = l.length := by omega
      go_wp2_with fail
      go_ret
      exact ⟨by rw [orOf_none fun j y hy => hj.out j (List.getElem?_eq_some_iff.1 hy).1 y hy]; rfl, rfl⟩
theorem strCompare_any (a b : Str) (w : World) : Calls Tryz.prog 43 #[S a, S b] w fun e w' => e = .returned (.int .i64 (Lib.compareBytes a b)) ∧ w = w' :=
  (Tryz.strings_Compare ⟨a.toArray⟩ ⟨b.toArray⟩ w).mono fun _ _ ⟨h1, h2⟩ => ⟨by simpa using h1, h2.symm⟩
theorem orOf_two (x y : Int) : orOf [x, y] = if x ≠ 0 then x else y := by
  unfold orOf
  by_cases h : x = 0
  · subst h
    by_cases h2 : y = 0
    · subst h2; decide
    · rw [if_neg (by simp)]
      simp [h2]
  · rw [if_pos h]
    simp [h]
theorem numF_bound (p : Str) : 0 ≤ numF p ∧ numF p ≤ 1073741824 := by
  rcases path_ways p with ⟨-, -, h, -⟩ | ⟨n, h1, h2, -, h, -⟩ | ⟨n, h1, h2, -, h, -⟩ <;> rw [h] <;> omega
set_option maxRecDepth 20000 in
theorem listCompare_any (E : Nat → Addr) (B : Nat) (a b : Str) (w : World) (hE : Errs [5] E B w) (hT : LNum B w) (hM : LMax B w) (ha : a.length ≤ 100000) (hb : b.length ≤ 100000) :
    Calls Tryz.prog 90 #[S a, S b] w fun e w' => e = .returned (.int .i64 (cmpP a b)) ∧ Below w.heap.size w w' := by
  obtain ⟨n1, n2⟩ := numF_bound a
  obtain ⟨m1, m2⟩ := numF_bound b
  have hc : cmpP a b = orOf [Lib.compareBytes (kindF a) (kindF b), numF a - numF b] := by rw [orOf_two]; rfl
  have HC := Lib.hid hc
  clear hc
  go_enter Tryz.func90, Tryz.ntmps90
  go_wp2_with fail
  refine (fileNumber_any E B a _ hE hT hM ha).mono ?_
  rintro e w1 ⟨ev1, rfl, -, hb1⟩
  go_wp2_with fail
  refine (fileNumber_any E B b _ (hE.below' hb1 hE.le) (hT.below' hb1 hT.le) (hM.below' hb1 hM.le) hb).mono ?_
  rintro e w2 ⟨ev2, rfl, -, hb2⟩
  have hb2' := hb1.trans (hb2.mono hb1.size)
  clear hb1 hb2
  generalize hk1 : kindF a = k1
  generalize hk2 : kindF b = k2
  generalize hn1 : numF a = x1 at n1 n2 ⊢
  generalize hn2 : numF b = x2 at m1 m2 ⊢
  rw [hk1, hk2, hn1, hn2] at HC
  clear hk1 hk2 hn1 hn2
  go_wp2_with fail
  refine (strCompare_any k1 k2 _).mono ?_
  rintro e w3 ⟨rfl, rfl⟩
  generalize Lib.compareBytes k1 k2 = c at HC ⊢
  go_wp2_with fail
  refine (cmpOr_any _ [c, x1 - x2] _ (ints_new _ w2 _ _ 2 _ rfl rfl rfl (by decide))).mono ?_
  rintro e w4 ⟨rfl, rfl⟩
  go_wp2_with fail
  go_ret
  exact ⟨by rw [HC.out]; rfl, hb2'.alloc hb2'.size _⟩
end Go.Proofs.YtpfohfihkmjnaaaGreatDoor
namespace Go.Proofs.YtpfohfihkmjnaaaGreatDoor
open Go.RowKit
/-- A function value's call enters its body. -/
def Clo (P : Program) (f : FuncId) : Prop := ∀ args W, (callFunc f args).run P W = .ok (.enter f args) W
/-- The function value f, with what it captured, answers p of each element of l, in every world that is as w0 was below base. -/
def PredOn {α : Type} (P : Program) (f : FuncId) (caps : Array Value) (val : α → Value) (l : List α) (p : α → Bool) (base : Nat) (w0 : World) : Prop :=
  ∀ W x, x ∈ l → Below base w0 W → base ≤ W.heap.size → Calls P f (#[val x] ++ caps) W fun e W' => e = .returned (.bool (p x)) ∧ Below W.heap.size W W'
theorem PredOn.sub {α : Type} {P : Program} {f : FuncId} {caps : Array Value} {val : α → Value} {l m : List α} {p : α → Bool} {base : Nat} {w0 : World} (h : PredOn P f caps val l p base w0) (hm : ∀ x ∈ m, x ∈ l) : PredOn P f caps val m p base w0 :=
  fun W x hx => h W x (hm x hx)
def idxVal {α : Type} (p : α → Bool) (l : List α) : Int := match l.findIdx? p with | none => -1 | some i => i
theorem idxVal_none {α : Type} {p : α → Bool} {l : List α} (h : ∀ (j : Nat) (x : α), l[j]? = some x → p x = false) : idxVal p l = -1 := by
  unfold idxVal
  have : l.findIdx? p = none := List.findIdx?_eq_none_iff.2 fun x hx => by
    obtain ⟨j, hj, he⟩ := List.getElem_of_mem hx
    exact h j x (by simp [hj, he])
  rw [this]
theorem idxVal_some {α : Type} {p : α → Bool} {l : List α} {k : Nat} {x : α} (hk : l[k]? = some x) (hp : p x = true) (h : ∀ (j : Nat) (y : α), j < k → l[j]? = some y → p y = false) : idxVal p l = k := by
  unfold idxVal
  have hlt : k < l.length := by
    rcases Nat.lt_or_ge k l.length with h' | h'
    · exact h'
    · rw [List.getElem?_eq_none h'] at hk; cases hk
  have hx : l[k] = x := by rw [List.getElem?_eq_getElem hlt] at hk; exact Option.some.inj hk
  have : l.findIdx? p = some k := List.findIdx?_eq_some_iff_getElem.2 ⟨hlt, by rw [hx]; exact hp, fun j hj => by
    have := h j l[j] hj (by simp)
    simpa using this⟩
  rw [this]
end Go.Proofs.YtpfohfihkmjnaaaGreatDoor
namespace Go.Proofs.YtpfohfihkmjnaaaGreatDoor
open Go.RowKit
/-- A round's cells. -/
theorem flCells {w w' : World} {b o : Nat} {l : List Fl} {k : Nat} {x : Fl} (hx : ∀ (k : Nat) (x : Fl), l[k]? = some x → ∀ (j : Nat) (u : Value), (encF x)[j]? = some u → w.cell? ⟨b, o + k * 6 + j, none⟩ = some u) (hb : Below w.heap.size w w') (hk : l[k]? = some x) :
    w'.cell? ⟨b, o + k * 6, none⟩ = some (S x.path) ∧ w'.cell? ⟨b, o + k * 6 + 1, none⟩ = some (S x.part) ∧ w'.cell? ⟨b, o + k * 6 + 2, none⟩ = some (.int .i64 x.n) ∧ w'.cell? ⟨b, o + k * 6 + 3, none⟩ = some (.int .i64 x.lo) ∧ w'.cell? ⟨b, o + k * 6 + 4, none⟩ = some (.int .i64 x.hi) ∧ w'.cell? ⟨b, o + k * 6 + 5, none⟩ = some (.int .i64 x.seq) := by
  have h := fun j u hu => by
    have := hx k x hk j u hu
    exact (hb.cell (World.block_lt_of_cell? w _ this)).trans this
  exact ⟨h 0 _ rfl, h 1 _ rfl, h 2 _ rfl, h 3 _ rfl, h 4 _ rfl, h 5 _ rfl⟩
theorem indexFuncF_any (f : FuncId) (caps : Array Value) (p : Fl → Bool) (base : Nat) (w0 : World) (v : Value) (l : List Fl) (w : World) (hf : Clo Tryz.prog f) (hp : PredOn Tryz.prog f caps fileV l p base w0)
    (hl : FilesAt w v l) (hw : Below base w0 w) (hB : base ≤ w.heap.size) :
    Calls Tryz.prog 99 #[v, .func (.func f) #[] caps] w fun e w' => e = .returned (.int .i64 (idxVal p l)) ∧ Below w.heap.size w w' := by
  obtain ⟨a, c, b, o, rfl, ha, hc, hcm, hx⟩ := hl
  unfold maxLen at hcm
  have hf' := hf
  unfold Clo at hf'
  go_enter Tryz.func99, Tryz.ntmps99
  go_wp2_with fail
  go_loopw [8] (fun i wr => ∃ k : Nat, k ≤ l.length ∧ i = .int .i64 k ∧ Hid (∀ j y, j < k → l[j]? = some y → p y = false) ∧ Below w.heap.size w wr) (fun i _ => l.length - (intOf i).toNat)
  case atStart => exact ⟨0, by omega, rfl, Lib.hid fun j y hj => absurd hj (by omega), Below.refl _ _⟩
  case round =>
    obtain ⟨k, hk, rfl, hj, hb⟩ := hrel
    by_cases hlt : k < l.length
    · obtain ⟨x, hxk⟩ := get_ex hlt
      obtain ⟨c0, c1, c2, c3, c4, c5⟩ := flCells hx hb hxk
      have i1 := idx_at (c := c) 6 Tryz.underlying23 szFl ha k hlt
      have hk1 : (k : Int) < (l.length : Int) := by omega
      have hpx := hp wr x (List.mem_of_getElem? hxk) (hw.trans (hb.mono hB)) (Nat.le_trans hB hb.size)
      have Hp := Lib.hid hpx; clear hpx
      have Hx := Lib.hid hxk; clear hxk
      go_wp2_with fail
      refine Hp.out.mono ?_
      rintro e w1 ⟨rfl, hb1⟩
      have hb2 := hb.trans (hb1.mono hb.size)
      cases hpv : p x with
      | true =>
        have Hpv := Lib.hid hpv; clear hpv
        go_wp2_with fail
        go_ret
        refine ⟨?_, hb2⟩
        rw [idxVal_some Hx.out Hpv.out hj.out]; rfl
      | false =>
        have Hpv := Lib.hid hpv; clear hpv
        go_wp2_with fail
        go_roundw
        case rel => exact ⟨k + 1, by omega, by go_num, (Lib.hid fun j y hj' hy => by
          rcases Nat.lt_or_ge j k with h | h
          · exact hj.out j y h hy
          · obtain rfl : j = k := by omega
            rw [Hx.out] at hy
            obtain rfl := Option.some.inj hy
            exact Hpv.out), hb2⟩
        case measure => simp [intOf]; omega
    · obtain rfl : k = l.length := by omega
      go_wp2_with fail
      go_ret
      refine ⟨?_, hb⟩
      rw [idxVal_none fun j x hj' => hj.out j x (by
        rcases Nat.lt_or_ge j l.length with h | h
        · exact h
        · rw [List.getElem?_eq_none h] at hj'; cases hj') hj']
      rfl
end Go.Proofs.YtpfohfihkmjnaaaGreatDoor
namespace Go.Proofs.YtpfohfihkmjnaaaGreatDoor
open Go.RowKit
set_option maxHeartbeats 1000000 in
set_option maxRecDepth 20000 in
theorem listCheck_any (E : Nat → Addr) (B : Nat) (v : Value) (l : List Fl) (w : World) (hE : Errs [2, 4, 5, 8, 9] E B w) (hT : LNum B w) (hM : LMax B w) (hl : FilesAt w v l) (hs : ∀ f ∈ l, midF f) :
    Calls Tryz.prog 38 #[v] w fun e w' => ∃ ev, e = .returned ev ∧ ErV E w' ev (listCheck l) ∧ Below w.heap.size w w' := by
  obtain ⟨a, c, b, o, rfl, ha, hc, hcm, hx⟩ := hl
  unfold maxLen at hcm
  have hif := isIfaceE
  have hBw := hE.le
  by_cases h60 : 60 < l.length
  · have g : (60 : Int) < (l.length : Int) := by omega
    have v8 := hE.var 8 (by decide)
    simp only [errG] at v8
    have HF : Hid (listCheck l = .bare 8) := Lib.hid (if_pos h60)
    go_enter Tryz.func38, Tryz.ntmps38
    go_wp2_with fail
    go_ret
    exact ⟨_, rfl, by rw [HF.out]; exact ⟨by decide, rfl⟩, Below.refl _ _⟩
  have g60 : (l.length : Int) ≤ 60 := by omega
  have HF : Hid (listCheck l = firstErr (fileFault l) l.length) := Lib.hid (if_neg h60)
  clear h60
  have V0 := fun w6 (h : Below w.heap.size w w6) => (hE.below' h hBw).var 9 (by decide)
  simp only [errG] at V0
  have V := Lib.hid V0
  clear V0
  have Hs := Lib.hid hs
  clear hs
  go_enter Tryz.func38, Tryz.ntmps38
  go_wp2_with fail
  go_loopw [12] (fun i wr => ∃ k : Nat, k ≤ l.length ∧ i = .int .i64 k ∧ Hid (∀ j < k, fileFault l j = 0) ∧ Below w.heap.size w wr) (fun i _ => l.length - (intOf i).toNat)
  case atStart => exact ⟨0, by omega, rfl, Lib.hid fun j hj => absurd hj (by omega), Below.refl _ _⟩
  case round =>
    obtain ⟨k, hk, rfl, hj, hb⟩ := hrel
    by_cases hlt : k < l.length
    case neg =>
      obtain rfl : k = l.length := by omega
      have f : decide ((l.length : Int) < (l.length : Int)) = false := by simp
      go_wp2_with fail
      go_ret
      exact ⟨_, rfl, by rw [HF.out, firstErr_all hj.out]; rfl, hb⟩
    obtain ⟨x, hxk⟩ := get_ex hlt
    obtain ⟨c0, c1, c2, c3, c4, c5⟩ := flCells hx hb hxk
    have i1 := idx_at (c := c) 6 Tryz.underlying23 szFl ha k hlt
    have hk1 : (k : Int) < (l.length : Int) := by omega
    have hsx := Hs.out x (List.mem_of_getElem? hxk)
    have Hx := Lib.hid hxk; clear hxk
    have hb0 : Below w.heap.size w (wr.alloc (.cells #[S x.path, S x.part, .int .i64 x.n, .int .i64 x.lo, .int .i64 x.hi, .int .i64 x.seq] 43)) := hb.alloc hb.size _
    have Cs := Lib.hid (fun w6 (h : Below (wr.alloc (.cells #[S x.path, S x.part, .int .i64 x.n, .int .i64 x.lo, .int .i64 x.hi, .int .i64 x.seq] 43)).heap.size (wr.alloc (.cells #[S x.path, S x.part, .int .i64 x.n, .int .i64 x.lo, .int .i64 x.hi, .int .i64 x.seq] 43)) w6) => (fileCells rfl h).1)
    go_wp2_with fail
    generalize wr.alloc (.cells #[S x.path, S x.part, .int .i64 x.n, .int .i64 x.lo, .int .i64 x.hi, .int .i64 x.seq] 43) = w1 at *
    refine (fileCheck_any E B x _ ((hE.sub (by decide)).below' hb0 hBw) (hT.below' hb0 hBw) (hM.below' hb0 hBw) hsx).mono ?_
    rintro e w2 ⟨ev, rfl, hev, hb2⟩
    have p0 := Cs.out w2 hb2
    have hb2' := hb0.trans (hb2.mono hb0.size)
    clear c0 c1 c2 c3 c4 c5 i1 Cs
    by_cases hck : checkF x = 0
    case neg =>
      have hf : fileFault l k = checkF x := by unfold fileFault; rw [Hx.out]; simp only; rw [if_pos hck]
      have hfe : fileEr x = .bare (checkF x) := fileEr_bad rfl hck
      rw [hfe] at hev
      obtain ⟨hcr, rfl⟩ := hev
      have HK := Lib.hid hck
      have Hf := Lib.hid hf
      have HL : Hid (listCheck l = .loc (checkF x) k) := Lib.hid (HF.out.trans ((firstErr_hit hlt hj.out (by rw [hf]; exact hck)).trans (by rw [hf])))
      clear hf hfe hck
      generalize checkF x = cx at *
      go_wp2_with fail
      go_quiet (fail)
      go_wp2_with fail
      go_ret
      exact ⟨_, rfl, by rw [HL.out]; exact ErV.fresh hcr _ _ _ _ rfl, (Bdn hb2' _).alloc hb2'.size _⟩
    have hfe := fileEr_nil hck
    rw [hfe] at hev
    obtain rfl : ev = .nilIface := hev
    have HK := Lib.hid hck
    clear hck hfe
    by_cases h0 : k = 0
    · have hf : fileFault l k = 0 := by unfold fileFault; rw [Hx.out]; simp only; rw [if_neg (by simp [HK.out]), if_neg (by simp [h0])]
      have gk : decide (0 < k) = false := by simp [h0]
      have Hf := Lib.hid hf
      have H0 := Lib.hid h0
      clear hf h0
      go_wp2_with fail
      go_quiet (fail)
      go_wp2_with fail
      go_roundw
      case rel => exact ⟨k + 1, by omega, by go_num, (Lib.hid fun j hj' => by
        obtain rfl : j = k := by have := H0.out; omega
        exact Hf.out), Bdn hb2' _⟩
      case measure => simp [intOf]; omega
    obtain ⟨y, hyk⟩ := get_ex (l := l) (k := k - 1) (by omega)
    have hsy := Hs.out y (List.mem_of_getElem? hyk)
    obtain ⟨d0, -⟩ := flCells hx hb2' hyk
    have i2 := idx_at (c := c) 6 Tryz.underlying23 szFl ha (k - 1) (by omega)
    have hcast : ((k - 1 : Nat) : Int) = (k : Int) - 1 := by omega
    simp only [hcast] at i2
    have hk0 : 0 < k := by omega
    have gk : decide (0 < k) = true := decide_eq_true hk0
    have hk01 : (1 : Int) ≤ k := by omega
    have hk02 : (0 : Int) ≤ (k : Int) - 1 := by omega
    have hk03 : (k : Int) - 1 < l.length := by omega
    have Hy := Lib.hid hyk
    clear hyk hcast h0
    have hb2d := hb2'.drew
    have hwk : IntKind.i64.wrap ((k : Int) - 1) = (k : Int) - 1 := by rw [IntKind.wrap_i64]; omega
    have hC := listCompare_any E B x.path y.path w2.drew ((hE.sub (by decide)).below' hb2d hBw) (hT.below' hb2d hBw) (hM.below' hb2d hBw) (by have := hsx.1; omega) (by have := hsy.1; omega)
    obtain ⟨cv, hcv⟩ : ∃ cv, cmpP x.path y.path = cv := ⟨_, rfl⟩
    rw [hcv] at hC
    have HC := Lib.hid hC
    clear hC
    by_cases hle : cv ≤ 0
    · have hf : fileFault l k = 9 := by
        unfold fileFault; rw [Hx.out]; simp only
        rw [if_neg (by simp [HK.out]), if_pos ⟨hk0, y, Hy.out, by rw [hcv]; exact hle⟩]
      have HL : Hid (listCheck l = .loc 9 k) := Lib.hid (HF.out.trans ((firstErr_hit hlt hj.out (by rw [hf]; decide)).trans (by rw [hf])))
      clear hf hcv
      go_wp2_with fail
      go_region_held3 (fun w' => w'.cell? ⟨wr.heap.size, 0, none⟩ = some (S x.path) ∧ w'.cell? ⟨b, o + (k - 1) * 6, none⟩ = some (S y.path)) (exact ⟨p0, d0⟩) (first | (go_at_call 90; refine HC.out.mono ?_; rintro e w3 ⟨rfl, hb3⟩; have hb3' := hb2d.trans (hb3.mono hb2d.size); have q0 := (hb3.cell (World.block_lt_of_cell? w2 _ p0)).trans p0; have e0 := (hb3.cell (World.block_lt_of_cell? w2 _ d0)).trans d0; clear p0 d0; have p0 := q0; have d0 := e0; have v9 := V.out _ hb3'))
      go_wp2_with fail
      go_ret
      exact ⟨_, rfl, by rw [HL.out]; exact ErV.fresh (by decide) _ _ _ _ rfl, hb3'.alloc hb3'.size _⟩
    · have hf : fileFault l k = 0 := by
        unfold fileFault; rw [Hx.out]; simp only
        rw [if_neg (by simp [HK.out]), if_neg]
        rintro ⟨_, g, hg, hle'⟩
        rw [Hy.out] at hg
        obtain rfl := Option.some.inj hg
        rw [hcv] at hle'
        exact hle hle'
      have Hf := Lib.hid hf
      have hgt : 0 < cv := by omega
      clear hf hcv hle
      go_wp2_with fail
      go_region_held3 (fun w' => w'.cell? ⟨wr.heap.size, 0, none⟩ = some (S x.path) ∧ w'.cell? ⟨b, o + (k - 1) * 6, none⟩ = some (S y.path)) (exact ⟨p0, d0⟩) (first | (go_at_call 90; refine HC.out.mono ?_; rintro e w3 ⟨rfl, hb3⟩; have hb3' := hb2d.trans (hb3.mono hb2d.size); have q0 := (hb3.cell (World.block_lt_of_cell? w2 _ p0)).trans p0; have e0 := (hb3.cell (World.block_lt_of_cell? w2 _ d0)).trans d0; clear p0 d0; have p0 := q0; have d0 := e0))
      go_wp2_with fail
      go_roundw
      case rel => exact ⟨k + 1, by omega, by go_num, (Lib.hid fun j hj' => by
        rcases Nat.lt_or_ge j k with h | h
        · exact hj.out j h
        · obtain rfl : j = k := by omega
          exact Hf.out), hb3'⟩
      case measure => simp [intOf]; omega
end Go.Proofs.YtpfohfihkmjnaaaGreatDoor
namespace Go.Proofs
open Go.Shelf
end Go.Proofs
namespace Go.Proofs.YtpfohfihkmjnaaaGreatDoor
open Go.RowKit
end Go.Proofs.YtpfohfihkmjnaaaGreatDoor
namespace Go.Proofs.YtpfohfihkmjnaaaGreatDoor
open Go.RowKit
attribute [local go_sem] bapp
theorem cat_run (a b : ByteArray) (n m : Nat) (ha : a.size = n) (hb : b.size = m) (h : n + m ≤ 1000000) : ∀ w, (Op.stringOp .add a b).run Tryz.prog w = .ok (.string (a ++ b)) w := fun w => run_string_add_sum w a b (by omega)
end Go.Proofs.YtpfohfihkmjnaaaGreatDoor
namespace Go.Proofs.YtpfohfihkmjnaaaGreatDoor
open Go.RowKit
theorem getD_of {l : List Int} {j : Nat} (hj : j < l.length) : l[j]? = some (l.getD j 0) := by
  rw [List.getD_eq_getElem?_getD, List.getElem?_eq_getElem hj]; rfl
theorem minI_any (v : Value) (l : List Int) (w : World) (hl : IntsAt w v l) (hn : l ≠ []) (hb : l.length ≤ 100000) :
    Calls Tryz.prog 133 #[v] w fun e w' => e = .returned (.int .i64 (endsI l).1) ∧ w = w' := by
  obtain ⟨a, c, b, o, rfl, ha, hc, hcm, hx⟩ := hl
  have hpos : 0 < l.length := List.length_pos_iff.2 hn
  obtain rfl := ha hpos
  refine (Tryz.slices_Min_int b o l.length c l w hpos (Nat.le_refl _) (by omega) (fun j hj => ?_)).mono ?_
  · have := hx j _ (getD_of hj) 0 _ rfl
    simpa using this
  · rintro e w' ⟨rfl, rfl⟩
    refine ⟨?_, rfl⟩
    rw [List.take_length]
    unfold endsI
    rw [if_neg hn]
theorem maxI_any (v : Value) (l : List Int) (w : World) (hl : IntsAt w v l) (hn : l ≠ []) (hb : l.length ≤ 100000) :
    Calls Tryz.prog 134 #[v] w fun e w' => e = .returned (.int .i64 (endsI l).2) ∧ w = w' := by
  obtain ⟨a, c, b, o, rfl, ha, hc, hcm, hx⟩ := hl
  have hpos : 0 < l.length := List.length_pos_iff.2 hn
  obtain rfl := ha hpos
  refine (Tryz.slices_Max_int b o l.length c l w hpos (Nat.le_refl _) (by omega) (fun j hj => ?_)).mono ?_
  · have := hx j _ (getD_of hj) 0 _ rfl
    simpa using this
  · rintro e w' ⟨rfl, rfl⟩
    refine ⟨?_, rfl⟩
    rw [List.take_length]
    unfold endsI
    rw [if_neg hn]
theorem S_app (a b : Str) : (⟨a.toArray⟩ : ByteArray) ++ ⟨b.toArray⟩ = ⟨(a ++ b).toArray⟩ := bapp a b
end Go.Proofs.YtpfohfihkmjnaaaGreatDoor
namespace Go.Proofs.YtpfohfihkmjnaaaGreatDoor
open Go.RowKit
theorem cut1_any (c : UInt8) (B : Nat) (s : Str) (w : World) (hM : LMax B w) (hs : s.length ≤ 100000) :
    Calls Tryz.prog 168 #[S s, .string ⟨#[c]⟩] w fun e w' => e = .returned (.tuple #[S (Lib.cut s [c]).1, S (Lib.cut s [c]).2.1, .bool (Lib.cut s [c]).2.2]) ∧ Below w.heap.size w w' := by
  obtain ⟨m, hm⟩ := hM.max
  refine (Tryz.strings_Cut ⟨s.toArray⟩ ⟨#[c]⟩ m w (by show s.toArray.size < _; simp; omega) hm).mono ?_
  rintro e w' ⟨rfl, n, rfl⟩
  exact ⟨rfl, Bdn (Below.refl _ _) n⟩
end Go.Proofs.YtpfohfihkmjnaaaGreatDoor
namespace Go.Proofs.YtpfohfihkmjnaaaGreatDoor
open Go.RowKit
def erOf (c : Nat) : Er := if c = 0 then .nil else .bare c
theorem four_ints {l : List Int} (h : l.length = 4) : ∃ a b c d, l = [a, b, c, d] := by
  match l, h with
  | [a, b, c, d], _ => exact ⟨a, b, c, d, rfl⟩
end Go.Proofs.YtpfohfihkmjnaaaGreatDoor
namespace Go.Proofs.YtpfohfihkmjnaaaGreatDoor
open Go.RowKit
abbrev encR (r : Rw) : List Value := [S r.part, .int .i64 r.key, .int .i64 r.val]
theorem encR_enc : Enc encR 3 := fun x => ⟨rfl, by simp [Value.oneCell']⟩
abbrev RowsAt (w : World) (v : Value) (l : List Rw) : Prop := At encR 3 w v l
theorem szRw (w : World) : (sizeOf 106).run Tryz.prog w = .ok 3 w := by kernel_rfl
theorem elRw : ElemInfo Tryz.prog 44 106 3 32 := elemInfo_of Tryz.underlying44 (z := .agg #[.string ByteArray.empty, .int .i64 0, .int .i64 0]) (by kernel_rfl) rfl (by decide)
/-- A row's numbers are of 64 bits. -/
def RowWf (r : Rw) : Prop := (-9223372036854775808 ≤ r.key ∧ r.key ≤ 9223372036854775807) ∧ (-9223372036854775808 ≤ r.val ∧ r.val ≤ 9223372036854775807)
abbrev rowV (r : Rw) : Value := .agg #[S r.part, .int .i64 r.key, .int .i64 r.val]
abbrev rowO (r : Rw) : Obj := .cells #[S r.part, .int .i64 r.key, .int .i64 r.val] 106
theorem rowCells {w w1 w6 : World} {r : Rw} (hw : w1 = w.alloc (rowO r)) (h6 : Below w1.heap.size w1 w6) :
    w6.cell? ⟨w.heap.size, 0, none⟩ = some (S r.part) ∧ w6.cell? ⟨w.heap.size, 1, none⟩ = some (.int .i64 r.key) ∧ w6.cell? ⟨w.heap.size, 2, none⟩ = some (.int .i64 r.val) := by
  subst hw
  have h := heap_alloc_new w (.cells #[S r.part, .int .i64 r.key, .int .i64 r.val] 106)
  have h' := (h6.block w.heap.size (by simp)).trans h
  refine ⟨?_, ?_, ?_⟩ <;> (rw [cell_of_row w6 _ _ _ _ (0, 0) h']; rfl)
/-- A round's cells. -/
theorem rwCells {w w' : World} {b o : Nat} {l : List Rw} {k : Nat} {x : Rw} (hx : ∀ (k : Nat) (x : Rw), l[k]? = some x → ∀ (j : Nat) (u : Value), (encR x)[j]? = some u → w.cell? ⟨b, o + k * 3 + j, none⟩ = some u) (hb : Below w.heap.size w w') (hk : l[k]? = some x) :
    w'.cell? ⟨b, o + k * 3, none⟩ = some (S x.part) ∧ w'.cell? ⟨b, o + k * 3 + 1, none⟩ = some (.int .i64 x.key) ∧ w'.cell? ⟨b, o + k * 3 + 2, none⟩ = some (.int .i64 x.val) := by
  have h := fun j u hu => by
    have := hx k x hk j u hu
    exact (hb.cell (World.block_lt_of_cell? w _ this)).trans this
  exact ⟨h 0 _ rfl, h 1 _ rfl, h 2 _ rfl⟩
/-- A block of three cells, written. -/
abbrev thr (w : World) (g o : Nat) (b0 b1 b2 : Value) : World := ((w.setCell ⟨g, o, none⟩ b0).setCell ⟨g, o + 1, none⟩ b1).setCell ⟨g, o + 2, none⟩ b2
theorem thr_row {w : World} {g o : Nat} {t : TypeId} {fr : Nat × Nat} {cur : Array Value} (hg : w.heap[g]? = some (.cells cur t fr)) (b0 b1 b2 : Value) : (thr w g o b0 b1 b2).heap[g]? = some (.cells (((cur.setIfInBounds o b0).setIfInBounds (o + 1) b1).setIfInBounds (o + 2) b2) t fr) :=
  row_setCell (row_setCell (row_setCell hg b0) b1) b2
theorem thr_below {B : Nat} {w0 w : World} {g o : Nat} (hb : Below B w0 w) (hB : B ≤ g) (b0 b1 b2 : Value) : Below B w0 (thr w g o b0 b1 b2) :=
  ((hb.setCell (p := ⟨g, o, none⟩) hB _).setCell (p := ⟨g, o + 1, none⟩) hB _).setCell (p := ⟨g, o + 2, none⟩) hB _
theorem thr_new {w : World} {g : Nat} {t : TypeId} {fr : Nat × Nat} {a0 a1 a2 : Value} (hg : w.heap[g]? = some (.cells #[a0, a1, a2] t fr)) (b0 b1 b2 : Value) : (thr w g 0 b0 b1 b2).heap[g]? = some (.cells #[b0, b1, b2] t fr) := thr_row hg b0 b1 b2
theorem less_befR : ∀ a b : Str, Op.bytesLess a b = bef a b
  | [], [] => by simp [Op.bytesLess, bytesBefore]
  | [], _ :: _ => by simp [Op.bytesLess, bytesBefore]
  | _ :: _, [] => by simp [Op.bytesLess, bytesBefore]
  | a :: r, b :: s => by
    have ih := less_befR r s
    show Op.bytesLess (a :: r) (b :: s) = (decide (a < b) || (a == b && bytesBefore r s))
    unfold Op.bytesLess
    rw [ih]
def rowEr (r : Rw) : Er := erOf (rowCheck r)
theorem rowCheck_name {r : Rw} (h : nameOk r.part = false) : rowCheck r = 5 := if_pos h
theorem rowCheck_far {r : Rw} (h : nameOk r.part = true) (h2 : farN r.key ∨ farN r.val) : rowCheck r = 2 := by unfold rowCheck; rw [if_neg (by rw [h]; decide), if_pos h2]
theorem rowCheck_right {r : Rw} (h : nameOk r.part = true) (h2 : ¬ farN r.key) (h3 : ¬ farN r.val) : rowCheck r = 0 := by unfold rowCheck; rw [if_neg (by rw [h]; decide), if_neg (fun h => h.elim h2 h3)]
set_option maxRecDepth 20000 in
theorem rowName_any (s : Str) (w : World) (hs : s.length ≤ 100000) :
    Calls Tryz.prog 194 #[S s] w fun e w' => e = .returned (.bool (nameOk s)) ∧ Below w.heap.size w w' := by
  unfold nameOk
  by_cases h0 : s = []
  · subst h0
    go_enter Tryz.func194, Tryz.ntmps194
    go_wp2_with fail
    go_ret
    exact ⟨rfl, Below.refl _ _⟩
  have g0 : (!s.isEmpty) = true := by simpa using h0
  have e0 : decide (s ≠ []) = true := by simpa using h0
  rw [e0, Bool.true_and]
  by_cases h1 : s.length ≤ 8
  · have g1 : decide ((s.length : Int) ≤ 8) = true := by simp; omega
    have g2 : (s.length : Int) ≤ 8 := by omega
    have e1 : decide (s.length ≤ 8) = true := by simpa using h1
    rw [e1, Bool.true_and]
    go_enter Tryz.func194, Tryz.ntmps194
    go_wp2_with fail
    refine (trimPart_any s _ hs).mono ?_
    rintro e w1 ⟨rfl, hb1⟩
    have hT : (Lib.trimS s partSigns).isEmpty = s.all (fun b => partSigns.contains b) := by
      rw [Bool.eq_iff_iff, List.isEmpty_iff, trimS_nilP]
    have HT := Lib.hid hT; clear hT
    generalize Lib.trimS s partSigns = T at *
    go_wp2_with fail
    go_ret
    exact ⟨ret_bool (by first | exact HT.out | (rw [← HT.out]; cases T <;> rfl)), hb1⟩
  · have g1 : decide ((s.length : Int) ≤ 8) = false := by simp; omega
    have e1 : decide (s.length ≤ 8) = false := by simpa using h1
    rw [e1, Bool.false_and]
    go_enter Tryz.func194, Tryz.ntmps194
    go_wp2_with fail
    go_ret
    exact ⟨rfl, Below.refl _ _⟩
set_option maxHeartbeats 1000000 in
set_option maxRecDepth 20000 in
theorem rowCheck_any (E : Nat → Addr) (B : Nat) (r : Rw) (w : World) (hE : Errs [2, 5] E B w) (hs : r.part.length ≤ 100000) :
    Calls Tryz.prog 175 #[rowV r] w fun e w' => ∃ ev, e = .returned ev ∧ ErV E w' ev (rowEr r) ∧ Below w.heap.size w w' := by
  have hBw := hE.le
  have hb0 : Below w.heap.size w (w.alloc (.cells #[S r.part, .int .i64 r.key, .int .i64 r.val] 106)) := (Below.refl _ _).alloc (Nat.le_refl _) _
  have Cs := Lib.hid (fun w6 (h : Below (w.alloc (.cells #[S r.part, .int .i64 r.key, .int .i64 r.val] 106)).heap.size (w.alloc (.cells #[S r.part, .int .i64 r.key, .int .i64 r.val] 106)) w6) => rowCells (r := r) rfl h)
  have hE1 := hE.below' hb0 hE.le
  have V0 := fun w6 (h : Below (w.alloc (.cells #[S r.part, .int .i64 r.key, .int .i64 r.val] 106)).heap.size (w.alloc (.cells #[S r.part, .int .i64 r.key, .int .i64 r.val] 106)) w6) => (⟨(hE1.below' h hE1.le).var 2 (by decide), (hE1.below' h hE1.le).var 5 (by decide)⟩ : _ ∧ _)
  simp only [errG] at V0
  have V := Lib.hid V0
  clear V0
  obtain ⟨c0, c1, c2⟩ := Cs.out _ (Below.refl _ _)
  go_enter Tryz.func175, Tryz.ntmps175
  go_wp2_with fail
  generalize w.alloc (.cells #[S r.part, .int .i64 r.key, .int .i64 r.val] 106) = w1 at *
  refine (rowName_any r.part _ hs).mono ?_
  rintro e w2 ⟨rfl, hb2⟩
  have hb2' := hb0.trans (hb2.mono hb0.size)
  clear c0 c1 c2
  obtain ⟨c0, c1, c2⟩ := Cs.out w2 hb2
  obtain ⟨v2, v5⟩ := V.out w2 hb2
  cases hnm : nameOk r.part with
  | false =>
    have HF : Hid (rowEr r = .bare 5) := Lib.hid (by unfold rowEr; rw [rowCheck_name hnm]; rfl)
    clear hnm
    go_wp2_with fail
    go_ret
    exact ⟨_, rfl, by rw [HF.out]; exact ⟨by decide, rfl⟩, hb2'⟩
  | true =>
    have HN := Lib.hid hnm
    clear hnm
    go_wp2_with fail
    refine (far_any r.key _).mono ?_
    rintro e w3 ⟨rfl, rfl⟩
    by_cases b1 : farN r.key
    · have HF : Hid (rowEr r = .bare 2) := Lib.hid (by unfold rowEr; rw [rowCheck_far HN.out (.inl b1)]; rfl)
      rw [decide_eq_true b1]
      clear b1
      go_wp2_with fail
      go_ret
      exact ⟨_, rfl, by rw [HF.out]; exact ⟨by decide, rfl⟩, hb2'⟩
    rw [decide_eq_false b1]
    have B1 := Lib.hid b1
    clear b1
    go_wp2_with fail
    refine (far_any r.val _).mono ?_
    rintro e w3 ⟨rfl, rfl⟩
    by_cases b2 : farN r.val
    · have HF : Hid (rowEr r = .bare 2) := Lib.hid (by unfold rowEr; rw [rowCheck_far HN.out (.inr b2)]; rfl)
      rw [decide_eq_true b2]
      clear b2
      go_wp2_with fail
      go_ret
      exact ⟨_, rfl, by rw [HF.out]; exact ⟨by decide, rfl⟩, hb2'⟩
    rw [decide_eq_false b2]
    have HF : Hid (rowEr r = .nil) := Lib.hid (by unfold rowEr; rw [rowCheck_right HN.out B1.out b2]; rfl)
    clear b2
    go_wp2_with fail
    go_ret
    exact ⟨_, rfl, by rw [HF.out]; rfl, hb2'⟩
theorem rowEr_nil {r : Rw} (h : rowCheck r = 0) : rowEr r = .nil := if_pos h
theorem rowEr_bad {r : Rw} (h : rowCheck r ≠ 0) : rowEr r = .bare (rowCheck r) := if_neg h
theorem name_len {r : Rw} (h : rowCheck r = 0) : r.part.length ≤ 8 ∧ -1073741824 ≤ r.key ∧ r.key ≤ 1073741824 ∧ -1073741824 ≤ r.val ∧ r.val ≤ 1073741824 := by
  obtain ⟨h1, h2, h3⟩ := rowCheck_zero h
  have h4 := (name_sign h1).2.2
  unfold farN at h2 h3
  omega
end Go.Proofs.YtpfohfihkmjnaaaGreatDoor
namespace Go.Proofs.YtpfohfihkmjnaaaGreatDoor
open Go.RowKit
end Go.Proofs.YtpfohfihkmjnaaaGreatDoor
namespace Go.Proofs.YtpfohfihkmjnaaaGreatDoor
open Go.RowKit
theorem Own.cells {α : Type} {enc : α → List Value} {e : TypeId} {sz B : Nat} {w : World} {l : List α} {g n c : Nat} (hen : Enc enc sz) (h : Own enc e sz B w (.slice (some ⟨g, 0, none⟩) n c) l) : ∀ (k : Nat) (x : α), l[k]? = some x → ∀ (j : Nat) (u : Value), (enc x)[j]? = some u → w.cell? ⟨g, k * sz + j, none⟩ = some u := by
  obtain ⟨_, _, b', o', hv', hga, _, _, hx'⟩ := h.at hen
  intro k x hk j u hu
  simp only [Value.slice.injEq] at hv'
  have hga' := hv'.1.trans (hga (by have := (List.getElem?_eq_some_iff.1 hk).1; omega))
  simp only [Option.some.injEq, Addr.mk.injEq, and_true] at hga'
  obtain ⟨rfl, rfl⟩ := hga'
  have := hx' k x hk j u hu
  simpa using this
theorem Own.base {α : Type} {enc : α → List Value} {e : TypeId} {sz B B' : Nat} {w : World} {v : Value} {l : List α} (h : Own enc e sz B w v l) (hB : B' ≤ B) : Own enc e sz B' w v l := by
  unfold Own World.ownsRow at h ⊢
  refine ⟨h.1, h.2.imp id ?_⟩
  rintro ⟨g, c, cs, h1, h2, h3⟩
  exact ⟨g, c, cs, h1, Nat.le_trans hB h2, h3⟩
theorem Own.cells1 {α : Type} {enc : α → List Value} {e : TypeId} {B : Nat} {w : World} {l : List α} {g n c : Nat} {f : α → Value} (hen : Enc enc 1) (hf : ∀ x, enc x = [f x]) (h : Own enc e 1 B w (.slice (some ⟨g, 0, none⟩) n c) l) : ∀ (k : Nat) (x : α), l[k]? = some x → w.cell? ⟨g, k, none⟩ = some (f x) := by
  intro k x hk
  have := h.cells hen k x hk 0 (f x) (by rw [hf]; rfl)
  simpa using this
end Go.Proofs.YtpfohfihkmjnaaaGreatDoor
namespace Go.Proofs.YtpfohfihkmjnaaaGreatDoor
open Go.RowKit
theorem headN_no {word s : Str} (h : (Lib.cut s [10]).2.2 = false) : headN word s = none := by unfold headN; rw [if_neg (by rw [h]; decide)]
theorem headN_len {word s : Str} (h : (cutAt 32 (Lib.cut s [10]).1).length ≠ 5) : headN word s = none := by
  unfold headN
  split
  · split
    · rename_i hc; rw [hc] at h; exact absurd rfl h
    · rfl
  · rfl
theorem headN_five {word s t a b c d : Str} (hi : (Lib.cut s [10]).2.2 = true) (h : cutAt 32 (Lib.cut s [10]).1 = [t, a, b, c, d]) : headN word s = if t = word then numsOf [a, b, c, d] else none := by
  unfold headN
  rw [if_pos hi, h]
theorem splitE_none {word s : Str} (h : ¬ 20000 < s.length) (hn : headN word s = none) : splitE word s = .bare 1 := by unfold splitE; rw [if_neg h, hn]
theorem splitE_some {word s : Str} {n : List Int} (h : ¬ 20000 < s.length) (hn : headN word s = some n) : splitE word s = if n.getD 3 0 = (sumOf (Lib.cut s [10]).2.1 : Int) then .nil else .bare 10 := by unfold splitE; rw [if_neg h, hn]
theorem splitE_long {word s : Str} (h : 20000 < s.length) : splitE word s = .bare 2 := if_pos h
theorem five_strs {l : List Str} (h : l.length = 5) : ∃ t a b c d, l = [t, a, b, c, d] := by
  match l, h with
  | [t, a, b, c, d], _ => exact ⟨t, a, b, c, d, rfl⟩
set_option maxHeartbeats 2000000 in
set_option maxRecDepth 20000 in
theorem dataSplit_any (E : Nat → Addr) (B : Nat) (word s : Str) (w : World) (hE : Errs [1, 2, 10] E B w) (hT : LNum B w) (hM : LMax B w) (hs : s.length ≤ 100000) :
    Calls Tryz.prog 135 #[S word, S s] w fun e w' => ∃ vn vl ev, e = .returned (.tuple #[vn, vl, ev]) ∧ ErV E w' ev (splitE word s) ∧ (splitE word s = .nil → Own encI 3 1 w.heap.size w' vn (splitN word s) ∧ Own encS 9 1 w.heap.size w' vl (splitL s)) ∧ Below w.heap.size w w' := by
  have hBw := hE.le
  have hE1 := fun w1 (hb : Below w.heap.size w w1) => (⟨(hE.below' hb hBw).var 1 (by decide), (hE.below' hb hBw).var 2 (by decide), (hE.below' hb hBw).var 10 (by decide)⟩ : _ ∧ _ ∧ _)
  simp only [errG] at hE1
  have HE1 := Lib.hid hE1
  have X := Lib.hid (fun W (h : Below w.heap.size w W) => (⟨hT.below' h hBw, hM.below' h hBw⟩ : LNum B W ∧ LMax B W))
  clear hE1
  by_cases h20 : 20000 < s.length
  · have HSp := Lib.hid (splitE_long (word := word) h20)
    have g : (20000 : Int) < (s.length : Int) := by omega
    obtain ⟨v1, v2, v3⟩ := HE1.out _ (Below.refl _ _)
    clear h20
    go_enter Tryz.func135, Tryz.ntmps135
    go_wp2_with fail
    go_quiet (fail)
    go_wp2_with fail
    go_ret3
    exact ⟨_, _, _, rfl, by rw [HSp.out]; exact ⟨by decide, rfl⟩, fun h => (by rw [HSp.out] at h; cases h), Bdn (Below.refl _ _) _⟩
  have g20 : decide ((20000 : Int) < (s.length : Int)) = false := by simp; omega
  have H20 := Lib.hid h20
  have hcl := cut_len s [10]
  have HC := Lib.hid (cut1_any 10 B s w hM hs)
  have HNo := Lib.hid (@headN_no word s)
  have HLe := Lib.hid (@headN_len word s)
  have HFv := Lib.hid (fun t a b c d => @headN_five word s t a b c d)
  have HSo := Lib.hid (fun n => @splitE_some word s n h20)
  have HSn := Lib.hid (@splitE_none word s h20)
  have HLs : Hid (splitL s = cutAt 10 (Lib.cut s [10]).2.1) := Lib.hid rfl
  generalize (Lib.cut s [10]).1 = hd at *
  generalize (Lib.cut s [10]).2.1 = bd at *
  generalize (Lib.cut s [10]).2.2 = is at *
  have hhd : hd.length ≤ 20000 := by omega
  have hbd : bd.length ≤ 20000 := by omega
  have HHd := Lib.hid hhd
  clear h20 hcl
  go_enter Tryz.func135, Tryz.ntmps135
  go_wp2_with fail
  refine HC.out.mono ?_
  rintro e w1 ⟨rfl, hb1⟩
  have HSt := Lib.hid (split1_any B hd 32 w1 (X.out _ hb1).2 (by omega))
  go_wp2_with fail
  refine HSt.out.mono ?_
  rintro e w2 ⟨rfl, hown, hb2⟩
  have hb2' := hb1.trans (hb2.mono hb1.size)
  obtain ⟨v1, v2, v3⟩ := HE1.out _ hb2'
  have hwl : (cutAt 32 hd).length ≤ 20001 := by
    have := cutAt_length 32 hd
    have h2 : hd.count 32 ≤ hd.length := List.count_le_length
    omega
  have hws : ∀ p ∈ cutAt 32 hd, p.length ≤ 20000 := fun p hp => by
    have := cutAt_mem_len (c := 32) hp; omega
  clear HSt HC hhd
  cases is with
  | false =>
    have HSp := Lib.hid (HSn.out (HNo.out rfl))
    clear hown hwl hws
    generalize cutAt 32 hd = W at *
    go_wp2_with fail
    go_quiet (fail)
    go_wp2_with fail
    go_ret3
    exact ⟨_, _, _, rfl, by rw [HSp.out]; exact ⟨by decide, rfl⟩, fun h => (by rw [HSp.out] at h; cases h), Bdn hb2' _⟩
  | true =>
  by_cases h5 : (cutAt 32 hd).length = 5
  case neg =>
    have HSp := Lib.hid (HSn.out (HLe.out h5))
    have g5 : (((cutAt 32 hd).length : Int) != 5) = true := by simp; omega
    clear hown hws h5 HLe HFv
    generalize cutAt 32 hd = W at *
    go_wp2_with fail
    go_quiet (fail)
    go_wp2_with fail
    go_ret3
    exact ⟨_, _, _, rfl, by rw [HSp.out]; exact ⟨by decide, rfl⟩, fun h => (by rw [HSp.out] at h; cases h), Bdn hb2' _⟩
  obtain ⟨t, n1, n2, n3, n4, hW⟩ := five_strs h5
  have HHe := Lib.hid (HFv.out t n1 n2 n3 n4 rfl hW)
  rw [hW] at hown hws ⊢
  have HWS := Lib.hid hws
  clear hws hW h5 hwl HLe HNo HFv
  obtain ⟨a', c', b', o', hv', ha', hc', hcm', hx'⟩ := hown.at encS_enc
  obtain ⟨rfl, rfl⟩ : a' = some ⟨w1.heap.size, 0, none⟩ ∧ c' = 5 := by cases hv'; exact ⟨rfl, rfl⟩
  obtain ⟨rfl, rfl⟩ : b' = w1.heap.size ∧ o' = 0 := by have := ha' (by simp); cases this; exact ⟨rfl, rfl⟩
  obtain ⟨b3, o3, c3, hrun, hat3⟩ := slice_from (enc := encS) (sz := 1) Tryz.underlying39 szStr ha' hc' hcm' hx' 1 (by simp) (by simp)
  have x0 := hx' 0 _ rfl 0 _ rfl
  simp only [List.length_cons, List.length_nil, Nat.zero_add, Nat.reduceAdd, Nat.reduceSub, Nat.mul_one, Nat.add_zero, List.drop_succ_cons, List.drop_zero] at hrun hat3 x0
  have e2 : ((1 : Nat) : Int) = 1 := rfl
  rw [e2] at hrun
  have hl6 : [t, n1, n2, n3, n4].length = 5 := rfl
  rw [hl6]
  clear hv' ha' hx' hown hcm' hc' e2 hl6
  by_cases hw : t = word
  case neg =>
    have gw : (t == word) = false := by simpa using hw
    have HSp := Lib.hid (HSn.out (by rw [HHe.out, if_neg hw]))
    clear hw hat3 hrun
    go_wp2_with fail
    go_quiet (fail)
    go_wp2_with fail
    go_ret3
    exact ⟨_, _, _, rfl, by rw [HSp.out]; exact ⟨by decide, rfl⟩, fun h => (by rw [HSp.out] at h; cases h), Bdn hb2' _⟩
  subst hw
  have HHe2 : Hid (headN t s = numsOf [n1, n2, n3, n4]) := Lib.hid (by rw [HHe.out, if_pos rfl])
  clear HHe
  go_wp2_with fail
  refine (numbers_any B _ [n1, n2, n3, n4] _ (X.out _ hb2').1 hat3 (by simp) (fun x hx => by have := HWS.out x (List.mem_cons_of_mem _ hx); omega)).mono ?_
  rintro e w3 ⟨v', rfl, hv1, hv2, hb3⟩
  have hb3' := hb2'.trans (hb3.mono hb2'.size)
  clear v1 v2 v3 hrun hat3 x0
  obtain ⟨v1, v2, v3⟩ := HE1.out _ hb3'
  cases hn : numsOf [n1, n2, n3, n4] with
  | none =>
    rw [hn] at hv2
    obtain rfl := hv2 rfl
    have HSp := Lib.hid (HSn.out (by rw [HHe2.out, hn]))
    clear hn hv1 hv2
    simp only [Option.isSome_none]
    go_wp2_with fail
    go_quiet (fail)
    go_wp2_with fail
    go_ret3
    exact ⟨_, _, _, rfl, by rw [HSp.out]; exact ⟨by decide, rfl⟩, fun h => (by rw [HSp.out] at h; cases h), Bdn hb3' _⟩
  | some ns =>
    have hown := hv1 ns hn
    have hnl := mapM_len _ hn
    obtain ⟨m0, m1, m2, m3, rfl⟩ := four_ints (l := ns) (by simpa using hnl)
    have HSp := Lib.hid (HSo.out _ (HHe2.out.trans hn))
    have HNs : Hid (splitN t s = [m0, m1, m2, m3]) := Lib.hid (by unfold splitN; rw [HHe2.out, hn]; rfl)
    clear hn hv1 hv2 hnl HSo HSn HHe2
    simp only [Option.isSome_some]
    have hownB := hown.base hb2'.size
    obtain ⟨a4, c4, b4, o4, hv4, ha4, hc4, hcm4, hx4⟩ := hown.at encI_enc
    subst hv4
    obtain rfl := ha4 (by simp)
    have z3 := hx4 3 _ rfl 0 _ rfl
    simp only [Nat.mul_one, Nat.add_zero] at z3
    have hl4 : [m0, m1, m2, m3].length = 4 := rfl
    rw [hl4] at hownB ⊢
    have HOwn := Lib.hid hownB
    have HSum := Lib.hid (fun W => sum_any bd W (by omega))
    have hsl := sumOf_lt bd
    simp only [List.getD_cons_zero, List.getD_cons_succ] at HSp
    obtain ⟨sm, hsm⟩ : ∃ sm, sumOf bd = sm := ⟨_, rfl⟩
    rw [hsm] at HSum HSp hsl
    have hwr : IntKind.i64.wrap (sm : Int) = (sm : Int) := by rw [IntKind.wrap_i64]; omega
    have Z3 := Lib.hid (fun W (h : Below w3.heap.size w3 W) => (h.cell (World.block_lt_of_cell? w3 _ z3)).trans z3)
    clear hx4 hown ha4 hc4 hcm4 hl4 hownB hsm z3
    have z3 := Z3.out _ (Below.refl w3.heap.size w3).drew
    go_wp2_with fail
    go_region_held3 (fun w' => w'.cell? ⟨b4, o4 + 3, none⟩ = some (.int .i64 m3)) (exact z3) ((go_at_call 172; (with_reducible refine (HSum.out _).mono ?_); rintro e w4 ⟨rfl, hb4⟩; have hb34 := (Below.refl w3.heap.size w3).drew.trans (hb4.mono (Below.refl w3.heap.size w3).drew.size); clear z3; have z3 := Z3.out _ hb34))
    all_goals
      have hb4' := hb3'.trans (hb34.mono hb3'.size)
      clear z3 v1 v2 v3
      obtain ⟨v1, v2, v3⟩ := HE1.out _ hb4'
      by_cases hq : m3 = (sm : Int)
      case neg =>
        have gq : (m3 != (sm : Int)) = true := by simpa using hq
        have HSp2 : Hid (splitE t s = .bare 10) := Lib.hid (by rw [HSp.out, if_neg hq])
        clear hq
        go_wp2_with fail
        go_quiet (fail)
        go_wp2_with fail
        go_ret3
        exact ⟨_, _, _, rfl, by rw [HSp2.out]; exact ⟨by decide, rfl⟩, fun h => (by rw [HSp2.out] at h; cases h), Bdn hb4' _⟩
      have gq : (m3 != (sm : Int)) = false := by simpa using hq
      have HSp2 : Hid (splitE t s = .nil) := Lib.hid (by rw [HSp.out, if_pos hq])
      have HSt := Lib.hid (fun W (h : Below w.heap.size w W) => split1_any B bd 10 W (X.out _ h).2 (by omega))
      clear hq
      go_wp2_with fail
      refine (HSt.out _ hb4').mono ?_
      rintro e w5 ⟨rfl, hown5, hb5⟩
      go_wp2_with fail
      go_ret3
      exact ⟨_, _, _, rfl, by rw [HSp2.out]; rfl, fun _ => ⟨by rw [HNs.out]; exact (HOwn.out.below hb34).below hb5, by rw [HLs.out]; exact hown5.base hb4'.size⟩, hb4'.trans (hb5.mono hb4'.size)⟩
/-- What data.Each answers. -/
theorem lineF_last {bad : Nat → Nat} {ls : List Str} {k : Nat} (h : k + 1 = ls.length) {x : Str} (hx : ls[k]? = some x) (hn : x ≠ []) : lineF bad ls k = 1 := by
  unfold lineF; rw [if_pos h, if_neg (by rw [hx]; simpa using hn)]
theorem lineF_end {bad : Nat → Nat} {ls : List Str} {k : Nat} (h : k + 1 = ls.length) (hx : ls[k]? = some []) : lineF bad ls k = 0 := by
  unfold lineF; rw [if_pos h, if_pos hx]
theorem lineF_mid {bad : Nat → Nat} {ls : List Str} {k : Nat} (h : k + 1 ≠ ls.length) : lineF bad ls k = bad k := by unfold lineF; rw [if_neg h]
set_option maxHeartbeats 2000000 in
set_option maxRecDepth 20000 in
theorem dataEach_any (E : Nat → Addr) (B : Nat) (v : Value) (ls : List Str) (f : FuncId) (caps : Array Value) (bad : Nat → Nat) (J : Nat → World → Prop) (n₀ : Nat) (w : World) (hE : Errs [1] E B w) (hBn : B ≤ n₀) (hn₀ : n₀ ≤ w.heap.size) (hf : Clo Tryz.prog f) (w0 : World) (hl : StrsAt w0 v ls) (h0n : w0.heap.size ≤ n₀) (hb0 : Below w0.heap.size w0 w) (hn : ls.length ≤ 100000) (hJ0 : J 0 w)
    (hdo : ∀ (i : Nat) (s : Str) W, ls[i]? = some s → J i W → Below n₀ w W → Calls Tryz.prog f (#[.int .i64 i, S s] ++ caps) W fun e W' => ∃ ev, e = .returned ev ∧ ErV E W' ev (erOf (bad i)) ∧ (bad i = 0 → J (i + 1) W') ∧ Below n₀ W W') :
    Calls Tryz.prog 136 #[v, .func (.func f) #[] caps] w fun e w' => ∃ ev, e = .returned ev ∧ ErV E w' ev (eachEr bad ls) ∧ (eachEr bad ls = .nil → J (ls.length - 1) w') ∧ Below n₀ w w' := by
  have hif := isIfaceE
  obtain ⟨a, c, b, o, rfl, ha, hc, hcm, hx⟩ := hl
  unfold maxLen at hcm
  have HX := Lib.hid hx
  have HDo := Lib.hid hdo
  have hf' := hf
  unfold Clo at hf'
  clear hx hdo
  have hV := fun W (h : Below n₀ w W) => (hE.below' h hBn).var 1 (by decide)
  simp only [errG] at hV
  have HV := Lib.hid hV
  clear hV
  go_enter Tryz.func136, Tryz.ntmps136
  go_wp2_with fail
  go_loopw [11] (fun i wr => ∃ k : Nat, k ≤ ls.length ∧ k + 1 ≤ ls.length + 1 ∧ i = .int .i64 k ∧ Hid (k < ls.length ∨ ls.length = 0) ∧ Hid (∀ j < k, lineF bad ls j = 0) ∧ Hid (J k wr) ∧ Below n₀ w wr) (fun i _ => ls.length - (intOf i).toNat)
  case atStart => exact ⟨0, by omega, by omega, rfl, Lib.hid (by omega), Lib.hid fun j hj => absurd hj (by omega), Lib.hid hJ0, Below.refl _ _⟩
  case round =>
    obtain ⟨k, hk, -, rfl, hkk, hj, hJk, hb⟩ := hrel
    obtain ⟨wo, rfl⟩ : ∃ wo, wo = wr := ⟨wr, rfl⟩
    by_cases hlt : k < ls.length
    case neg =>
      have h0 : ls.length = 0 := by have := hkk.out; omega
      have hk0 : k = 0 := by omega
      have HE0 : Hid (eachEr bad ls = .nil) := Lib.hid (firstErr_all fun j hj' => by omega)
      have HJ : Hid (J (ls.length - 1) wo) := Lib.hid (by rw [h0]; have := hJk.out; rwa [hk0] at this)
      have f : decide ((k : Int) < (ls.length : Int)) = false := by simp; omega
      clear h0 hk0
      go_wp2_with fail
      go_ret
      exact ⟨_, rfl, by rw [HE0.out]; rfl, fun _ => HJ.out, hb⟩
    obtain ⟨x, hxk⟩ := get_ex hlt
    have hbW := hb0.trans (hb.mono h0n)
    have c1 := HX.out k x hxk 0 _ rfl
    have c1 := (hbW.cell (World.block_lt_of_cell? w0 _ c1)).trans c1
    have i1 := idx_at (c := c) 1 Tryz.underlying39 szStr ha k hlt
    have hk1 : (k : Int) < (ls.length : Int) := by omega
    simp only [Nat.mul_one, Nat.add_zero] at c1 i1
    have HDk := Lib.hid (HDo.out k x wo hxk hJk.out hb)
    have HXk := Lib.hid hxk
    have hs0 : (0 : Int) ≤ (ls.length : Int) - 1 := by omega
    have hs1 : (ls.length : Int) - 1 < (ls.length : Int) := by omega
    clear hxk hbW
    by_cases hlast : k + 1 = ls.length
    case pos =>
      have gk : ((k : Int) == (ls.length : Int) - 1) = true := by simp; omega
      by_cases hx0 : x = []
      case pos =>
        subst hx0
        have HE0 : Hid (eachEr bad ls = .nil) := Lib.hid (firstErr_all fun j hj' => by
          rcases Nat.lt_or_ge j k with h | h
          · exact hj.out j h
          · obtain rfl : j = k := by omega
            exact lineF_end hlast HXk.out)
        have HJ : Hid (J (ls.length - 1) wo) := Lib.hid (by rw [← hlast]; exact hJk.out)
        clear hlast
        go_wp2_with fail
        go_ret
        exact ⟨_, rfl, by rw [HE0.out]; rfl, fun _ => HJ.out, hb⟩
      have gx : (x == []) = false := by simpa using hx0
      have gx2 : x.isEmpty = false := by cases x with | nil => exact absurd rfl hx0 | cons _ _ => rfl
      have HE0 : Hid (eachEr bad ls = .loc 1 k) := Lib.hid (by
        have hf1 := lineF_last (bad := bad) hlast HXk.out hx0
        unfold eachEr
        rw [firstErr_hit hlt hj.out (by rw [hf1]; decide), hf1])
      clear hlast hx0
      go_wp2_with fail
      refine HDk.out.mono ?_
      rintro e w2 ⟨ev, rfl, hev, -, hb2⟩
      have hb2' := hb.trans hb2
      have v1 := HV.out _ hb2'
      clear c1 hev
      go_wp2_with fail
      go_ret
      have hsz : n₀ ≤ w2.heap.size := Nat.le_trans hn₀ hb2'.size
      exact ⟨_, rfl, by rw [HE0.out]; exact ErV.fresh (by decide) _ _ _ _ rfl, fun h => (by rw [HE0.out] at h; cases h), hb2'.alloc hsz _⟩
    have gk : ((k : Int) == (ls.length : Int) - 1) = false := by simp; omega
    have hmid := lineF_mid (bad := bad) hlast
    by_cases hbk : bad k = 0
    case pos =>
      have HJ1 : Hid (∀ j < k + 1, lineF bad ls j = 0) := Lib.hid fun j hj' => (by
        rcases Nat.lt_or_ge j k with h | h
        · exact hj.out j h
        · obtain rfl : j = k := by omega
          exact hmid.trans hbk)
      have HK1 : Hid (k + 1 < ls.length ∨ ls.length = 0) := Lib.hid (by omega)
      have HBk := Lib.hid hbk
      clear hmid hbk hlast
      go_wp2_with fail
      refine HDk.out.mono ?_
      rintro e w2 ⟨ev, rfl, hev, hjj, hb2⟩
      rw [HBk.out] at hev
      obtain rfl : ev = .nilIface := hev
      have hb2' := hb.trans hb2
      have HJn := Lib.hid (hjj HBk.out)
      clear c1 hjj
      go_wp2_with fail
      go_roundw
      case rel => exact ⟨k + 1, by omega, by omega, by go_num, HK1, HJ1, HJn, hb2'⟩
      case measure => simp [intOf]; omega
    have HE0 : Hid (eachEr bad ls = .loc (bad k) k) := Lib.hid (by
      unfold eachEr
      rw [firstErr_hit hlt hj.out (by rw [hmid]; exact hbk), hmid])
    have HBk := Lib.hid hbk
    clear hmid hbk hlast
    go_wp2_with fail
    refine HDk.out.mono ?_
    rintro e w2 ⟨ev, rfl, hev, -, hb2⟩
    rw [show erOf (bad k) = .bare (bad k) from if_neg HBk.out] at hev
    obtain ⟨hcr, rfl⟩ := hev
    have hb2' := hb.trans hb2
    have HCr := Lib.hid hcr
    clear c1 hcr
    go_wp2_with fail
    go_ret
    have hsz : n₀ ≤ w2.heap.size := Nat.le_trans hn₀ hb2'.size
    exact ⟨_, rfl, by rw [HE0.out]; exact ErV.fresh HCr.out _ _ _ _ rfl, fun h => (by rw [HE0.out] at h; cases h), hb2'.alloc hsz _⟩
end Go.Proofs.YtpfohfihkmjnaaaGreatDoor
namespace Go.Proofs.YtpfohfihkmjnaaaGreatDoor
open Go.RowKit
set_option maxHeartbeats 2000000 in
set_option maxRecDepth 20000 in
theorem dataFits_any (v : Value) (n0 n1 n2 n3 : Int) (u : Value) (keys : List Int) (w : World) (hl : IntsAt w v [n0, n1, n2, n3]) (hk : IntsAt w u keys) (hn : keys.length ≤ 100000) :
    Calls Tryz.prog 139 #[v, u] w fun e w' => e = .returned (.bool (decide (fitsI [n0, n1, n2, n3] keys))) ∧ Below w.heap.size w w' := by
  obtain ⟨a4, c4, b4, o4, hv4, ha4, hc4, hcm4, hx4⟩ := hl
  subst hv4
  obtain rfl := ha4 (by simp)
  have z0 := hx4 0 _ rfl 0 _ rfl
  have z1 := hx4 1 _ rfl 0 _ rfl
  have z2 := hx4 2 _ rfl 0 _ rfl
  simp only [Nat.mul_one, Nat.add_zero] at z0 z1 z2
  have hl4 : [n0, n1, n2, n3].length = 4 := rfl
  rw [hl4]
  clear hx4 ha4 hc4 hcm4 hl4
  have hf : fitsI [n0, n1, n2, n3] keys ↔ n0 = keys.length ∧ n1 = (endsI keys).1 ∧ n2 = (endsI keys).2 := Iff.rfl
  by_cases h0 : keys = []
  · subst h0
    obtain ⟨a, c, rfl, -, -⟩ := hk.form'
    have e0 : endsI [] = (0, 0) := rfl
    rw [e0] at hf
    simp only [List.length_nil] at hf ⊢
    have HF := Lib.hid hf
    clear hf hk e0
    by_cases h1 : n0 = 0
    case neg =>
      have g1 : (n0 == 0) = false := by simpa using h1
      have hd : decide (fitsI [n0, n1, n2, n3] []) = false := decide_eq_false fun h => h1 (HF.out.1 h).1
      rw [hd]
      clear hd h1
      go_enter Tryz.func139, Tryz.ntmps139
      go_wp2_with fail
      go_ret
      exact ⟨rfl, Below.refl _ _⟩
    have g1 : (n0 == 0) = true := by simpa using h1
    by_cases h2 : n1 = 0
    case neg =>
      have g2 : (n1 == 0) = false := by simpa using h2
      have hd : decide (fitsI [n0, n1, n2, n3] []) = false := decide_eq_false fun h => h2 (HF.out.1 h).2.1
      rw [hd]
      clear hd h1 h2
      go_enter Tryz.func139, Tryz.ntmps139
      go_wp2_with fail
      go_ret
      exact ⟨rfl, Below.refl _ _⟩
    have g2 : (n1 == 0) = true := by simpa using h2
    by_cases h3 : n2 = 0
    case neg =>
      have g3 : (n2 == 0) = false := by simpa using h3
      have hd : decide (fitsI [n0, n1, n2, n3] []) = false := decide_eq_false fun h => h3 (HF.out.1 h).2.2
      rw [hd]
      clear hd h1 h2 h3
      go_enter Tryz.func139, Tryz.ntmps139
      go_wp2_with fail
      go_ret
      exact ⟨rfl, Below.refl _ _⟩
    have g3 : (n2 == 0) = true := by simpa using h3
    have hd : decide (fitsI [n0, n1, n2, n3] []) = true := decide_eq_true (HF.out.2 ⟨h1, h2, h3⟩)
    rw [hd]
    clear hd h1 h2 h3
    go_enter Tryz.func139, Tryz.ntmps139
    go_wp2_with fail
    go_ret
    exact ⟨rfl, Below.refl _ _⟩
  · have HMin := Lib.hid (fun q => (minI_any u keys (w.drewN q) (hk.below (Bdn (Below.refl _ _) q)) h0 hn).mono fun e w' (h : _ ∧ w.drewN q = w') => (⟨h.1, h.2.symm⟩ : _ ∧ w' = w.drewN q))
    have HMax := Lib.hid (fun q => (maxI_any u keys (w.drewN q) (hk.below (Bdn (Below.refl _ _) q)) h0 hn).mono fun e w' (h : _ ∧ w.drewN q = w') => (⟨h.1, h.2.symm⟩ : _ ∧ w' = w.drewN q))
    obtain ⟨a, c, rfl, -, -⟩ := hk.form'
    have hpos : 0 < keys.length := List.length_pos_iff.2 h0
    have gk : ((keys.length : Int) == 0) = false := by simp; omega
    obtain ⟨lo, hlo⟩ : ∃ lo, (endsI keys).1 = lo := ⟨_, rfl⟩
    obtain ⟨hi, hhi⟩ : ∃ hi, (endsI keys).2 = hi := ⟨_, rfl⟩
    rw [hlo, hhi] at hf
    simp only [hlo, hhi] at HMin HMax
    have HF := Lib.hid hf
    clear hf hk h0 hlo hhi hpos
    by_cases h1 : n0 = keys.length
    case neg =>
      have g1 : (n0 == (keys.length : Int)) = false := by simpa using h1
      have hd : decide (fitsI [n0, n1, n2, n3] keys) = false := decide_eq_false fun h => h1 (HF.out.1 h).1
      rw [hd]
      clear hd h1
      go_enter Tryz.func139, Tryz.ntmps139
      go_wp2_with fail
      go_quiet (first | (go_at_call 133; refine Calls.quiet_of_same (HMin.out _)) | (go_at_call 134; refine Calls.quiet_of_same (HMax.out _)))
      go_wp2_with fail
      go_ret
      exact ⟨rfl, Bdn (Below.refl _ _) _⟩
    have g1 : (n0 == (keys.length : Int)) = true := by simpa using h1
    by_cases h2 : n1 = lo
    case neg =>
      have g2 : (n1 == lo) = false := by simpa using h2
      have hd : decide (fitsI [n0, n1, n2, n3] keys) = false := decide_eq_false fun h => h2 (HF.out.1 h).2.1
      rw [hd]
      clear hd h1 h2
      go_enter Tryz.func139, Tryz.ntmps139
      go_wp2_with fail
      go_quiet (first | (go_at_call 133; refine Calls.quiet_of_same (HMin.out _)) | (go_at_call 134; refine Calls.quiet_of_same (HMax.out _)))
      go_wp2_with fail
      go_ret
      exact ⟨rfl, Bdn (Below.refl _ _) _⟩
    have g2 : (n1 == lo) = true := by simpa using h2
    by_cases h3 : n2 = hi
    case neg =>
      have g3 : (n2 == hi) = false := by simpa using h3
      have hd : decide (fitsI [n0, n1, n2, n3] keys) = false := decide_eq_false fun h => h3 (HF.out.1 h).2.2
      rw [hd]
      clear hd h1 h2 h3
      go_enter Tryz.func139, Tryz.ntmps139
      go_wp2_with fail
      go_quiet (first | (go_at_call 133; refine Calls.quiet_of_same (HMin.out _)) | (go_at_call 134; refine Calls.quiet_of_same (HMax.out _)))
      go_wp2_with fail
      go_ret
      exact ⟨rfl, Bdn (Below.refl _ _) _⟩
    have g3 : (n2 == hi) = true := by simpa using h3
    have hd : decide (fitsI [n0, n1, n2, n3] keys) = true := decide_eq_true (HF.out.2 ⟨h1, h2, h3⟩)
    rw [hd]
    clear hd h1 h2 h3
    go_enter Tryz.func139, Tryz.ntmps139
    go_wp2_with fail
    go_quiet (first | (go_at_call 133; refine Calls.quiet_of_same (HMin.out _)) | (go_at_call 134; refine Calls.quiet_of_same (HMax.out _)))
    go_wp2_with fail
    go_ret
    exact ⟨rfl, Bdn (Below.refl _ _) _⟩
end Go.Proofs.YtpfohfihkmjnaaaGreatDoor
