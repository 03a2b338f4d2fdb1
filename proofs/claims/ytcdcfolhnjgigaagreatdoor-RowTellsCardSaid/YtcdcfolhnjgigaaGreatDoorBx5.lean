/- file.Check; list.Compare; list.Check. cmp.Or at int; list.Compare. A function value that answers by a plain predicate. The library's generic functions at []api.File: IndexFunc, Clone, Delete, Insert, BinarySearchFunc. list.Check. strings.Builder: WriteString and String, laid at this program by hand (the tool passes over copyCheck, whose body here names no text). file.Text; list.Text. -/
import Derived.Test.YtcdcfolhnjgigaaGreatDoorBx4
import Derived.Outline
import Derived.Test.YtcdcfolhnjgigaaGreatDoorBx2
import Derived.Deep.RegionHeld3
import Derived.Test.YtcdcfolhnjgigaaGreatDoorBx1
import Derived.Shelf.Strings.Builder1
import Derived.Test.YtcdcfolhnjgigaaGreatDoorBx3
namespace Go.Proofs.YtcdcfolhnjgigaaGreatDoor
open Go.RowKit

theorem fileCells {w w1 w6 : World} {f : Fl} (hw : w1 = w.alloc (fileO f)) (h6 : Below w1.heap.size w1 w6) :
    w6.cell? ⟨w.heap.size, 0, none⟩ = some (S f.path) ∧ w6.cell? ⟨w.heap.size, 1, none⟩ = some (S f.part) ∧ w6.cell? ⟨w.heap.size, 2, none⟩ = some (.int .i64 f.n) ∧ w6.cell? ⟨w.heap.size, 3, none⟩ = some (.int .i64 f.lo) ∧ w6.cell? ⟨w.heap.size, 4, none⟩ = some (.int .i64 f.hi) ∧ w6.cell? ⟨w.heap.size, 5, none⟩ = some (.int .i64 f.seq) := by
  subst hw
  have h := heap_alloc_new w (.cells #[S f.path, S f.part, .int .i64 f.n, .int .i64 f.lo, .int .i64 f.hi, .int .i64 f.seq] 69)
  have h' := (h6.block w.heap.size (by simp)).trans h
  refine ⟨?_, ?_, ?_, ?_, ?_, ?_⟩ <;> (rw [cell_of_row w6 _ _ _ _ (0, 0) h']; rfl)

/-- A file's error. -/
def fileEr (f : Fl) : Er := if checkF f = 0 then .nil else .bare (checkF f)
theorem fileEr_nil {f : Fl} (h : checkF f = 0) : fileEr f = .nil := if_pos h
theorem fileEr_bad {f : Fl} {c : Nat} (h : checkF f = c) (h0 : c ≠ 0) : fileEr f = .bare c := by unfold fileEr; rw [if_neg (by omega), h]
theorem fileEr_iff {f : Fl} : fileEr f = .nil ↔ checkF f = 0 := by
  unfold fileEr; split
  · simp [*]
  · simp [*]
theorem checkF_none {f : Fl} (h : pathF f.path = none) : checkF f = 5 := by unfold checkF; rw [if_pos h]
theorem checkF_part {f : Fl} {kn} (h : pathF f.path = some kn) (h2 : partOk (kindF f.path) f.part = false) : checkF f = 4 := by unfold checkF; rw [if_neg (by rw [h]; simp), if_pos h2]
theorem checkF_bound {f : Fl} {kn} (h : pathF f.path = some kn) (h2 : partOk (kindF f.path) f.part = true) (h3 : boundF f) : checkF f = 2 := by unfold checkF; rw [if_neg (by rw [h]; simp), if_neg (by rw [h2]; decide), if_pos h3]
theorem checkF_right {f : Fl} {kn} (h : pathF f.path = some kn) (h2 : partOk (kindF f.path) f.part = true) (h3 : ¬ boundF f) : checkF f = 0 := by unfold checkF; rw [if_neg (by rw [h]; simp), if_neg (by rw [h2]; decide), if_neg h3]

set_option maxHeartbeats 2000000 in
set_option maxRecDepth 20000 in
theorem fileCheck_any (E : Nat → Addr) (B : Nat) (f : Fl) (w : World) (hE : Errs [2, 4, 5] E B w) (hT : LNum B w) (hM : LMax B w) (hs : midF f) :
    Calls Tryz.prog 155 #[fileV f] w fun e w' => ∃ ev, e = .returned ev ∧ ErV E w' ev (fileEr f) ∧ Below w.heap.size w w' := by
  have hBw := hE.le
  obtain ⟨hs1, hs2⟩ := hs
  have hb0 : Below w.heap.size w (w.alloc (.cells #[S f.path, S f.part, .int .i64 f.n, .int .i64 f.lo, .int .i64 f.hi, .int .i64 f.seq] 69)) := (Below.refl _ _).alloc (Nat.le_refl _) _
  have Cs := Lib.hid (fun w6 (h : Below (w.alloc (.cells #[S f.path, S f.part, .int .i64 f.n, .int .i64 f.lo, .int .i64 f.hi, .int .i64 f.seq] 69)).heap.size (w.alloc (.cells #[S f.path, S f.part, .int .i64 f.n, .int .i64 f.lo, .int .i64 f.hi, .int .i64 f.seq] 69)) w6) => fileCells rfl h)
  have hE1 := hE.below' hb0 hE.le; have hT1 := hT.below' hb0 hE.le; have hM1 := hM.below' hb0 hE.le
  have V0 := fun w6 (h : Below (w.alloc (.cells #[S f.path, S f.part, .int .i64 f.n, .int .i64 f.lo, .int .i64 f.hi, .int .i64 f.seq] 69)).heap.size (w.alloc (.cells #[S f.path, S f.part, .int .i64 f.n, .int .i64 f.lo, .int .i64 f.hi, .int .i64 f.seq] 69)) w6) => (⟨(hE1.below' h hE1.le).var 2 (by decide), (hE1.below' h hE1.le).var 4 (by decide)⟩ : _ ∧ _)
  simp only [errG] at V0
  have V := Lib.hid V0
  clear V0
  obtain ⟨c0, c1, c2, c3, c4, c5⟩ := Cs.out _ (Below.refl _ _)
  go_enter Tryz.func155, Tryz.ntmps155
  go_wp2_with fail
  generalize w.alloc (.cells #[S f.path, S f.part, .int .i64 f.n, .int .i64 f.lo, .int .i64 f.hi, .int .i64 f.seq] 69) = w1 at *
  refine (fileNumber_any E B f.path _ (hE1.sub (by decide)) hT1 hM1 (by omega)).mono ?_
  rintro e w2 ⟨ev, rfl, hev, hb2⟩
  clear c0 c1 c2 c3 c4 c5
  obtain ⟨c0, c1, c2, c3, c4, c5⟩ := Cs.out w2 hb2
  have hb2' := hb0.trans (hb2.mono hb0.size)
  cases hpf : pathF f.path with
  | none =>
    rw [hpf] at hev
    obtain ⟨-, rfl⟩ := hev
    have HF := Lib.hid (fileEr_bad (checkF_none hpf) (by decide))
    clear hpf
    go_wp2_with fail
    go_ret
    exact ⟨_, rfl, by rw [HF.out]; exact ⟨by decide, rfl⟩, hb2'⟩
  | some kn =>
    rw [hpf] at hev
    obtain rfl : ev = .nilIface := hev
    have HP := Lib.hid hpf
    clear hpf
    go_wp2_with fail
    refine (part_any (kindF f.path) f.part _ (by omega)).mono ?_
    rintro e w3 ⟨rfl, hb3⟩
    have hb3' := hb2.trans (hb3.mono hb2.size)
    have hb3w := hb2'.trans (hb3.mono hb2'.size)
    clear c0 c1 c2 c3 c4 c5
    obtain ⟨c0, c1, c2, c3, c4, c5⟩ := Cs.out w3 hb3'
    obtain ⟨v2, v4⟩ := V.out w3 hb3'
    generalize hpk : partOk (kindF f.path) f.part = pk
    have HK := Lib.hid hpk
    clear hpk hb2 hb3 hb2' hb3'
    cases pk with
    | false =>
      have HF := Lib.hid (fileEr_bad (checkF_part HP.out HK.out) (by decide))
      go_wp2_with fail
      go_ret
      exact ⟨_, rfl, by rw [HF.out]; exact ⟨by decide, rfl⟩, hb3w⟩
    | true =>
      by_cases b1 : f.n < 1
      · have HF := Lib.hid (fileEr_bad (checkF_bound HP.out HK.out (.inl b1)) (by decide))
        go_wp2_with fail
        go_ret
        exact ⟨_, rfl, by rw [HF.out]; exact ⟨by decide, rfl⟩, hb3w⟩
      have g1 : decide (f.n < 1) = false := by simpa using b1
      by_cases b2 : 40 < f.n
      · have HF := Lib.hid (fileEr_bad (checkF_bound HP.out HK.out (.inr (.inl b2))) (by decide))
        clear b1
        go_wp2_with fail
        go_ret
        exact ⟨_, rfl, by rw [HF.out]; exact ⟨by decide, rfl⟩, hb3w⟩
      have g2 : decide (40 < f.n) = false := by simpa using b2
      have B12 := Lib.hid (⟨b1, b2⟩ : _ ∧ _)
      clear b1 b2
      go_wp2_with fail
      refine (far_any f.lo _).mono ?_
      rintro e w4 ⟨rfl, rfl⟩
      by_cases b3 : farN f.lo
      · have HF := Lib.hid (fileEr_bad (checkF_bound HP.out HK.out (.inr (.inr (.inl b3)))) (by decide))
        rw [decide_eq_true b3]
        clear b3
        go_wp2_with fail
        go_ret
        exact ⟨_, rfl, by rw [HF.out]; exact ⟨by decide, rfl⟩, hb3w⟩
      rw [decide_eq_false b3]
      have B3 := Lib.hid b3
      clear b3
      go_wp2_with fail
      refine (far_any f.hi _).mono ?_
      rintro e w4 ⟨rfl, rfl⟩
      by_cases b4 : farN f.hi
      · have HF := Lib.hid (fileEr_bad (checkF_bound HP.out HK.out (.inr (.inr (.inr (.inl b4))))) (by decide))
        rw [decide_eq_true b4]
        clear b4
        go_wp2_with fail
        go_ret
        exact ⟨_, rfl, by rw [HF.out]; exact ⟨by decide, rfl⟩, hb3w⟩
      rw [decide_eq_false b4]
      have B4 := Lib.hid b4
      clear b4
      by_cases b5 : f.hi < f.lo
      · have HF := Lib.hid (fileEr_bad (checkF_bound HP.out HK.out (.inr (.inr (.inr (.inr (.inl b5)))))) (by decide))
        go_wp2_with fail
        go_ret
        exact ⟨_, rfl, by rw [HF.out]; exact ⟨by decide, rfl⟩, hb3w⟩
      have g5 : decide (f.hi < f.lo) = false := by simpa using b5
      by_cases b6 : f.seq < 1
      · have HF := Lib.hid (fileEr_bad (checkF_bound HP.out HK.out (.inr (.inr (.inr (.inr (.inr (.inl b6))))))) (by decide))
        clear b5
        go_wp2_with fail
        go_ret
        exact ⟨_, rfl, by rw [HF.out]; exact ⟨by decide, rfl⟩, hb3w⟩
      have g6 : decide (f.seq < 1) = false := by simpa using b6
      by_cases b7 : 1073741824 < f.seq
      · have HF := Lib.hid (fileEr_bad (checkF_bound HP.out HK.out (.inr (.inr (.inr (.inr (.inr (.inr b7))))))) (by decide))
        clear b5 b6
        go_wp2_with fail
        go_ret
        exact ⟨_, rfl, by rw [HF.out]; exact ⟨by decide, rfl⟩, hb3w⟩
      have g7 : decide (1073741824 < f.seq) = false := by simpa using b7
      have HF := Lib.hid (fileEr_nil (checkF_right HP.out HK.out (by
        rintro (h | h | h | h | h | h | h)
        · have := B12.out.1; omega
        · have := B12.out.2; omega
        · exact B3.out h
        · exact B4.out h
        · exact b5 h
        · exact b6 h
        · exact b7 h)))
      clear b5 b6 b7
      go_wp2_with fail
      go_ret
      exact ⟨_, rfl, by rw [HF.out]; rfl, hb3w⟩
end Go.Proofs.YtcdcfolhnjgigaaGreatDoor
namespace Go.Proofs.YtcdcfolhnjgigaaGreatDoor
open Go.RowKit

/-- A slice of numbers written out in a new block. -/
theorem ints_new (l : List Int) (w : World) (t : TypeId) (H n : Nat) (cs : Array Value) (hH : w.heap.size = H) (hcs : cs = (l.map (Value.int .i64)).toArray) (hn : l.length = n) (hm : n ≤ 100000) : IntsAt (w.alloc (.cells cs t)) (.slice (some ⟨H, 0, none⟩) n n) l := by
  subst hH hcs hn
  refine ⟨_, _, w.heap.size, 0, rfl, fun _ => rfl, Nat.le_refl _, by unfold maxLen; omega, fun k z hk j u hu => ?_⟩
  obtain rfl : j = 0 := by
    rcases Nat.eq_zero_or_pos j with h | h
    · exact h
    · rw [List.getElem?_eq_none (by simp; omega)] at hu; cases hu
  obtain rfl : .int .i64 z = u := by simpa using hu
  rw [cell_of_row (w.alloc _) w.heap.size _ _ t (0, 0) (heap_alloc_new w _)]
  simp [hk]

/-- The first number that is not 0. -/
def orOf (l : List Int) : Int := (l.find? (fun x => x != 0)).getD 0
theorem orOf_hit {l : List Int} {k : Nat} {x : Int} (hk : l[k]? = some x) (hx : x ≠ 0) (h : ∀ (j : Nat), j < k → ∀ y, l[j]? = some y → y = 0) : orOf l = x := by
  unfold orOf
  obtain ⟨h1, h2⟩ := List.getElem?_eq_some_iff.1 hk
  have : l.find? (fun x => x != 0) = some x := by
    rw [List.find?_eq_some_iff_getElem]
    refine ⟨by simpa using hx, k, h1, h2, fun j hj => ?_⟩
    have := h j hj l[j] (by simp)
    simp [this]
  rw [this]; rfl
theorem orOf_none {l : List Int} (h : ∀ (j : Nat) (y : Int), l[j]? = some y → y = 0) : orOf l = 0 := by
  unfold orOf
  have : l.find? (fun x => x != 0) = none := List.find?_eq_none.2 fun x hx => by
    obtain ⟨j, hj⟩ := List.getElem?_of_mem hx
    simp [h j x hj]
  rw [this]; rfl

theorem cmpOr_any (v : Value) (l : List Int) (w : World) (hl : IntsAt w v l) :
    Calls Tryz.prog 138 #[v] w fun e w' => e = .returned (.int .i64 (orOf l)) ∧ w = w' := by
  obtain ⟨a, c, b, o, rfl, ha, hc, hcm, hx⟩ := hl
  unfold maxLen at hcm
  go_enter Tryz.func138, Tryz.ntmps138
  go_wp2_with fail
  go_loop [8] (fun i => ∃ k : Nat, k ≤ l.length ∧ i = .int .i64 k ∧ Hid (∀ (j : Nat), j < k → ∀ y, l[j]? = some y → y = 0)) (fun i => l.length - (intOf i).toNat)
  case atStart => exact ⟨0, by omega, rfl, Lib.hid fun j hj => absurd hj (by omega)⟩
  case round =>
    obtain ⟨k, hk, rfl, hj⟩ := hrel
    by_cases hlt : k < l.length
    · obtain ⟨x, hxk⟩ := get_ex hlt
      have c1 := hx k x hxk 0 _ rfl
      have i1 := idx_at (c := c) 1 Tryz.underlying39 szInt ha k hlt
      have hk1 : (k : Int) < (l.length : Int) := by omega
      simp only [Nat.mul_one, Nat.add_zero] at c1 i1
      have Hx := Lib.hid hxk; clear hxk
      by_cases h0 : x = 0
      · subst h0
        go_wp2_with fail
        go_round
        case rel => exact ⟨k + 1, by omega, by go_num, Lib.hid fun j hj' y hy => by
          rcases Nat.lt_or_ge j k with h | h
          · exact hj.out j h y hy
          · obtain rfl : j = k := by omega
            rw [Hx.out] at hy
            exact (Option.some.inj hy).symm⟩
        case measure => simp [intOf]; omega
      · have g : (x != 0) = true := by simpa using h0
        have H := Lib.hid (orOf_hit Hx.out h0 hj.out)
        clear h0
        go_wp2_with fail
        go_ret
        exact ⟨by rw [H.out]; rfl, rfl⟩
    · obtain rfl : k = l.length := by omega
      go_wp2_with fail
      go_ret
      exact ⟨by rw [orOf_none fun j y hy => hj.out j (List.getElem?_eq_some_iff.1 hy).1 y hy]; rfl, rfl⟩

theorem strCompare_any (a b : Str) (w : World) : Calls Tryz.prog 67 #[S a, S b] w fun e w' => e = .returned (.int .i64 (Lib.compareBytes a b)) ∧ w = w' :=
  (Tryz.strings_Compare ⟨a.toArray⟩ ⟨b.toArray⟩ w).mono fun _ _ ⟨h1, h2⟩ => ⟨by simpa using h1, h2.symm⟩
theorem orOf_two (x y : Int) : orOf [x, y] = if x ≠ 0 then x else y := by
  unfold orOf
  by_cases h : x = 0
  · subst h
    by_cases h2 : y = 0
    · subst h2; decide
    · rw [if_neg (by simp)]
      simp [h2]
  · rw [if_pos h]
    simp [h]
theorem numF_bound (p : Str) : 0 ≤ numF p ∧ numF p ≤ 1073741824 := by
  rcases path_ways p with ⟨-, -, h, -⟩ | ⟨n, h1, h2, -, h, -⟩ | ⟨n, h1, h2, -, h, -⟩ <;> rw [h] <;> omega
set_option maxRecDepth 20000 in
theorem listCompare_any (E : Nat → Addr) (B : Nat) (a b : Str) (w : World) (hE : Errs [5] E B w) (hT : LNum B w) (hM : LMax B w) (ha : a.length ≤ 100000) (hb : b.length ≤ 100000) :
    Calls Tryz.prog 156 #[S a, S b] w fun e w' => e = .returned (.int .i64 (cmpP a b)) ∧ Below w.heap.size w w' := by
  obtain ⟨n1, n2⟩ := numF_bound a
  obtain ⟨m1, m2⟩ := numF_bound b
  have hc : cmpP a b = orOf [Lib.compareBytes (kindF a) (kindF b), numF a - numF b] := by rw [orOf_two]; rfl
  have HC := Lib.hid hc
  clear hc
  go_enter Tryz.func156, Tryz.ntmps156
  go_wp2_with fail
  refine (fileNumber_any E B a _ hE hT hM ha).mono ?_
  rintro e w1 ⟨ev1, rfl, -, hb1⟩
  go_wp2_with fail
  refine (fileNumber_any E B b _ (hE.below' hb1 hE.le) (hT.below' hb1 hT.le) (hM.below' hb1 hM.le) hb).mono ?_
  rintro e w2 ⟨ev2, rfl, -, hb2⟩
  have hb2' := hb1.trans (hb2.mono hb1.size)
  clear hb1 hb2
  generalize hk1 : kindF a = k1
  generalize hk2 : kindF b = k2
  generalize hn1 : numF a = x1 at n1 n2 ⊢
  generalize hn2 : numF b = x2 at m1 m2 ⊢
  rw [hk1, hk2, hn1, hn2] at HC
  clear hk1 hk2 hn1 hn2
  go_wp2_with fail
  refine (strCompare_any k1 k2 _).mono ?_
  rintro e w3 ⟨rfl, rfl⟩
  generalize Lib.compareBytes k1 k2 = c at HC ⊢
  go_wp2_with fail
  refine (cmpOr_any _ [c, x1 - x2] _ (ints_new _ w2 _ _ 2 _ rfl rfl rfl (by decide))).mono ?_
  rintro e w4 ⟨rfl, rfl⟩
  go_wp2_with fail
  go_ret
  exact ⟨by rw [HC.out]; rfl, hb2'.alloc hb2'.size _⟩
end Go.Proofs.YtcdcfolhnjgigaaGreatDoor
namespace Go.Proofs.YtcdcfolhnjgigaaGreatDoor
open Go.RowKit

/-- A function value's call enters its body. -/
def Clo (P : Program) (f : FuncId) : Prop := ∀ args W, (callFunc f args).run P W = .ok (.enter f args) W
/-- The function value f, with what it captured, answers p of each element of l, in every world that is as w0 was below base. -/
def PredOn {α : Type} (P : Program) (f : FuncId) (caps : Array Value) (val : α → Value) (l : List α) (p : α → Bool) (base : Nat) (w0 : World) : Prop :=
  ∀ W x, x ∈ l → Below base w0 W → base ≤ W.heap.size → Calls P f (#[val x] ++ caps) W fun e W' => e = .returned (.bool (p x)) ∧ Below W.heap.size W W'

theorem PredOn.sub {α : Type} {P : Program} {f : FuncId} {caps : Array Value} {val : α → Value} {l m : List α} {p : α → Bool} {base : Nat} {w0 : World} (h : PredOn P f caps val l p base w0) (hm : ∀ x ∈ m, x ∈ l) : PredOn P f caps val m p base w0 :=
  fun W x hx => h W x (hm x hx)

def idxVal {α : Type} (p : α → Bool) (l : List α) : Int := match l.findIdx? p with | none => -1 | some i => i

theorem idxVal_none {α : Type} {p : α → Bool} {l : List α} (h : ∀ (j : Nat) (x : α), l[j]? = some x → p x = false) : idxVal p l = -1 := by
  unfold idxVal
  have : l.findIdx? p = none := List.findIdx?_eq_none_iff.2 fun x hx => by
    obtain ⟨j, hj, he⟩ := List.getElem_of_mem hx
    exact h j x (by simp [hj, he])
  rw [this]
theorem idxVal_some {α : Type} {p : α → Bool} {l : List α} {k : Nat} {x : α} (hk : l[k]? = some x) (hp : p x = true) (h : ∀ (j : Nat) (y : α), j < k → l[j]? = some y → p y = false) : idxVal p l = k := by
  unfold idxVal
  have hlt : k < l.length := by
    rcases Nat.lt_or_ge k l.length with h' | h'
    · exact h'
    · rw [List.getElem?_eq_none h'] at hk; cases hk
  have hx : l[k] = x := by rw [List.getElem?_eq_getElem hlt] at hk; exact Option.some.inj hk
  have : l.findIdx? p = some k := List.findIdx?_eq_some_iff_getElem.2 ⟨hlt, by rw [hx]; exact hp, fun j hj => by
    have := h j l[j] hj (by simp)
    simpa using this⟩
  rw [this]
end Go.Proofs.YtcdcfolhnjgigaaGreatDoor
namespace Go.Proofs.YtcdcfolhnjgigaaGreatDoor
open Go.RowKit

/-- A round's cells. -/
theorem flCells {w w' : World} {b o : Nat} {l : List Fl} {k : Nat} {x : Fl} (hx : ∀ (k : Nat) (x : Fl), l[k]? = some x → ∀ (j : Nat) (u : Value), (encF x)[j]? = some u → w.cell? ⟨b, o + k * 6 + j, none⟩ = some u) (hb : Below w.heap.size w w') (hk : l[k]? = some x) :
    w'.cell? ⟨b, o + k * 6, none⟩ = some (S x.path) ∧ w'.cell? ⟨b, o + k * 6 + 1, none⟩ = some (S x.part) ∧ w'.cell? ⟨b, o + k * 6 + 2, none⟩ = some (.int .i64 x.n) ∧ w'.cell? ⟨b, o + k * 6 + 3, none⟩ = some (.int .i64 x.lo) ∧ w'.cell? ⟨b, o + k * 6 + 4, none⟩ = some (.int .i64 x.hi) ∧ w'.cell? ⟨b, o + k * 6 + 5, none⟩ = some (.int .i64 x.seq) := by
  have h := fun j u hu => by
    have := hx k x hk j u hu
    exact (hb.cell (World.block_lt_of_cell? w _ this)).trans this
  exact ⟨h 0 _ rfl, h 1 _ rfl, h 2 _ rfl, h 3 _ rfl, h 4 _ rfl, h 5 _ rfl⟩

end Go.Proofs.YtcdcfolhnjgigaaGreatDoor
namespace Go.Proofs.YtcdcfolhnjgigaaGreatDoor
open Go.RowKit

set_option maxHeartbeats 1000000 in
set_option maxRecDepth 20000 in
theorem listCheck_any (E : Nat → Addr) (B : Nat) (v : Value) (l : List Fl) (w : World) (hE : Errs [2, 4, 5, 8, 9] E B w) (hT : LNum B w) (hM : LMax B w) (hl : FilesAt w v l) (hs : ∀ f ∈ l, midF f) :
    Calls Tryz.prog 102 #[v] w fun e w' => ∃ ev, e = .returned ev ∧ ErV E w' ev (listCheck l) ∧ Below w.heap.size w w' := by
  obtain ⟨a, c, b, o, rfl, ha, hc, hcm, hx⟩ := hl
  unfold maxLen at hcm
  have hif := isIfaceE
  have hBw := hE.le
  by_cases h60 : 60 < l.length
  · have g : (60 : Int) < (l.length : Int) := by omega
    have v8 := hE.var 8 (by decide)
    simp only [errG] at v8
    have HF : Hid (listCheck l = .bare 8) := Lib.hid (if_pos h60)
    go_enter Tryz.func102, Tryz.ntmps102
    go_wp2_with fail
    go_ret
    exact ⟨_, rfl, by rw [HF.out]; exact ⟨by decide, rfl⟩, Below.refl _ _⟩
  have g60 : (l.length : Int) ≤ 60 := by omega
  have HF : Hid (listCheck l = firstErr (fileFault l) l.length) := Lib.hid (if_neg h60)
  clear h60
  have V0 := fun w6 (h : Below w.heap.size w w6) => (hE.below' h hBw).var 9 (by decide)
  simp only [errG] at V0
  have V := Lib.hid V0
  clear V0
  have Hs := Lib.hid hs
  clear hs
  go_enter Tryz.func102, Tryz.ntmps102
  go_wp2_with fail
  go_loopw [12] (fun i wr => ∃ k : Nat, k ≤ l.length ∧ i = .int .i64 k ∧ Hid (∀ j < k, fileFault l j = 0) ∧ Below w.heap.size w wr) (fun i _ => l.length - (intOf i).toNat)
  case atStart => exact ⟨0, by omega, rfl, Lib.hid fun j hj => absurd hj (by omega), Below.refl _ _⟩
  case round =>
    obtain ⟨k, hk, rfl, hj, hb⟩ := hrel
    by_cases hlt : k < l.length
    case neg =>
      obtain rfl : k = l.length := by omega
      have f : decide ((l.length : Int) < (l.length : Int)) = false := by simp
      go_wp2_with fail
      go_ret
      exact ⟨_, rfl, by rw [HF.out, firstErr_all hj.out]; rfl, hb⟩
    obtain ⟨x, hxk⟩ := get_ex hlt
    obtain ⟨c0, c1, c2, c3, c4, c5⟩ := flCells hx hb hxk
    have i1 := idx_at (c := c) 6 Tryz.underlying56 szFl ha k hlt
    have hk1 : (k : Int) < (l.length : Int) := by omega
    have hsx := Hs.out x (List.mem_of_getElem? hxk)
    have Hx := Lib.hid hxk; clear hxk
    have hb0 : Below w.heap.size w (wr.alloc (.cells #[S x.path, S x.part, .int .i64 x.n, .int .i64 x.lo, .int .i64 x.hi, .int .i64 x.seq] 69)) := hb.alloc hb.size _
    have Cs := Lib.hid (fun w6 (h : Below (wr.alloc (.cells #[S x.path, S x.part, .int .i64 x.n, .int .i64 x.lo, .int .i64 x.hi, .int .i64 x.seq] 69)).heap.size (wr.alloc (.cells #[S x.path, S x.part, .int .i64 x.n, .int .i64 x.lo, .int .i64 x.hi, .int .i64 x.seq] 69)) w6) => (fileCells rfl h).1)
    go_wp2_with fail
    generalize wr.alloc (.cells #[S x.path, S x.part, .int .i64 x.n, .int .i64 x.lo, .int .i64 x.hi, .int .i64 x.seq] 69) = w1 at *
    refine (fileCheck_any E B x _ ((hE.sub (by decide)).below' hb0 hBw) (hT.below' hb0 hBw) (hM.below' hb0 hBw) hsx).mono ?_
    rintro e w2 ⟨ev, rfl, hev, hb2⟩
    have p0 := Cs.out w2 hb2
    have hb2' := hb0.trans (hb2.mono hb0.size)
    clear c0 c1 c2 c3 c4 c5 i1 Cs
    by_cases hck : checkF x = 0
    case neg =>
      have hf : fileFault l k = checkF x := by unfold fileFault; rw [Hx.out]; simp only; rw [if_pos hck]
      have hfe : fileEr x = .bare (checkF x) := fileEr_bad rfl hck
      rw [hfe] at hev
      obtain ⟨hcr, rfl⟩ := hev
      have HK := Lib.hid hck
      have Hf := Lib.hid hf
      have HL : Hid (listCheck l = .loc (checkF x) k) := Lib.hid (HF.out.trans ((firstErr_hit hlt hj.out (by rw [hf]; exact hck)).trans (by rw [hf])))
      clear hf hfe hck
      generalize checkF x = cx at *
      go_wp2_with fail
      go_quiet (fail)
      go_wp2_with fail
      go_ret
      exact ⟨_, rfl, by rw [HL.out]; exact ErV.fresh hcr _ _ _ _ rfl, (Bdn hb2' _).alloc hb2'.size _⟩
    have hfe := fileEr_nil hck
    rw [hfe] at hev
    obtain rfl : ev = .nilIface := hev
    have HK := Lib.hid hck
    clear hck hfe
    by_cases h0 : k = 0
    · have hf : fileFault l k = 0 := by unfold fileFault; rw [Hx.out]; simp only; rw [if_neg (by simp [HK.out]), if_neg (by simp [h0])]
      have gk : decide (0 < k) = false := by simp [h0]
      have Hf := Lib.hid hf
      have H0 := Lib.hid h0
      clear hf h0
      go_wp2_with fail
      go_quiet (fail)
      go_wp2_with fail
      go_roundw
      case rel => exact ⟨k + 1, by omega, by go_num, (Lib.hid fun j hj' => by
        obtain rfl : j = k := by have := H0.out; omega
        exact Hf.out), Bdn hb2' _⟩
      case measure => simp [intOf]; omega
    obtain ⟨y, hyk⟩ := get_ex (l := l) (k := k - 1) (by omega)
    have hsy := Hs.out y (List.mem_of_getElem? hyk)
    obtain ⟨d0, -⟩ := flCells hx hb2' hyk
    have i2 := idx_at (c := c) 6 Tryz.underlying56 szFl ha (k - 1) (by omega)
    have hcast : ((k - 1 : Nat) : Int) = (k : Int) - 1 := by omega
    simp only [hcast] at i2
    have hk0 : 0 < k := by omega
    have gk : decide (0 < k) = true := decide_eq_true hk0
    have hk01 : (1 : Int) ≤ k := by omega
    have hk02 : (0 : Int) ≤ (k : Int) - 1 := by omega
    have hk03 : (k : Int) - 1 < l.length := by omega
    have Hy := Lib.hid hyk
    clear hyk hcast h0
    have hb2d := hb2'.drew
    have hwk : IntKind.i64.wrap ((k : Int) - 1) = (k : Int) - 1 := by rw [IntKind.wrap_i64]; omega
    have hC := listCompare_any E B x.path y.path w2.drew ((hE.sub (by decide)).below' hb2d hBw) (hT.below' hb2d hBw) (hM.below' hb2d hBw) (by have := hsx.1; omega) (by have := hsy.1; omega)
    obtain ⟨cv, hcv⟩ : ∃ cv, cmpP x.path y.path = cv := ⟨_, rfl⟩
    rw [hcv] at hC
    have HC := Lib.hid hC
    clear hC
    by_cases hle : cv ≤ 0
    · have hf : fileFault l k = 9 := by
        unfold fileFault; rw [Hx.out]; simp only
        rw [if_neg (by simp [HK.out]), if_pos ⟨hk0, y, Hy.out, by rw [hcv]; exact hle⟩]
      have HL : Hid (listCheck l = .loc 9 k) := Lib.hid (HF.out.trans ((firstErr_hit hlt hj.out (by rw [hf]; decide)).trans (by rw [hf])))
      clear hf hcv
      go_wp2_with fail
      go_region_held3 (fun w' => w'.cell? ⟨wr.heap.size, 0, none⟩ = some (S x.path) ∧ w'.cell? ⟨b, o + (k - 1) * 6, none⟩ = some (S y.path)) (exact ⟨p0, d0⟩) (first | (go_at_call 156; refine HC.out.mono ?_; rintro e w3 ⟨rfl, hb3⟩; have hb3' := hb2d.trans (hb3.mono hb2d.size); have q0 := (hb3.cell (World.block_lt_of_cell? w2 _ p0)).trans p0; have e0 := (hb3.cell (World.block_lt_of_cell? w2 _ d0)).trans d0; clear p0 d0; have p0 := q0; have d0 := e0; have v9 := V.out _ hb3'))
      go_wp2_with fail
      go_ret
      exact ⟨_, rfl, by rw [HL.out]; exact ErV.fresh (by decide) _ _ _ _ rfl, hb3'.alloc hb3'.size _⟩
    · have hf : fileFault l k = 0 := by
        unfold fileFault; rw [Hx.out]; simp only
        rw [if_neg (by simp [HK.out]), if_neg]
        rintro ⟨_, g, hg, hle'⟩
        rw [Hy.out] at hg
        obtain rfl := Option.some.inj hg
        rw [hcv] at hle'
        exact hle hle'
      have Hf := Lib.hid hf
      have hgt : 0 < cv := by omega
      clear hf hcv hle
      go_wp2_with fail
      go_region_held3 (fun w' => w'.cell? ⟨wr.heap.size, 0, none⟩ = some (S x.path) ∧ w'.cell? ⟨b, o + (k - 1) * 6, none⟩ = some (S y.path)) (exact ⟨p0, d0⟩) (first | (go_at_call 156; refine HC.out.mono ?_; rintro e w3 ⟨rfl, hb3⟩; have hb3' := hb2d.trans (hb3.mono hb2d.size); have q0 := (hb3.cell (World.block_lt_of_cell? w2 _ p0)).trans p0; have e0 := (hb3.cell (World.block_lt_of_cell? w2 _ d0)).trans d0; clear p0 d0; have p0 := q0; have d0 := e0))
      go_wp2_with fail
      go_roundw
      case rel => exact ⟨k + 1, by omega, by go_num, (Lib.hid fun j hj' => by
        rcases Nat.lt_or_ge j k with h | h
        · exact hj.out j h
        · obtain rfl : j = k := by omega
          exact Hf.out), hb3'⟩
      case measure => simp [intOf]; omega
end Go.Proofs.YtcdcfolhnjgigaaGreatDoor
namespace Go.Proofs
open Go.Shelf
def Tryz.bld166_ren : Go.Shelf.Ren := ⟨fun | 166 => 147 | 240 => 197 | 276 => 239 | n => n, fun | 0 => 0 | 3 => 3 | 4 => 4 | 5 => 5 | 9 => 9 | 20 => 20 | 37 => 46 | 70 => 188 | 72 => 190 | 75 => 27 | 80 => 192 | 164 => 236 | n => n, fun | n => n⟩
theorem Tryz.bld166 : Go.Proofs.Lays.n166 Tryz.prog Tryz.bld166_ren := {
  mixed := by kernel_rfl
  f166 := Tryz.func147.trans (congrArg some (by kernel_rfl))
  f240 := Tryz.func197.trans (congrArg some (by kernel_rfl))
  f276 := Tryz.func239.trans (congrArg some (by kernel_rfl))
  t0 := Tryz.underlying0
  a0 := Tryz.isAgg0
  z0 := Tryz.sizeOf0
  v0 := Tryz.zeroValue0
  t3 := Tryz.underlying3
  a3 := Tryz.isAgg3
  z3 := Tryz.sizeOf3
  v3 := Tryz.zeroValue3
  t4 := Tryz.underlying4
  a4 := Tryz.isAgg4
  z4 := Tryz.sizeOf4
  v4 := Tryz.zeroValue4
  t9 := Tryz.underlying9
  a9 := Tryz.isAgg9
  z9 := Tryz.sizeOf9
  v9 := Tryz.zeroValue9
  t20 := Tryz.underlying20
  a20 := Tryz.isAgg20
  z20 := Tryz.sizeOf20
  v20 := Tryz.zeroValue20
  t37 := Tryz.underlying46
  a37 := Tryz.isAgg46
  z37 := Tryz.sizeOf46
  v37 := Tryz.zeroValue46
  t70 := Tryz.underlying188
  a70 := Tryz.isAgg188
  z70 := Tryz.sizeOf188
  v70 := Tryz.zeroValue188
  t72 := Tryz.underlying190
  a72 := Tryz.isAgg190
  z72 := Tryz.sizeOf190
  v72 := Tryz.zeroValue190
  t75 := Tryz.underlying27
  a75 := Tryz.isAgg27
  z75 := Tryz.sizeOf27
  v75 := Tryz.zeroValue27
  t164 := Tryz.underlying236
  a164 := Tryz.isAgg236
  z164 := Tryz.sizeOf236
  v164 := Tryz.zeroValue236 }
theorem Tryz.bldX166 : Builder.Extra Tryz.prog Tryz.bld166_ren where
  sizeBuilder := by kernel_rfl
  liesBuilder := by kernel_rfl
  t5 := Tryz.underlying5
  a5 := Tryz.isAgg5
  z5 := Tryz.sizeOf5
  v5 := Tryz.zeroValue5
  infoByte := by kernel_rfl
  cellsByte := by kernel_rfl
  sizeByte := by kernel_rfl
  neB5 := by decide
end Go.Proofs
namespace Go.Proofs.YtcdcfolhnjgigaaGreatDoor
open Go.RowKit
/-- A builder of the call's own that holds the text s. -/
abbrev BldAt (B b : Nat) (s : Str) (w : World) : Prop := Lib.IsBuilder 190 5 B b (Lib.byteCells s) w
theorem bldWrite_any (B b : Nat) (s t : Str) (w : World) (h : BldAt B b s w) (hl : s.length + t.length ≤ 1000000) (hB : B ≤ w.heap.size) :
    Calls Tryz.prog 147 #[.pointer (some ⟨b, 0, none⟩), S t] w fun e w' => e = .returned (.tuple #[.int .i64 t.length, .nilIface]) ∧ BldAt B b (s ++ t) w' ∧ Below B w w' := by
  refine (Any.Builder_WriteString Tryz.bld166 Tryz.bldX166 B b (Lib.byteCells s) ⟨t.toArray⟩ w h (by simp [Lib.byteCells, ByteArray.size]; omega) hB).mono ?_
  rintro e w' ⟨rfl, h1, h2⟩
  refine ⟨by simp [ByteArray.size], .inr ?_, h2⟩
  have e1 : Lib.byteCells s ++ Lib.strCells ⟨t.toArray⟩ = Lib.byteCells (s ++ t) := by simp [Lib.byteCells, Lib.strCells]
  rw [← e1]
  exact h1
theorem bldString_any (B b : Nat) (s : Str) (w : World) (h : BldAt B b s w) (hB : B ≤ w.heap.size) :
    Calls Tryz.prog 149 #[.pointer (some ⟨b, 0, none⟩)] w fun e w' => e = .returned (S s) ∧ Below B w w' :=
  Tryz.Builder_String_any B b s w h hB
end Go.Proofs.YtcdcfolhnjgigaaGreatDoor
namespace Go.Proofs.YtcdcfolhnjgigaaGreatDoor
open Go.RowKit
attribute [local go_sem] bapp

theorem numsTail_snoc (l : List Int) (x : Int) : numsTail (l ++ [x]) = numsTail l ++ 32 :: Lib.itoa x := by simp [numsTail]
theorem numsTail_len (l : List Int) (h : ∀ x ∈ l, -9223372036854775808 ≤ x ∧ x ≤ 9223372036854775807) : (numsTail l).length ≤ l.length * 22 := by
  induction l with
  | nil => simp [numsTail]
  | cons x r ih =>
    have h1 := h x (by simp)
    have h2 := itoa_len x (by omega) (by omega)
    have h3 := ih fun y hy => h y (by simp [hy])
    simp only [numsTail, List.flatMap_cons, List.length_append, List.length_cons] at h3 ⊢
    omega

theorem cat_run (a b : ByteArray) (n m : Nat) (ha : a.size = n) (hb : b.size = m) (h : n + m ≤ 1000000) : ∀ w, (Op.stringOp .add a b).run Tryz.prog w = .ok (.string (a ++ b)) w := fun w => run_string_add_sum w a b (by omega)
set_option maxHeartbeats 1000000 in
set_option maxRecDepth 20000 in
theorem fileText_any (E : Nat → Addr) (B : Nat) (f : Fl) (w : World) (hE : Errs [2, 4, 5] E B w) (hT : LNum B w) (hM : LMax B w) (hs : midF f) :
    Calls Tryz.prog 148 #[fileV f] w fun e w' => e = .returned (S (fileText f)) ∧ Below w.heap.size w w' := by
  have hBw := hE.le
  have hb0 : Below w.heap.size w (w.alloc (.cells #[S f.path, S f.part, .int .i64 f.n, .int .i64 f.lo, .int .i64 f.hi, .int .i64 f.seq] 69)) := (Below.refl _ _).alloc (Nat.le_refl _) _
  have Cs := Lib.hid (fun w6 (h : Below (w.alloc (.cells #[S f.path, S f.part, .int .i64 f.n, .int .i64 f.lo, .int .i64 f.hi, .int .i64 f.seq] 69)).heap.size (w.alloc (.cells #[S f.path, S f.part, .int .i64 f.n, .int .i64 f.lo, .int .i64 f.hi, .int .i64 f.seq] 69)) w6) => fileCells rfl h)
  have hE1 := hE.below' hb0 hE.le; have hT1 := hT.below' hb0 hE.le; have hM1 := hM.below' hb0 hE.le
  obtain ⟨c0, c1, c2, c3, c4, c5⟩ := Cs.out _ (Below.refl _ _)
  go_enter Tryz.func148, Tryz.ntmps148
  go_wp2_with fail
  generalize w.alloc (.cells #[S f.path, S f.part, .int .i64 f.n, .int .i64 f.lo, .int .i64 f.hi, .int .i64 f.seq] 69) = w1 at *
  refine (fileCheck_any E B f _ hE1 hT1 hM1 hs).mono ?_
  rintro e w2 ⟨ev, rfl, hev, hb2⟩
  clear c0 c1 c2 c3 c4 c5
  have hb2' := hb0.trans (hb2.mono hb0.size)
  by_cases hck : checkF f = 0
  case neg =>
    have HF : Hid (fileText f = []) := Lib.hid (if_neg hck)
    rw [fileEr_bad rfl hck] at hev
    obtain ⟨hcr, rfl⟩ := hev
    have HK := Lib.hid hck; clear hck
    go_wp2_with fail
    go_ret
    exact ⟨by rw [HF.out]; rfl, hb2'⟩
  have HF : Hid (fileText f = fileLine f) := Lib.hid (if_pos hck)
  rw [fileEr_nil hck] at hev
  obtain rfl : ev = .nilIface := hev
  have hbd : ∀ x ∈ [f.n, f.lo, f.hi, f.seq], -9223372036854775808 ≤ x ∧ x ≤ 9223372036854775807 := by
    obtain ⟨-, -, -, -, h⟩ := checkF_zero hck
    unfold boundF farN at h
    intro x hx
    simp only [List.mem_cons, List.mem_nil_iff, or_false] at hx
    rcases hx with rfl | rfl | rfl | rfl <;> omega
  have HB := Lib.hid hbd; clear hbd
  have HK := Lib.hid hck; clear hck
  obtain ⟨c0, c1, c2, c3, c4, c5⟩ := Cs.out w2 hb2
  have hl1 := hs.1
  have hl2 := hs.2
  have hil := ints_new [f.n, f.lo, f.hi, f.seq] w2 3 _ 4 #[.int .i64 f.n, .int .i64 f.lo, .int .i64 f.hi, .int .i64 f.seq] rfl rfl rfl (by decide)
  have hb3 := hb2'.alloc hb2'.size (.cells #[.int .i64 f.n, .int .i64 f.lo, .int .i64 f.hi, .int .i64 f.seq] 3)
  go_wp2_with fail
  generalize w2.alloc (.cells #[.int .i64 f.n, .int .i64 f.lo, .int .i64 f.hi, .int .i64 f.seq] 3) = w3 at *
  have hT3 := hT.below' hb3 hBw
  obtain ⟨a, c, b, o, hv, ha, hc, hcm, hx⟩ := hil
  simp only [Value.slice.injEq] at hv
  obtain ⟨rfl, -, rfl⟩ := hv
  have hp0 : [f.n, f.lo, f.hi, f.seq].length = 4 := rfl
  have hab := ha (by simp)
  simp only [Option.some.injEq, Addr.mk.injEq, and_true] at hab
  obtain ⟨rfl, rfl⟩ := hab
  have HL : Hid (fileLine f = f.path ++ 32 :: (f.part ++ numsTail [f.n, f.lo, f.hi, f.seq])) := Lib.hid (by simp [fileLine])
  generalize [f.n, f.lo, f.hi, f.seq] = l at *
  go_loopw [3, 25] (fun s i wr => ∃ k : Nat, k ≤ l.length ∧ i = .int .i64 k ∧ s = S ((f.path ++ 32 :: f.part) ++ numsTail (l.take k)) ∧ Below w3.heap.size w3 wr) (fun _ i _ => l.length - (intOf i).toNat)
  case atStart => exact ⟨0, by omega, rfl, by simp [numsTail], Below.refl _ _⟩
  case round =>
    obtain ⟨k, hk, rfl, rfl, hb⟩ := hrel
    have hl4 := numsTail_len (l.take k) (fun y hy => HB.out y (List.mem_of_mem_take hy))
    have hl5 : (l.take k).length ≤ 4 := by rw [List.length_take]; omega
    have hl6 : (numsTail (l.take k)).length ≤ 88 := by omega
    clear hl4 hl5
    by_cases hlt : k < l.length
    case neg =>
      obtain rfl : k = l.length := by omega
      rw [List.take_length] at hl6 ⊢
      rw [hp0]
      go_wp2_with fail
      go_ret
      exact ⟨by rw [HF.out, HL.out]; rfl, hb3.trans (hb.mono hb3.size)⟩
    obtain ⟨x, hxk⟩ := get_ex hlt
    have c1 := hx k x hxk 0 _ rfl
    have c1 := (hb.cell (World.block_lt_of_cell? w3 _ c1)).trans c1
    have i1 := idx_at (c := 4) 1 Tryz.underlying39 szInt ha k hlt
    have hk1 : (k : Int) < (l.length : Int) := by omega
    simp only [Nat.mul_one, Nat.add_zero, Nat.zero_add] at c1 i1
    rw [hp0] at hk1 i1
    obtain ⟨h1, h2⟩ := HB.out x (List.mem_of_getElem? hxk)
    have hsn := take_snoc' hxk
    have hl1 := itoa_len x h1 h2
    have Hx := Lib.hid hsn; clear hsn hxk
    go_wp2_with fail
    refine (itoa_any B x h1 h2 _ (hT3.below' hb hT3.le)).mono ?_
    rintro e w4 ⟨rfl, hb4⟩
    go_wp2_with fail
    go_roundw
    case rel => exact ⟨k + 1, by omega, by go_num, by rw [Hx.out, numsTail_snoc]; simp, hb.trans (hb4.mono hb.size)⟩
    case measure => simp [intOf]; omega

theorem BldAt.below {B b : Nat} {s : Str} {w w' : World} (h : BldAt B b s w) (hb : Below w.heap.size w w') : BldAt B b s w' := by
  have one : ∀ p, Lib.BuilderAt 190 5 B b p (Lib.byteCells s) w → Lib.BuilderAt 190 5 B b p (Lib.byteCells s) w' := fun p h => by
    have hlt := h.lt
    obtain ⟨h1, v, h2, h3, h4⟩ := h
    exact ⟨h1, v, (hb.block b hlt).trans h2, World.ownsRow.kept h3 (row := none) ⟨hb.os, hb.tape, hb.output, hb.size, fun k hk _ => hb.block k hk⟩ (by cases v.ownBlock <;> simp), h4⟩
  exact h.elim (fun h => .inl (one _ h)) (fun h => .inr (one _ h))
def listTextR (l : List Fl) : Str := if listCheck l = .nil then listText l else []
set_option maxHeartbeats 1000000 in
set_option maxRecDepth 20000 in
theorem listText_any (E : Nat → Addr) (B : Nat) (v : Value) (l : List Fl) (w : World) (hE : Errs [2, 4, 5, 8, 9] E B w) (hT : LNum B w) (hM : LMax B w) (hl : FilesAt w v l) (hs : ∀ x ∈ l, midF x) :
    Calls Tryz.prog 96 #[v] w fun e w' => ∃ ev, e = .returned (.tuple #[S (listTextR l), ev]) ∧ ErV E w' ev (listCheck l) ∧ Below w.heap.size w w' := by
  have hBw := hE.le
  have hif := isIfaceE
  obtain ⟨a, c, b, o, rfl, ha, hc, hcm, hx⟩ := hl
  have hl : FilesAt w (.slice a l.length c) l := ⟨a, c, b, o, rfl, ha, hc, hcm, hx⟩
  unfold maxLen at hcm
  go_enter Tryz.func96, Tryz.ntmps96
  go_wp2_with fail
  refine (listCheck_any E B _ l _ hE hT hM hl hs).mono ?_
  rintro e w2 ⟨ev, rfl, hev, hb2⟩
  by_cases hck : listCheck l = .nil
  case neg =>
    have HL : Hid (listTextR l = []) := Lib.hid (if_neg hck)
    obtain ⟨u, x, rfl⟩ := hev.iface hck
    have He := Lib.hid hev; clear hev hck
    go_wp2_with fail
    go_ret2
    exact ⟨_, by rw [HL.out]; rfl, He.out, hb2⟩
  rw [hck] at hev
  obtain rfl : ev = .nilIface := hev
  have HC := Lib.hid hck
  have HL : Hid (listTextR l = listText l) := Lib.hid (if_pos hck)
  have HR := Lib.hid ((right_iff l).1 hck); clear hck
  have hb0 : BldAt w2.heap.size w2.heap.size [] (w2.alloc (.cells #[.pointer none, .slice none 0 0] 190)) := Lib.fresh_isBuilder 190 5 w2
  have hba : Below w2.heap.size w2 (w2.alloc (.cells #[.pointer none, .slice none 0 0] 190)) := (Below.refl _ _).alloc (Nat.le_refl _) _
  have hE2 := hE.below' hb2 hBw; have hT2 := hT.below' hb2 hBw; have hM2 := hM.below' hb2 hBw
  have hx2 : ∀ (k : Nat) (x : Fl), l[k]? = some x → ∀ (j : Nat) (u : Value), (encF x)[j]? = some u → w2.cell? ⟨b, o + k * 6 + j, none⟩ = some u := fun k x hk j u hu => (hb2.cell (World.block_lt_of_cell? w _ (hx k x hk j u hu))).trans (hx k x hk j u hu)
  have Hs := Lib.hid hs
  clear hx hl hs
  go_wp2_with fail
  go_loopw [15] (fun i wr => ∃ k : Nat, k ≤ l.length ∧ i = .int .i64 k ∧ Hid (BldAt w2.heap.size w2.heap.size (listText (l.take k)) wr) ∧ Below w2.heap.size w2 wr) (fun i _ => l.length - (intOf i).toNat)
  case atStart => exact ⟨0, by omega, rfl, Lib.hid hb0, hba⟩
  case round =>
    obtain ⟨k, hk, rfl, hbl, hb⟩ := hrel
    by_cases hlt : k < l.length
    case neg =>
      obtain rfl : k = l.length := by omega
      have hbS := bldString_any _ _ _ _ hbl.out hb.size
      rw [List.take_length] at hbS
      have HS := Lib.hid hbS; clear hbS
      go_wp2_with fail
      refine HS.out.mono ?_
      rintro e w3 ⟨rfl, hb3⟩
      go_wp2_with fail
      go_ret2
      exact ⟨_, by rw [HL.out]; rfl, by rw [HC.out]; rfl, hb2.trans ((hb.trans hb3).mono hb2.size)⟩
    obtain ⟨x, hxk⟩ := get_ex hlt
    obtain ⟨c0, c1, c2, c3, c4, c5⟩ := flCells hx2 hb hxk
    have i1 := idx_at (c := c) 6 Tryz.underlying56 szFl ha k hlt
    have hk1 : (k : Int) < (l.length : Int) := by omega
    have hsx := Hs.out x (List.mem_of_getElem? hxk)
    have hckx := HR.out.ok x (List.mem_of_getElem? hxk)
    have hft : fileText x = fileLine x := if_pos hckx
    have hfl := fileLine_len hckx
    have hll := listText_len (l := l.take k) (fun f hf => HR.out.ok f (List.mem_of_mem_take hf))
    have hln := HR.out.len
    have hlm : (listText (l.take k)).length ≤ 10000 := by rw [List.length_take] at hll; omega
    have hsn := take_snoc' hxk
    have Hx := Lib.hid hsn; clear hsn hxk hll hckx
    have hb0 : Below w2.heap.size w2 (wr.alloc (.cells #[S x.path, S x.part, .int .i64 x.n, .int .i64 x.lo, .int .i64 x.hi, .int .i64 x.seq] 69)) := hb.alloc hb.size _
    have hb0' : Below wr.heap.size wr (wr.alloc (.cells #[S x.path, S x.part, .int .i64 x.n, .int .i64 x.lo, .int .i64 x.hi, .int .i64 x.seq] 69)) := (Below.refl _ _).alloc (Nat.le_refl _) _
    go_wp2_with fail
    generalize wr.alloc (.cells #[S x.path, S x.part, .int .i64 x.n, .int .i64 x.lo, .int .i64 x.hi, .int .i64 x.seq] 69) = w3 at *
    refine (fileText_any E B x _ ((hE2.sub (by decide)).below' hb0 hE2.le) (hT2.below' hb0 hE2.le) (hM2.below' hb0 hE2.le) hsx).mono ?_
    rintro e w4 ⟨rfl, hb4⟩
    rw [hft]
    have hb4' := hb0.trans (hb4.mono hb0.size)
    have hw := bldWrite_any w2.heap.size w2.heap.size (listText (l.take k)) (fileLine x ++ [10]) w4 ((hbl.out.below hb0').below hb4) (by simp; omega) hb4'.size
    generalize hTe : listText (l.take k) = T at *
    generalize hXe : fileLine x = X at *
    have HTe := Lib.hid hTe; have HXe := Lib.hid hXe; clear hTe hXe
    have HW := Lib.hid hw; clear hw
    clear c0 c1 c2 c3 c4 c5 i1
    go_wp2_with fail
    refine HW.out.mono ?_
    rintro e w5 ⟨rfl, hbl5, hb5⟩
    have HB5 := Lib.hid hbl5; clear hbl5
    go_wp2_with fail
    go_roundw
    case rel => exact ⟨k + 1, by omega, by go_num, Lib.hid (by rw [Hx.out, listText_snoc, HTe.out, HXe.out]; exact HB5.out), hb4'.trans hb5⟩
    case measure => simp [intOf]; omega
end Go.Proofs.YtcdcfolhnjgigaaGreatDoor
