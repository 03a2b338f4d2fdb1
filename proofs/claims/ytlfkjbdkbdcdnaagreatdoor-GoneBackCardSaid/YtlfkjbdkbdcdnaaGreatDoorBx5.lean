/- Lists of files: the statements' own helpers: OwnFiles, LongFile, LongFiles. file.Check; list.Compare; list.Check. cmp.Or at int; list.Compare. A function value that answers by a plain predicate. The library's generic functions at []api.File: IndexFunc, Clone, Delete, Insert, BinarySearchFunc. list.Check. strings.Builder: WriteString and String, laid at this program by hand (the tool passes over copyCheck, whose body here names no text). file.Text; list.Text. A row of elements of any size that the call owns: copied into, an element written, appended to within its capacity. Of no program. A struct of six cells written cell by cell; a result that lies in a block. Of no program. -/
import Derived.Test.YtlfkjbdkbdcdnaaGreatDoorBx4
import Derived.Outline
import Derived.Test.YtlfkjbdkbdcdnaaGreatDoorBx2
import Derived.Deep.RegionHeld3
import Derived.Test.YtlfkjbdkbdcdnaaGreatDoorBx1
import Derived.Shelf.Strings.Builder1
import Derived.Test.YtlfkjbdkbdcdnaaGreatDoorBx3
import Derived.Laws.CopyRow
import Derived.Laws.CopyOwn
import Derived.Lib.AppendZeros
import Derived.Lib.Overlaps
import Derived.Laws.ResultCell
import Derived.Laws.Rows
namespace Go.Proofs.YtlfkjbdkbdcdnaaGreatDoor
open Go.RowKit


def shortF (f : Fl) : Prop := f.path.length ≤ 30 ∧ f.part.length ≤ 30
instance (f : Fl) : Decidable (shortF f) := inferInstanceAs (Decidable (_ ∧ _))
def midF (f : Fl) : Prop := f.path.length ≤ 100000 ∧ f.part.length ≤ 100000
instance (f : Fl) : Decidable (midF f) := inferInstanceAs (Decidable (_ ∧ _))
theorem shortF.mid {f : Fl} (h : shortF f) : midF f := ⟨by have := h.1; omega, by have := h.2; omega⟩
set_option maxRecDepth 20000 in
theorem longFile_any (f : Fl) (w : World) :
    Calls Tryz.prog 43 #[fileV f] w fun e w' => e = .returned (.int .i64 (if shortF f then 0 else 1)) ∧ Below w.heap.size w w' := by
  have hb : Below w.heap.size w (w.alloc (fileO f)) := (Below.refl _ _).alloc (Nat.le_refl _) _
  by_cases h1 : f.path.length ≤ 30
  · have g1 : decide ((30 : Int) < (f.path.length : Int)) = false := by simp; omega
    by_cases h2 : f.part.length ≤ 30
    · rw [if_pos (show shortF f from ⟨h1, h2⟩)]
      have g2 : decide ((30 : Int) < (f.part.length : Int)) = false := by simp; omega
      go_enter Tryz.func43, Tryz.ntmps43
      go_wp2_with fail
      go_ret
      exact ⟨rfl, by first | exact hb | exact Below.refl _ _⟩
    · rw [if_neg (fun h : shortF f => h2 h.2)]
      have g2 : (30 : Int) < (f.part.length : Int) := by omega
      go_enter Tryz.func43, Tryz.ntmps43
      go_wp2_with fail
      go_ret
      exact ⟨rfl, by first | exact hb | exact Below.refl _ _⟩
  · rw [if_neg (fun h : shortF f => h1 h.1)]
    have g1 : (30 : Int) < (f.path.length : Int) := by omega
    go_enter Tryz.func43, Tryz.ntmps43
    go_wp2_with fail
    go_ret
    exact ⟨rfl, by first | exact hb | exact Below.refl _ _⟩

end Go.Proofs.YtlfkjbdkbdcdnaaGreatDoor
namespace Go.Proofs.YtlfkjbdkbdcdnaaGreatDoor
open Go.RowKit

theorem fileCells {w w1 w6 : World} {f : Fl} (hw : w1 = w.alloc (fileO f)) (h6 : Below w1.heap.size w1 w6) :
    w6.cell? ⟨w.heap.size, 0, none⟩ = some (S f.path) ∧ w6.cell? ⟨w.heap.size, 1, none⟩ = some (S f.part) ∧ w6.cell? ⟨w.heap.size, 2, none⟩ = some (.int .i64 f.n) ∧ w6.cell? ⟨w.heap.size, 3, none⟩ = some (.int .i64 f.lo) ∧ w6.cell? ⟨w.heap.size, 4, none⟩ = some (.int .i64 f.hi) ∧ w6.cell? ⟨w.heap.size, 5, none⟩ = some (.int .i64 f.seq) := by
  subst hw
  have h := heap_alloc_new w (.cells #[S f.path, S f.part, .int .i64 f.n, .int .i64 f.lo, .int .i64 f.hi, .int .i64 f.seq] 79)
  have h' := (h6.block w.heap.size (by simp)).trans h
  refine ⟨?_, ?_, ?_, ?_, ?_, ?_⟩ <;> (rw [cell_of_row w6 _ _ _ _ (0, 0) h']; rfl)

/-- A file's error. -/
def fileEr (f : Fl) : Er := if checkF f = 0 then .nil else .bare (checkF f)
theorem fileEr_nil {f : Fl} (h : checkF f = 0) : fileEr f = .nil := if_pos h
theorem fileEr_bad {f : Fl} {c : Nat} (h : checkF f = c) (h0 : c ≠ 0) : fileEr f = .bare c := by unfold fileEr; rw [if_neg (by omega), h]
theorem fileEr_iff {f : Fl} : fileEr f = .nil ↔ checkF f = 0 := by
  unfold fileEr; split
  · simp [*]
  · simp [*]
theorem checkF_none {f : Fl} (h : pathF f.path = none) : checkF f = 5 := by unfold checkF; rw [if_pos h]
theorem checkF_part {f : Fl} {kn} (h : pathF f.path = some kn) (h2 : partOk (kindF f.path) f.part = false) : checkF f = 4 := by unfold checkF; rw [if_neg (by rw [h]; simp), if_pos h2]
theorem checkF_bound {f : Fl} {kn} (h : pathF f.path = some kn) (h2 : partOk (kindF f.path) f.part = true) (h3 : boundF f) : checkF f = 2 := by unfold checkF; rw [if_neg (by rw [h]; simp), if_neg (by rw [h2]; decide), if_pos h3]
theorem checkF_right {f : Fl} {kn} (h : pathF f.path = some kn) (h2 : partOk (kindF f.path) f.part = true) (h3 : ¬ boundF f) : checkF f = 0 := by unfold checkF; rw [if_neg (by rw [h]; simp), if_neg (by rw [h2]; decide), if_neg h3]

set_option maxHeartbeats 2000000 in
set_option maxRecDepth 20000 in
theorem fileCheck_any (E : Nat → Addr) (B : Nat) (f : Fl) (w : World) (hE : Errs [2, 4, 5] E B w) (hT : LNum B w) (hM : LMax B w) (hs : midF f) :
    Calls Tryz.prog 46 #[fileV f] w fun e w' => ∃ ev, e = .returned ev ∧ ErV E w' ev (fileEr f) ∧ Below w.heap.size w w' := by
  have hBw := hE.le
  obtain ⟨hs1, hs2⟩ := hs
  have hb0 : Below w.heap.size w (w.alloc (.cells #[S f.path, S f.part, .int .i64 f.n, .int .i64 f.lo, .int .i64 f.hi, .int .i64 f.seq] 79)) := (Below.refl _ _).alloc (Nat.le_refl _) _
  have Cs := Lib.hid (fun w6 (h : Below (w.alloc (.cells #[S f.path, S f.part, .int .i64 f.n, .int .i64 f.lo, .int .i64 f.hi, .int .i64 f.seq] 79)).heap.size (w.alloc (.cells #[S f.path, S f.part, .int .i64 f.n, .int .i64 f.lo, .int .i64 f.hi, .int .i64 f.seq] 79)) w6) => fileCells rfl h)
  have hE1 := hE.below' hb0 hE.le; have hT1 := hT.below' hb0 hE.le; have hM1 := hM.below' hb0 hE.le
  have V0 := fun w6 (h : Below (w.alloc (.cells #[S f.path, S f.part, .int .i64 f.n, .int .i64 f.lo, .int .i64 f.hi, .int .i64 f.seq] 79)).heap.size (w.alloc (.cells #[S f.path, S f.part, .int .i64 f.n, .int .i64 f.lo, .int .i64 f.hi, .int .i64 f.seq] 79)) w6) => (⟨(hE1.below' h hE1.le).var 2 (by decide), (hE1.below' h hE1.le).var 4 (by decide)⟩ : _ ∧ _)
  simp only [errG] at V0
  have V := Lib.hid V0
  clear V0
  obtain ⟨c0, c1, c2, c3, c4, c5⟩ := Cs.out _ (Below.refl _ _)
  go_enter Tryz.func46, Tryz.ntmps46
  go_wp2_with fail
  generalize w.alloc (.cells #[S f.path, S f.part, .int .i64 f.n, .int .i64 f.lo, .int .i64 f.hi, .int .i64 f.seq] 79) = w1 at *
  refine (fileNumber_any E B f.path _ (hE1.sub (by decide)) hT1 hM1 (by omega)).mono ?_
  rintro e w2 ⟨ev, rfl, hev, hb2⟩
  clear c0 c1 c2 c3 c4 c5
  obtain ⟨c0, c1, c2, c3, c4, c5⟩ := Cs.out w2 hb2
  have hb2' := hb0.trans (hb2.mono hb0.size)
  cases hpf : pathF f.path with
  | none =>
    rw [hpf] at hev
    obtain ⟨-, rfl⟩ := hev
    have HF := Lib.hid (fileEr_bad (checkF_none hpf) (by decide))
    clear hpf
    go_wp2_with fail
    go_ret
    exact ⟨_, rfl, by rw [HF.out]; exact ⟨by decide, rfl⟩, hb2'⟩
  | some kn =>
    rw [hpf] at hev
    obtain rfl : ev = .nilIface := hev
    have HP := Lib.hid hpf
    clear hpf
    go_wp2_with fail
    refine (part_any (kindF f.path) f.part _ (by omega)).mono ?_
    rintro e w3 ⟨rfl, hb3⟩
    have hb3' := hb2.trans (hb3.mono hb2.size)
    have hb3w := hb2'.trans (hb3.mono hb2'.size)
    clear c0 c1 c2 c3 c4 c5
    obtain ⟨c0, c1, c2, c3, c4, c5⟩ := Cs.out w3 hb3'
    obtain ⟨v2, v4⟩ := V.out w3 hb3'
    generalize hpk : partOk (kindF f.path) f.part = pk
    have HK := Lib.hid hpk
    clear hpk hb2 hb3 hb2' hb3'
    cases pk with
    | false =>
      have HF := Lib.hid (fileEr_bad (checkF_part HP.out HK.out) (by decide))
      go_wp2_with fail
      go_ret
      exact ⟨_, rfl, by rw [HF.out]; exact ⟨by decide, rfl⟩, hb3w⟩
    | true =>
      by_cases b1 : f.n < 1
      · have HF := Lib.hid (fileEr_bad (checkF_bound HP.out HK.out (.inl b1)) (by decide))
        go_wp2_with fail
        go_ret
        exact ⟨_, rfl, by rw [HF.out]; exact ⟨by decide, rfl⟩, hb3w⟩
      have g1 : decide (f.n < 1) = false := by simpa using b1
      by_cases b2 : 40 < f.n
      · have HF := Lib.hid (fileEr_bad (checkF_bound HP.out HK.out (.inr (.inl b2))) (by decide))
        clear b1
        go_wp2_with fail
        go_ret
        exact ⟨_, rfl, by rw [HF.out]; exact ⟨by decide, rfl⟩, hb3w⟩
      have g2 : decide (40 < f.n) = false := by simpa using b2
      have B12 := Lib.hid (⟨b1, b2⟩ : _ ∧ _)
      clear b1 b2
      go_wp2_with fail
      refine (far_any f.lo _).mono ?_
      rintro e w4 ⟨rfl, rfl⟩
      by_cases b3 : farN f.lo
      · have HF := Lib.hid (fileEr_bad (checkF_bound HP.out HK.out (.inr (.inr (.inl b3)))) (by decide))
        rw [decide_eq_true b3]
        clear b3
        go_wp2_with fail
        go_ret
        exact ⟨_, rfl, by rw [HF.out]; exact ⟨by decide, rfl⟩, hb3w⟩
      rw [decide_eq_false b3]
      have B3 := Lib.hid b3
      clear b3
      go_wp2_with fail
      refine (far_any f.hi _).mono ?_
      rintro e w4 ⟨rfl, rfl⟩
      by_cases b4 : farN f.hi
      · have HF := Lib.hid (fileEr_bad (checkF_bound HP.out HK.out (.inr (.inr (.inr (.inl b4))))) (by decide))
        rw [decide_eq_true b4]
        clear b4
        go_wp2_with fail
        go_ret
        exact ⟨_, rfl, by rw [HF.out]; exact ⟨by decide, rfl⟩, hb3w⟩
      rw [decide_eq_false b4]
      have B4 := Lib.hid b4
      clear b4
      by_cases b5 : f.hi < f.lo
      · have HF := Lib.hid (fileEr_bad (checkF_bound HP.out HK.out (.inr (.inr (.inr (.inr (.inl b5)))))) (by decide))
        go_wp2_with fail
        go_ret
        exact ⟨_, rfl, by rw [HF.out]; exact ⟨by decide, rfl⟩, hb3w⟩
      have g5 : decide (f.hi < f.lo) = false := by simpa using b5
      by_cases b6 : f.seq < 1
      · have HF := Lib.hid (fileEr_bad (checkF_bound HP.out HK.out (.inr (.inr (.inr (.inr (.inr (.inl b6))))))) (by decide))
        clear b5
        go_wp2_with fail
        go_ret
        exact ⟨_, rfl, by rw [HF.out]; exact ⟨by decide, rfl⟩, hb3w⟩
      have g6 : decide (f.seq < 1) = false := by simpa using b6
      by_cases b7 : 1073741824 < f.seq
      · have HF := Lib.hid (fileEr_bad (checkF_bound HP.out HK.out (.inr (.inr (.inr (.inr (.inr (.inr b7))))))) (by decide))
        clear b5 b6
        go_wp2_with fail
        go_ret
        exact ⟨_, rfl, by rw [HF.out]; exact ⟨by decide, rfl⟩, hb3w⟩
      have g7 : decide (1073741824 < f.seq) = false := by simpa using b7
      have HF := Lib.hid (fileEr_nil (checkF_right HP.out HK.out (by
        rintro (h | h | h | h | h | h | h)
        · have := B12.out.1; omega
        · have := B12.out.2; omega
        · exact B3.out h
        · exact B4.out h
        · exact b5 h
        · exact b6 h
        · exact b7 h)))
      clear b5 b6 b7
      go_wp2_with fail
      go_ret
      exact ⟨_, rfl, by rw [HF.out]; rfl, hb3w⟩
end Go.Proofs.YtlfkjbdkbdcdnaaGreatDoor
namespace Go.Proofs.YtlfkjbdkbdcdnaaGreatDoor
open Go.RowKit

/-- A slice of numbers written out in a new block. -/
theorem ints_new (l : List Int) (w : World) (t : TypeId) (H n : Nat) (cs : Array Value) (hH : w.heap.size = H) (hcs : cs = (l.map (Value.int .i64)).toArray) (hn : l.length = n) (hm : n ≤ 100000) : IntsAt (w.alloc (.cells cs t)) (.slice (some ⟨H, 0, none⟩) n n) l := by
  subst hH hcs hn
  refine ⟨_, _, w.heap.size, 0, rfl, fun _ => rfl, Nat.le_refl _, by unfold maxLen; omega, fun k z hk j u hu => ?_⟩
  obtain rfl : j = 0 := by
    rcases Nat.eq_zero_or_pos j with h | h
    · exact h
    · rw [List.getElem?_eq_none (by simp; omega)] at hu; cases hu
  obtain rfl : .int .i64 z = u := by simpa using hu
  rw [cell_of_row (w.alloc _) w.heap.size _ _ t (0, 0) (heap_alloc_new w _)]
  simp [hk]

/-- The first number that is not 0. -/
def orOf (l : List Int) : Int := (l.find? (fun x => x != 0)).getD 0
theorem orOf_hit {l : List Int} {k : Nat} {x : Int} (hk : l[k]? = some x) (hx : x ≠ 0) (h : ∀ (j : Nat), j < k → ∀ y, l[j]? = some y → y = 0) : orOf l = x := by
  unfold orOf
  obtain ⟨h1, h2⟩ := List.getElem?_eq_some_iff.1 hk
  have : l.find? (fun x => x != 0) = some x := by
    rw [List.find?_eq_some_iff_getElem]
    refine ⟨by simpa using hx, k, h1, h2, fun j hj => ?_⟩
    have := h j hj l[j] (by simp)
    simp [this]
  rw [this]; rfl
theorem orOf_none {l : List Int} (h : ∀ (j : Nat) (y : Int), l[j]? = some y → y = 0) : orOf l = 0 := by
  unfold orOf
  have : l.find? (fun x => x != 0) = none := List.find?_eq_none.2 fun x hx => by
    obtain ⟨j, hj⟩ := List.getElem?_of_mem hx
    simp [h j x hj]
  rw [this]; rfl

theorem cmpOr_any (v : Value) (l : List Int) (w : World) (hl : IntsAt w v l) :
    Calls Tryz.prog 128 #[v] w fun e w' => e = .returned (.int .i64 (orOf l)) ∧ w = w' := by
  obtain ⟨a, c, b, o, rfl, ha, hc, hcm, hx⟩ := hl
  unfold maxLen at hcm
  go_enter Tryz.func128, Tryz.ntmps128
  go_wp2_with fail
  go_loop [8] (fun i => ∃ k : Nat, k ≤ l.length ∧ i = .int .i64 k ∧ Hid (∀ (j : Nat), j < k → ∀ y, l[j]? = some y → y = 0)) (fun i => l.length - (intOf i).toNat)
  case atStart => exact ⟨0, by omega, rfl, Lib.hid fun j hj => absurd hj (by omega)⟩
  case round =>
    obtain ⟨k, hk, rfl, hj⟩ := hrel
    by_cases hlt : k < l.length
    · obtain ⟨x, hxk⟩ := get_ex hlt
      have c1 := hx k x hxk 0 _ rfl
      have i1 := idx_at (c := c) 1 Tryz.underlying39 szInt ha k hlt
      have hk1 : (k : Int) < (l.length : Int) := by omega
      simp only [Nat.mul_one, Nat.add_zero] at c1 i1
      have Hx := Lib.hid hxk; clear hxk
      by_cases h0 : x = 0
      · subst h0
        go_wp2_with fail
        go_round
        case rel => exact ⟨k + 1, by omega, by go_num, Lib.hid fun j hj' y hy => by
          rcases Nat.lt_or_ge j k with h | h
          · exact hj.out j h y hy
          · obtain rfl : j = k := by omega
            rw [Hx.out] at hy
            exact (Option.some.inj hy).symm⟩
        case measure => simp [intOf]; omega
      · have g : (x != 0) = true := by simpa using h0
        have H := Lib.hid (orOf_hit Hx.out h0 hj.out)
        clear h0
        go_wp2_with fail
        go_ret
        exact ⟨by rw [H.out]; rfl, rfl⟩
    · obtain rfl : k = l.length := by omega
      go_wp2_with fail
      go_ret
      exact ⟨by rw [orOf_none fun j y hy => hj.out j (List.getElem?_eq_some_iff.1 hy).1 y hy]; rfl, rfl⟩

theorem strCompare_any (a b : Str) (w : World) : Calls Tryz.prog 60 #[S a, S b] w fun e w' => e = .returned (.int .i64 (Lib.compareBytes a b)) ∧ w = w' :=
  (Tryz.strings_Compare ⟨a.toArray⟩ ⟨b.toArray⟩ w).mono fun _ _ ⟨h1, h2⟩ => ⟨by simpa using h1, h2.symm⟩
end Go.Proofs.YtlfkjbdkbdcdnaaGreatDoor
namespace Go.Proofs.YtlfkjbdkbdcdnaaGreatDoor
open Go.RowKit

/-- A function value's call enters its body. -/
def Clo (P : Program) (f : FuncId) : Prop := ∀ args W, (callFunc f args).run P W = .ok (.enter f args) W
/-- The function value f, with what it captured, answers p of each element of l, in every world that is as w0 was below base. -/
def PredOn {α : Type} (P : Program) (f : FuncId) (caps : Array Value) (val : α → Value) (l : List α) (p : α → Bool) (base : Nat) (w0 : World) : Prop :=
  ∀ W x, x ∈ l → Below base w0 W → base ≤ W.heap.size → Calls P f (#[val x] ++ caps) W fun e W' => e = .returned (.bool (p x)) ∧ Below W.heap.size W W'

theorem PredOn.sub {α : Type} {P : Program} {f : FuncId} {caps : Array Value} {val : α → Value} {l m : List α} {p : α → Bool} {base : Nat} {w0 : World} (h : PredOn P f caps val l p base w0) (hm : ∀ x ∈ m, x ∈ l) : PredOn P f caps val m p base w0 :=
  fun W x hx => h W x (hm x hx)

def idxVal {α : Type} (p : α → Bool) (l : List α) : Int := match l.findIdx? p with | none => -1 | some i => i

theorem idxVal_none {α : Type} {p : α → Bool} {l : List α} (h : ∀ (j : Nat) (x : α), l[j]? = some x → p x = false) : idxVal p l = -1 := by
  unfold idxVal
  have : l.findIdx? p = none := List.findIdx?_eq_none_iff.2 fun x hx => by
    obtain ⟨j, hj, he⟩ := List.getElem_of_mem hx
    exact h j x (by simp [hj, he])
  rw [this]
theorem idxVal_some {α : Type} {p : α → Bool} {l : List α} {k : Nat} {x : α} (hk : l[k]? = some x) (hp : p x = true) (h : ∀ (j : Nat) (y : α), j < k → l[j]? = some y → p y = false) : idxVal p l = k := by
  unfold idxVal
  have hlt : k < l.length := by
    rcases Nat.lt_or_ge k l.length with h' | h'
    · exact h'
    · rw [List.getElem?_eq_none h'] at hk; cases hk
  have hx : l[k] = x := by rw [List.getElem?_eq_getElem hlt] at hk; exact Option.some.inj hk
  have : l.findIdx? p = some k := List.findIdx?_eq_some_iff_getElem.2 ⟨hlt, by rw [hx]; exact hp, fun j hj => by
    have := h j l[j] hj (by simp)
    simpa using this⟩
  rw [this]
end Go.Proofs.YtlfkjbdkbdcdnaaGreatDoor
namespace Go.Proofs.YtlfkjbdkbdcdnaaGreatDoor
open Go.RowKit

/-- A round's cells. -/
theorem flCells {w w' : World} {b o : Nat} {l : List Fl} {k : Nat} {x : Fl} (hx : ∀ (k : Nat) (x : Fl), l[k]? = some x → ∀ (j : Nat) (u : Value), (encF x)[j]? = some u → w.cell? ⟨b, o + k * 6 + j, none⟩ = some u) (hb : Below w.heap.size w w') (hk : l[k]? = some x) :
    w'.cell? ⟨b, o + k * 6, none⟩ = some (S x.path) ∧ w'.cell? ⟨b, o + k * 6 + 1, none⟩ = some (S x.part) ∧ w'.cell? ⟨b, o + k * 6 + 2, none⟩ = some (.int .i64 x.n) ∧ w'.cell? ⟨b, o + k * 6 + 3, none⟩ = some (.int .i64 x.lo) ∧ w'.cell? ⟨b, o + k * 6 + 4, none⟩ = some (.int .i64 x.hi) ∧ w'.cell? ⟨b, o + k * 6 + 5, none⟩ = some (.int .i64 x.seq) := by
  have h := fun j u hu => by
    have := hx k x hk j u hu
    exact (hb.cell (World.block_lt_of_cell? w _ this)).trans this
  exact ⟨h 0 _ rfl, h 1 _ rfl, h 2 _ rfl, h 3 _ rfl, h 4 _ rfl, h 5 _ rfl⟩

end Go.Proofs.YtlfkjbdkbdcdnaaGreatDoor
namespace Go.Proofs.YtlfkjbdkbdcdnaaGreatDoor
open Go.RowKit

end Go.Proofs.YtlfkjbdkbdcdnaaGreatDoor
namespace Go.Proofs
open Go.Shelf
def Tryz.bld166_ren : Go.Shelf.Ren := ⟨fun | 166 => 151 | 240 => 189 | 276 => 230 | n => n, fun | 0 => 0 | 3 => 3 | 4 => 4 | 5 => 5 | 9 => 9 | 20 => 20 | 37 => 46 | 70 => 187 | 72 => 189 | 75 => 27 | 80 => 191 | 164 => 194 | n => n, fun | n => n⟩
theorem Tryz.bld166 : Go.Proofs.Lays.n166 Tryz.prog Tryz.bld166_ren := {
  mixed := by kernel_rfl
  f166 := Tryz.func151.trans (congrArg some (by kernel_rfl))
  f240 := Tryz.func189.trans (congrArg some (by kernel_rfl))
  f276 := Tryz.func230.trans (congrArg some (by kernel_rfl))
  t0 := Tryz.underlying0
  a0 := Tryz.isAgg0
  z0 := Tryz.sizeOf0
  v0 := Tryz.zeroValue0
  t3 := Tryz.underlying3
  a3 := Tryz.isAgg3
  z3 := Tryz.sizeOf3
  v3 := Tryz.zeroValue3
  t4 := Tryz.underlying4
  a4 := Tryz.isAgg4
  z4 := Tryz.sizeOf4
  v4 := Tryz.zeroValue4
  t9 := Tryz.underlying9
  a9 := Tryz.isAgg9
  z9 := Tryz.sizeOf9
  v9 := Tryz.zeroValue9
  t20 := Tryz.underlying20
  a20 := Tryz.isAgg20
  z20 := Tryz.sizeOf20
  v20 := Tryz.zeroValue20
  t37 := Tryz.underlying46
  a37 := Tryz.isAgg46
  z37 := Tryz.sizeOf46
  v37 := Tryz.zeroValue46
  t70 := Tryz.underlying187
  a70 := Tryz.isAgg187
  z70 := Tryz.sizeOf187
  v70 := Tryz.zeroValue187
  t72 := Tryz.underlying189
  a72 := Tryz.isAgg189
  z72 := Tryz.sizeOf189
  v72 := Tryz.zeroValue189
  t75 := Tryz.underlying27
  a75 := Tryz.isAgg27
  z75 := Tryz.sizeOf27
  v75 := Tryz.zeroValue27
  t164 := Tryz.underlying194
  a164 := Tryz.isAgg194
  z164 := Tryz.sizeOf194
  v164 := Tryz.zeroValue194 }
theorem Tryz.bldX166 : Builder.Extra Tryz.prog Tryz.bld166_ren where
  sizeBuilder := by kernel_rfl
  liesBuilder := by kernel_rfl
  t5 := Tryz.underlying5
  a5 := Tryz.isAgg5
  z5 := Tryz.sizeOf5
  v5 := Tryz.zeroValue5
  infoByte := by kernel_rfl
  cellsByte := by kernel_rfl
  sizeByte := by kernel_rfl
  neB5 := by decide
end Go.Proofs
namespace Go.Proofs.YtlfkjbdkbdcdnaaGreatDoor
open Go.RowKit
/-- A builder of the call's own that holds the text s. -/
abbrev BldAt (B b : Nat) (s : Str) (w : World) : Prop := Lib.IsBuilder 189 5 B b (Lib.byteCells s) w
theorem bldWrite_any (B b : Nat) (s t : Str) (w : World) (h : BldAt B b s w) (hl : s.length + t.length ≤ 1000000) (hB : B ≤ w.heap.size) :
    Calls Tryz.prog 151 #[.pointer (some ⟨b, 0, none⟩), S t] w fun e w' => e = .returned (.tuple #[.int .i64 t.length, .nilIface]) ∧ BldAt B b (s ++ t) w' ∧ Below B w w' := by
  refine (Any.Builder_WriteString Tryz.bld166 Tryz.bldX166 B b (Lib.byteCells s) ⟨t.toArray⟩ w h (by simp [Lib.byteCells, ByteArray.size]; omega) hB).mono ?_
  rintro e w' ⟨rfl, h1, h2⟩
  refine ⟨by simp [ByteArray.size], .inr ?_, h2⟩
  have e1 : Lib.byteCells s ++ Lib.strCells ⟨t.toArray⟩ = Lib.byteCells (s ++ t) := by simp [Lib.byteCells, Lib.strCells]
  rw [← e1]
  exact h1
theorem bldString_any (B b : Nat) (s : Str) (w : World) (h : BldAt B b s w) (hB : B ≤ w.heap.size) :
    Calls Tryz.prog 152 #[.pointer (some ⟨b, 0, none⟩)] w fun e w' => e = .returned (S s) ∧ Below B w w' :=
  Tryz.Builder_String_any B b s w h hB
end Go.Proofs.YtlfkjbdkbdcdnaaGreatDoor
namespace Go.Proofs.YtlfkjbdkbdcdnaaGreatDoor
open Go.RowKit
attribute [local go_sem] bapp

theorem numsTail_snoc (l : List Int) (x : Int) : numsTail (l ++ [x]) = numsTail l ++ 32 :: Lib.itoa x := by simp [numsTail]
theorem numsTail_len (l : List Int) (h : ∀ x ∈ l, -9223372036854775808 ≤ x ∧ x ≤ 9223372036854775807) : (numsTail l).length ≤ l.length * 22 := by
  induction l with
  | nil => simp [numsTail]
  | cons x r ih =>
    have h1 := h x (by simp)
    have h2 := itoa_len x (by omega) (by omega)
    have h3 := ih fun y hy => h y (by simp [hy])
    simp only [numsTail, List.flatMap_cons, List.length_append, List.length_cons] at h3 ⊢
    omega

theorem cat_run (a b : ByteArray) (n m : Nat) (ha : a.size = n) (hb : b.size = m) (h : n + m ≤ 1000000) : ∀ w, (Op.stringOp .add a b).run Tryz.prog w = .ok (.string (a ++ b)) w := fun w => run_string_add_sum w a b (by omega)
set_option maxHeartbeats 1000000 in
set_option maxRecDepth 20000 in
theorem fileText_any (E : Nat → Addr) (B : Nat) (f : Fl) (w : World) (hE : Errs [2, 4, 5] E B w) (hT : LNum B w) (hM : LMax B w) (hs : midF f) :
    Calls Tryz.prog 48 #[fileV f] w fun e w' => e = .returned (S (fileText f)) ∧ Below w.heap.size w w' := by
  have hBw := hE.le
  have hb0 : Below w.heap.size w (w.alloc (.cells #[S f.path, S f.part, .int .i64 f.n, .int .i64 f.lo, .int .i64 f.hi, .int .i64 f.seq] 79)) := (Below.refl _ _).alloc (Nat.le_refl _) _
  have Cs := Lib.hid (fun w6 (h : Below (w.alloc (.cells #[S f.path, S f.part, .int .i64 f.n, .int .i64 f.lo, .int .i64 f.hi, .int .i64 f.seq] 79)).heap.size (w.alloc (.cells #[S f.path, S f.part, .int .i64 f.n, .int .i64 f.lo, .int .i64 f.hi, .int .i64 f.seq] 79)) w6) => fileCells rfl h)
  have hE1 := hE.below' hb0 hE.le; have hT1 := hT.below' hb0 hE.le; have hM1 := hM.below' hb0 hE.le
  obtain ⟨c0, c1, c2, c3, c4, c5⟩ := Cs.out _ (Below.refl _ _)
  go_enter Tryz.func48, Tryz.ntmps48
  go_wp2_with fail
  generalize w.alloc (.cells #[S f.path, S f.part, .int .i64 f.n, .int .i64 f.lo, .int .i64 f.hi, .int .i64 f.seq] 79) = w1 at *
  refine (fileCheck_any E B f _ hE1 hT1 hM1 hs).mono ?_
  rintro e w2 ⟨ev, rfl, hev, hb2⟩
  clear c0 c1 c2 c3 c4 c5
  have hb2' := hb0.trans (hb2.mono hb0.size)
  by_cases hck : checkF f = 0
  case neg =>
    have HF : Hid (fileText f = []) := Lib.hid (if_neg hck)
    rw [fileEr_bad rfl hck] at hev
    obtain ⟨hcr, rfl⟩ := hev
    have HK := Lib.hid hck; clear hck
    go_wp2_with fail
    go_ret
    exact ⟨by rw [HF.out]; rfl, hb2'⟩
  have HF : Hid (fileText f = fileLine f) := Lib.hid (if_pos hck)
  rw [fileEr_nil hck] at hev
  obtain rfl : ev = .nilIface := hev
  have hbd : ∀ x ∈ [f.n, f.lo, f.hi, f.seq], -9223372036854775808 ≤ x ∧ x ≤ 9223372036854775807 := by
    obtain ⟨-, -, -, -, h⟩ := checkF_zero hck
    unfold boundF farN at h
    intro x hx
    simp only [List.mem_cons, List.mem_nil_iff, or_false] at hx
    rcases hx with rfl | rfl | rfl | rfl <;> omega
  have HB := Lib.hid hbd; clear hbd
  have HK := Lib.hid hck; clear hck
  obtain ⟨c0, c1, c2, c3, c4, c5⟩ := Cs.out w2 hb2
  have hl1 := hs.1
  have hl2 := hs.2
  have hil := ints_new [f.n, f.lo, f.hi, f.seq] w2 3 _ 4 #[.int .i64 f.n, .int .i64 f.lo, .int .i64 f.hi, .int .i64 f.seq] rfl rfl rfl (by decide)
  have hb3 := hb2'.alloc hb2'.size (.cells #[.int .i64 f.n, .int .i64 f.lo, .int .i64 f.hi, .int .i64 f.seq] 3)
  go_wp2_with fail
  generalize w2.alloc (.cells #[.int .i64 f.n, .int .i64 f.lo, .int .i64 f.hi, .int .i64 f.seq] 3) = w3 at *
  have hT3 := hT.below' hb3 hBw
  obtain ⟨a, c, b, o, hv, ha, hc, hcm, hx⟩ := hil
  simp only [Value.slice.injEq] at hv
  obtain ⟨rfl, -, rfl⟩ := hv
  have hp0 : [f.n, f.lo, f.hi, f.seq].length = 4 := rfl
  have hab := ha (by simp)
  simp only [Option.some.injEq, Addr.mk.injEq, and_true] at hab
  obtain ⟨rfl, rfl⟩ := hab
  have HL : Hid (fileLine f = f.path ++ 32 :: (f.part ++ numsTail [f.n, f.lo, f.hi, f.seq])) := Lib.hid (by simp [fileLine])
  generalize [f.n, f.lo, f.hi, f.seq] = l at *
  go_loopw [3, 25] (fun s i wr => ∃ k : Nat, k ≤ l.length ∧ i = .int .i64 k ∧ s = S ((f.path ++ 32 :: f.part) ++ numsTail (l.take k)) ∧ Below w3.heap.size w3 wr) (fun _ i _ => l.length - (intOf i).toNat)
  case atStart => exact ⟨0, by omega, rfl, by simp [numsTail], Below.refl _ _⟩
  case round =>
    obtain ⟨k, hk, rfl, rfl, hb⟩ := hrel
    have hl4 := numsTail_len (l.take k) (fun y hy => HB.out y (List.mem_of_mem_take hy))
    have hl5 : (l.take k).length ≤ 4 := by rw [List.length_take]; omega
    have hl6 : (numsTail (l.take k)).length ≤ 88 := by omega
    clear hl4 hl5
    by_cases hlt : k < l.length
    case neg =>
      obtain rfl : k = l.length := by omega
      rw [List.take_length] at hl6 ⊢
      rw [hp0]
      go_wp2_with fail
      go_ret
      exact ⟨by rw [HF.out, HL.out]; rfl, hb3.trans (hb.mono hb3.size)⟩
    obtain ⟨x, hxk⟩ := get_ex hlt
    have c1 := hx k x hxk 0 _ rfl
    have c1 := (hb.cell (World.block_lt_of_cell? w3 _ c1)).trans c1
    have i1 := idx_at (c := 4) 1 Tryz.underlying39 szInt ha k hlt
    have hk1 : (k : Int) < (l.length : Int) := by omega
    simp only [Nat.mul_one, Nat.add_zero, Nat.zero_add] at c1 i1
    rw [hp0] at hk1 i1
    obtain ⟨h1, h2⟩ := HB.out x (List.mem_of_getElem? hxk)
    have hsn := take_snoc' hxk
    have hl1 := itoa_len x h1 h2
    have Hx := Lib.hid hsn; clear hsn hxk
    go_wp2_with fail
    refine (itoa_any B x h1 h2 _ (hT3.below' hb hT3.le)).mono ?_
    rintro e w4 ⟨rfl, hb4⟩
    go_wp2_with fail
    go_roundw
    case rel => exact ⟨k + 1, by omega, by go_num, by rw [Hx.out, numsTail_snoc]; simp, hb.trans (hb4.mono hb.size)⟩
    case measure => simp [intOf]; omega

end Go.Proofs.YtlfkjbdkbdcdnaaGreatDoor
namespace Go.Proofs.YtlfkjbdkbdcdnaaGreatDoor
open Go.RowKit

/-- The walk stops here. -/
theorem wpList_stop {P : Program} {w : World} {ops : Array Oper} {l : List Oper} {a : Act} {Q : Exit → Act → World → Prop} (h : wpList P ops Q l a w ∧ True) : wpList P ops Q l a w := h.1
theorem grown_setRow (w : World) (g : Nat) (cs : Array Value) : w.grownBy (w.setRow g cs) (some g) := ⟨rfl, rfl, rfl, by simp [World.setRow], fun k _ hk => setRow_other w g k cs (fun e => hk (by rw [e]))⟩
theorem run_copyN {P : Program} {dT sT e ty : TypeId} {sz bytes : Nat} (hE : ElemInfo P dT e sz bytes) {g off dLen dCap sLen sCap n : Nat} {ad : Addr} {cur : Array Value} (w : World) (hg : w.heap[g]? = some (.cells cur e (0, 0)))
    (cs : List Value) (hn : n = Nat.min sLen dLen) (hcs : cs.length = n * sz) (hsrc : ∀ j v, cs[j]? = some v → w.cell? (ad.add j) = some v) (hfit : off + cs.length ≤ cur.size) (h1 : ∀ v ∈ cs, v.oneCell' = true) :
    (Builtin.copy_ #[dT, sT] ty #[.slice (some ⟨g, off, none⟩) dLen dCap, .slice (some ad) sLen sCap]).run P w = .ok (goInt n) (w.setRow g (splice cur.toList off cs).toArray) := by
  obtain ⟨i, z, ht, hi, hz, hsize, hby, hzs, hsz⟩ := hE
  subst hn
  have h2 := run_firstCells_some (P := P) w sz (Nat.min sLen dLen) ad sLen sCap cs hcs hsrc
  have h3 := run_storeCells_at P g off e cs 0 cur w hg (by simpa using hfit) h1
  simp only [Nat.add_zero] at h3
  simp [Builtin.copy_, run_underlying ht, Go.sizeOf, typeInfo, hi, hsize, Builtin.lenOf, h2, h3, splice]

/-- The same, the world behind it a letter. -/
theorem run_copyN_ex {P : Program} {dT e : TypeId} {sz bytes : Nat} (sT : TypeId) (hE : ElemInfo P dT e sz bytes) (g off dLen dCap sLen sCap n : Nat) (ad : Addr) (cur : Array Value) (w : World) (hg : w.heap[g]? = some (.cells cur e (0, 0)))
    (cs : List Value) (hn : n = Nat.min sLen dLen) (hcs : cs.length = n * sz) (hsrc : ∀ j v, cs[j]? = some v → w.cell? (ad.add j) = some v) (hfit : off + cs.length ≤ cur.size) (h1 : ∀ v ∈ cs, v.oneCell' = true) :
    ∃ w', (∀ ty, (Builtin.copy_ #[dT, sT] ty #[.slice (some ⟨g, off, none⟩) dLen dCap, .slice (some ad) sLen sCap]).run P w = .ok (goInt n) w') ∧ Hid (w'.heap[g]? = some (.cells (splice cur.toList off cs).toArray e (0, 0))) ∧ w.grownBy w' (some g) :=
  ⟨_, fun ty => run_copyN (ty := ty) hE w hg cs hn hcs hsrc hfit h1, Lib.hid (setRow_heap w g cur _ e _ hg), grown_setRow w g _⟩
theorem wpList_copyN {P : Program} {w : World} {ops : Array Oper} {rest : List Oper} {o : Oper} {a : Act} {Q : Exit → Act → World → Prop} (hgd : o.guard = none) (d s : Operand) (dT sT : TypeId)
    (ho : o.op = .call { callee := .builtin .copy, args := #[d, s], argTypes := #[dT, sT] }) {e : TypeId} {sz bytes : Nat} (hE : ElemInfo P dT e sz bytes)
    (g off dLen dCap sLen sCap n : Nat) (ad : Addr) (hd : a.eval d = .slice (some ⟨g, off, none⟩) dLen dCap) (hs : a.eval s = .slice (some ad) sLen sCap) (cur : Array Value) (hg : w.heap[g]? = some (.cells cur e (0, 0)))
    (cs : List Value) (hn : n = Nat.min sLen dLen) (hcs : cs.length = n * sz) (hsrc : ∀ j v, cs[j]? = some v → w.cell? (ad.add j) = some v) (hfit : off + cs.length ≤ cur.size) (h1 : ∀ v ∈ cs, v.oneCell' = true)
    (h : ∀ w', Hid (w'.heap[g]? = some (.cells (splice cur.toList off cs).toArray e (0, 0))) → w.grownBy w' (some g) → wpList P ops Q rest (a.put o.dst (goInt n)) w') : wpList P ops Q (o :: rest) a w :=
  wpList_plain hgd fun _ hK => by
    have h := h _ (Lib.hid (setRow_heap w g cur (splice cur.toList off cs).toArray e _ hg)) (grown_setRow w g _)
    have hr := fun ty => run_copyN (P := P) (sT := sT) (ty := ty) (sCap := sCap) (dCap := dCap) hE w hg cs hn hcs hsrc hfit h1
    unfold Oper.wp
    simp [execOp, ho, resolve, invoke, builtin, hd, hs, hr, Result.andThen]
    exact hK _ _ h

section
variable {α : Type} {enc : α → List Value} {e : TypeId} {sz B : Nat} {w : World} {v : Value} {l : List α}

/-- The cells of the elements from k on. -/
theorem Own.from {g n cap : Nat} (hen : Enc enc sz) (h : Own enc e sz B w (.slice (some ⟨g, 0, none⟩) n cap) l) (k : Nat) : ∀ j u, ((l.drop k).flatMap enc)[j]? = some u → w.cell? ⟨g, k * sz + j, none⟩ = some u := by
  intro j u hu
  have hne : l.drop k ≠ [] := fun e => by rw [e] at hu; simp at hu
  have hpos : 0 < l.length := by
    rcases Nat.eq_zero_or_pos l.length with h0 | h0
    · rw [List.eq_nil_of_length_eq_zero h0] at hne; simp at hne
    · exact h0
  obtain ⟨g', cap', cur, hv, hB, hg, hc, hm, hs, ht⟩ := h.open hpos
  cases hv
  have hkl : k ≤ l.length := by
    rcases Nat.lt_or_ge l.length k with h0 | h0
    · rw [List.drop_eq_nil_of_le (by omega)] at hne; exact absurd rfl hne
    · exact h0
  have hsplit : l.flatMap enc = (l.take k).flatMap enc ++ (l.drop k).flatMap enc := by rw [← List.flatMap_append, List.take_append_drop]
  have hl : ((l.take k).flatMap enc).length = k * sz := by rw [flat_length hen, List.length_take, Nat.min_eq_left hkl]
  have h1 : (l.flatMap enc)[k * sz + j]? = some u := by
    rw [hsplit, List.getElem?_append_right (by omega), hl, show k * sz + j - k * sz = j by omega]; exact hu
  rw [← ht, List.getElem?_take] at h1
  split at h1
  · rw [cell_of_row w g _ cur e (0, 0) hg]; simpa using h1
  · cases h1

/-- A row set anew. -/
theorem Own.anew {g n cap m : Nat} {cs : Array Value} {l' : List α} (hen : Enc enc sz) (h : Own enc e sz B w (.slice (some ⟨g, 0, none⟩) n cap) l) (hpos : 0 < l.length) (hm' : l'.length = m) (hc : m ≤ cap) (hsz : cs.size = cap * sz) (ht : cs.toList.take (m * sz) = l'.flatMap enc) :
    Own enc e sz B (w.setRow g cs) (.slice (some ⟨g, 0, none⟩) m cap) l' := by
  obtain ⟨g', cap', cur, hv, hB, hg, hc', hm, hs, ht'⟩ := h.open hpos
  cases hv
  exact Own.mk hen hm' hB (setRow_heap w g cur cs e _ hg) hc hm hsz ht
end
theorem Own.row {α : Type} {enc : α → List Value} {e : TypeId} {sz B : Nat} {w : World} {l : List α} {g n cap : Nat} (h : Own enc e sz B w (.slice (some ⟨g, 0, none⟩) n cap) l) : ∃ cur : Array Value, B ≤ g ∧ w.heap[g]? = some (.cells cur e (0, 0)) ∧ l.length = n ∧ n ≤ cap ∧ cap ≤ maxLen ∧ cur.size = cap * sz ∧ cur.toList.take (n * sz) = l.flatMap enc := by
  obtain ⟨_, h2⟩ := h
  rcases h2 with ⟨hv, _⟩ | ⟨g', cap', cur, hv, hB, hg, hc, hm, hs, ht⟩
  · cases hv
  · cases hv
    exact ⟨cur, hB, hg, rfl, hc, hm, hs, ht⟩
theorem Own.put {α : Type} {enc : α → List Value} {e : TypeId} {sz B : Nat} {w : World} {l : List α} {g n cap : Nat} {cur : Array Value} (hen : Enc enc sz) (hn : l.length = n) (hB : B ≤ g) (hg : w.heap[g]? = some (.cells cur e (0, 0))) (hc : n ≤ cap) (hm : cap ≤ maxLen) (hs : cur.size = cap * sz) (ht : cur.toList.take (n * sz) = l.flatMap enc) : Own enc e sz B w (.slice (some ⟨g, 0, none⟩) n cap) l := Own.mk hen hn hB hg hc hm hs ht
/-- s[:k] of such a slice. -/
theorem Own.cut' {α : Type} {enc : α → List Value} {e : TypeId} {sz B : Nat} {w : World} {l : List α} {g n cap k : Nat} (hen : Enc enc sz) (h : Own enc e sz B w (.slice (some ⟨g, 0, none⟩) n cap) l) (hk : k ≤ n) : Own enc e sz B w (.slice (some ⟨g, 0, none⟩) k cap) (l.take k) := by
  obtain ⟨cur, hB, hg, hl, hc, hm, hs, ht⟩ := h.row
  refine Own.put hen (by rw [List.length_take]; omega) hB hg (by omega) hm hs ?_
  have : l.flatMap enc = (l.take k).flatMap enc ++ (l.drop k).flatMap enc := by rw [← List.flatMap_append, List.take_append_drop]
  have hl' : ((l.take k).flatMap enc).length = k * sz := by rw [flat_length hen, List.length_take, Nat.min_eq_left (by omega)]
  have h1 : (cur.toList.take (n * sz)).take (k * sz) = cur.toList.take (k * sz) := by
    rw [List.take_take, Nat.min_eq_left (Nat.mul_le_mul_right _ hk)]
  rw [← h1, ht, this, ← hl', List.take_left]

/-- clear(s[n:n+m]) behind such a slice, within its capacity. -/
theorem run_clear_behind {α : Type} {P : Program} {enc : α → List Value} {t e : TypeId} {sz bytes B : Nat} {w : World} {g n cap m : Nat} {l : List α} (hE : ElemInfo P t e sz bytes) (hen : Enc enc sz) (hz1 : ∀ z, (P.info? e).bind (·.zero) = some z → ∀ u ∈ z.cells.toList, u.oneCell' = true)
    (h : Own enc e sz B w (.slice (some ⟨g, 0, none⟩) n cap) l) (hm : n + m ≤ cap) (hm0 : 0 < m) (c : Nat) :
    ∃ cs : Array Value, (∀ ty, (Builtin.clear_ #[t] ty #[.slice (some ⟨g, n * sz, none⟩) m c]).run P w = .ok (.tuple #[]) (w.setRow g cs)) ∧ Own enc e sz B (w.setRow g cs) (.slice (some ⟨g, 0, none⟩) n cap) l := by
  obtain ⟨i, z, ht, hi, hz, hsize, hby, hzs, hsz⟩ := hE
  obtain ⟨cur, hB, hg, hl, hc, hmx, hs, ht'⟩ := h.row
  have hnz : (Builtin.zeroCells z.cells m).size = m * sz := by rw [size_zeroCells, hzs]
  have hone : ∀ u ∈ (Builtin.zeroCells z.cells m).toList, u.oneCell' = true := by
    intro u hu
    have hz' := hz1 z (by rw [hi]; exact hz)
    obtain ⟨j, hj, rfl⟩ := Array.getElem_of_mem (Array.mem_def.2 hu)
    simp only [Builtin.zeroCells, Array.getElem_map, Array.getElem_range]
    rw [getElem!_pos z.cells (j % z.cells.size) (Nat.mod_lt _ (by omega))]
    exact hz' _ (by simp)
  have hle : n * sz + m * sz ≤ cap * sz := by rw [← Nat.add_mul]; exact Nat.mul_le_mul_right _ hm
  have hrun := run_storeCells_at P g (n * sz) e (Builtin.zeroCells z.cells m).toList 0 cur w hg (by rw [Array.length_toList, hnz]; omega) hone
  simp only [Nat.add_zero] at hrun
  refine ⟨_, fun ty => ?_, Own.put (cur := (cur.toList.take (n * sz) ++ (Builtin.zeroCells z.cells m).toList ++ cur.toList.drop (n * sz + (Builtin.zeroCells z.cells m).toList.length)).toArray) hen hl hB (setRow_heap w g cur _ e _ hg) hc hmx ?_ ?_⟩
  · obtain ⟨d, rfl⟩ : ∃ d, m = d + 1 := ⟨m - 1, by omega⟩
    simp [Builtin.clear_, run_underlying ht, zeroValue, typeInfo, hi, hz, hrun]
  · simp [hnz, Array.length_toList]; omega
  · simp only [List.append_assoc]
    rw [List.take_append_of_le_length (by simp; omega), List.take_take, Nat.min_self, ht']

/-- append(s[:k], ..) within the capacity, as one step of a region that draws. -/
theorem step_fits {P : Program} {ops : Array Oper} {o : Oper} {a : Act} {w : World} {K : Act → World → Prop} {Q : Exit → Act → World → Prop} {E : Prop} (hgd : o.guard = none) (s x : Operand) (t : TypeId)
    (ho : o.op = Op.call { callee := Callee.builtin Builtin.append, args := #[s, x], argTypes := #[t, t] }) {e : TypeId} {sz bytes : Nat} (hE : ElemInfo P t e sz bytes) (base g k cap : Nat) (xs : List Value)
    (hs : a.eval s = .slice (some ⟨g, 0, none⟩) k cap) (hown : w.ownsRow base e sz (.slice (some ⟨g, 0, none⟩) k cap) k xs) (ad : Addr) (m c r : Nat) (news : List Value) (hx : a.eval x = .slice (some ad) m c) (hl : news.length = m * sz) (hnews : ∀ j u, news[j]? = some u → w.cell? (ad.add j) = some u) (h1 : ∀ u ∈ news, u.oneCell' = true) (hroom : k + m ≤ cap) (hr : k + m = r)
    (hK : ∀ w', w'.ownsRow base e sz (.slice (some ⟨g, 0, none⟩) r cap) r (xs ++ news) → w.grownBy w' (some g) → K (a.put o.dst (.slice (some ⟨g, 0, none⟩) r cap)) w') :
    if Region.wanted o (yielded ops a.tmps) = true then Oper.wp P o a w K Q else E := by
  have hw : Region.wanted o (yielded ops a.tmps) = true := by simp [Region.wanted, hgd]
  rw [if_pos hw]
  obtain ⟨i, z, ht, hi, hz, hsize, hby, hzs, hsz⟩ := hE
  subst hr
  obtain ⟨w', hrun, r1, r2⟩ := run_append_fits (P := P) w base t o.type e i sz ht hi hsize g k cap xs hown ad m c news hl hnews h1 hroom
  unfold Oper.wp
  simp [execOp, ho, resolve, invoke, builtin, hs, hx, hrun, Result.andThen]
  exact hK w' r1 r2

/-- copy into a row that the call owns, as one step of a region that draws. -/
theorem step_copyN {P : Program} {ops : Array Oper} {o : Oper} {a : Act} {w : World} {K : Act → World → Prop} {Q : Exit → Act → World → Prop} {E : Prop} (hgd : o.guard = none) (d s : Operand) (dT sT : TypeId)
    (ho : o.op = .call { callee := .builtin .copy, args := #[d, s], argTypes := #[dT, sT] }) {e : TypeId} {sz bytes : Nat} (hE : ElemInfo P dT e sz bytes)
    (g off dLen dCap sLen sCap n : Nat) (ad : Addr) (hd : a.eval d = .slice (some ⟨g, off, none⟩) dLen dCap) (hs : a.eval s = .slice (some ad) sLen sCap) (cur : Array Value) (hg : w.heap[g]? = some (.cells cur e (0, 0)))
    (cs : List Value) (hn : n = Nat.min sLen dLen) (hcs : cs.length = n * sz) (hsrc : ∀ j v, cs[j]? = some v → w.cell? (ad.add j) = some v) (hfit : off + cs.length ≤ cur.size) (h1 : ∀ v ∈ cs, v.oneCell' = true)
    (hK' : ∀ w', Hid (w'.heap[g]? = some (.cells (splice cur.toList off cs).toArray e (0, 0))) → w.grownBy w' (some g) → K (a.put o.dst (goInt n)) w') :
    if Region.wanted o (yielded ops a.tmps) = true then Oper.wp P o a w K Q else E := by
  have hK := hK' _ (Lib.hid (setRow_heap w g cur (splice cur.toList off cs).toArray e _ hg)) (grown_setRow w g _)
  have hw : Region.wanted o (yielded ops a.tmps) = true := by simp [Region.wanted, hgd]
  rw [if_pos hw]
  have hr := fun ty => run_copyN (P := P) (sT := sT) (ty := ty) (sCap := sCap) (dCap := dCap) hE w hg cs hn hcs hsrc hfit h1
  unfold Oper.wp
  simp [execOp, ho, resolve, invoke, builtin, hd, hs, hr, Result.andThen]
  exact hK

/-- append(s[:k], make([]T, m)...), s[:k] a row of the call's own, no room: a new row. -/
theorem run_app_zeros {P : Program} {t tn ty e : TypeId} {sz bytes : Nat} (w : World) (hE : ElemInfo P t e sz bytes) (kn : IntKind) (htn : P.underlying tn = some (.int kn)) (base g k cap m : Nat) (xs : List Value)
    (hown : w.ownsRow base e sz (.slice (some ⟨g, 0, none⟩) k cap) k xs) (hm : 0 < m) (hno : cap < k + m) (hbytes : (k + m) * bytes ≤ 140737488355328) (h63 : k + m ≤ 100000) :
    ∃ cap' cur, (Builtin.append_ #[t, tn] ty #[.slice (some ⟨g, 0, none⟩) k cap, .int .i64 m]).run P w = .ok (.slice (some ⟨w.heap.size, 0, none⟩) (k + m) cap') (w.drew.alloc (.cells cur e)) ∧ k + m ≤ cap' ∧ cap' ≤ maxLen ∧ cur.size = cap' * sz ∧ cur.toList.take (k * sz) = xs := by
  obtain ⟨i, z, ht, hi, hz, hsize, hby, hzs, hsz⟩ := hE
  have hge := grownCap_ge w (k + m) cap e
  have hcm : grownCap w (k + m) cap e ≤ maxLen := grownCap_le_maxLen w (k + m) cap e (by unfold maxLen; omega)
  have holds : ∀ j u, xs[j]? = some u → w.cell? ((⟨g, 0, none⟩ : Addr).add j) = some u := hown.cells (g := g) rfl
  have hf := run_firstCells_some (P := P) w.drew sz k ⟨g, 0, none⟩ k cap xs hown.1 (by simpa using holds)
  have h48 := growslice_fits (need := k + m) (old := cap) (bytes := bytes) (by omega) hbytes
  have hn : m ≠ 0 := by omega
  have hw : IntKind.i64.wrap (m : Int) = m := by rw [IntKind.wrap_i64]; omega
  have hneg : ¬ ((m : Int) < 0) := by omega
  have h48i : ¬ (281474976710656 < (m : Int) * (i.bytes : Int)) := by
    rw [← Int.natCast_mul, hby]
    have : m * bytes ≤ (k + m) * bytes := Nat.mul_le_mul_right _ (by omega)
    omega
  have hns : ¬ (m * sz = 0) := Nat.mul_ne_zero hn (by omega)
  have hno' : ¬ (k + m ≤ cap) := by omega
  have h63' : ¬ (9223372036854775807 < ((k : Int) + (m : Int))) := by omega
  have h48' : ¬ (281474976710656 < Builtin.nextslicecap (k + m) cap * i.bytes) := by rw [hby]; omega
  refine ⟨grownCap w (k + m) cap e, xs.toArray ++ Builtin.zeroCells z.cells m ++ Builtin.zeroCells z.cells (grownCap w (k + m) cap e - (k + m)), ?_, hge, hcm, ?_, ?_⟩
  · simp [Builtin.append_, run_underlying ht, run_underlying htn, Go.sizeOf, typeInfo, zeroValue, hi, hz, hsize, asInt, asIntOf, hw, hneg, hns, h63', h48', h48i, hno', Question.forced, hf, newRow, grownCap]
  · simp only [Array.size_append, List.size_toArray, size_zeroCells, hzs, hown.1, ← Nat.add_mul]
    congr 1
    omega
  · simp only [Array.toList_append, List.append_assoc]
    rw [← hown.1]
    exact List.take_left
theorem wpList_app_zeros {P : Program} {w : World} {ops : Array Oper} {rest : List Oper} {o : Oper} {a : Act} {Q : Exit → Act → World → Prop} (hgd : o.guard = none) (s x : Operand) (t tn : TypeId)
    (ho : o.op = .call { callee := .builtin .append, args := #[s, x], argTypes := #[t, tn] }) {e : TypeId} {sz bytes : Nat} (hE : ElemInfo P t e sz bytes) (kn : IntKind) (htn : P.underlying tn = some (.int kn)) (base g k cap m : Nat) (xs : List Value) (M : Int) (hM : M = m)
    (hs : a.eval s = .slice (some ⟨g, 0, none⟩) k cap) (hx : a.eval x = .int .i64 M) (hown : w.ownsRow base e sz (.slice (some ⟨g, 0, none⟩) k cap) k xs) (hm : 0 < m) (hno : cap < k + m) (hbytes : (k + m) * bytes ≤ 140737488355328) (h63 : k + m ≤ 100000) (r : Nat) (hr : k + m = r)
    (h : ∀ cap' cur, r ≤ cap' → cap' ≤ maxLen → cur.size = cap' * sz → cur.toList.take (k * sz) = xs → ∀ w', Hid (w'.heap[w.heap.size]? = some (.cells cur e (0, 0))) → w.grownBy w' none → w.heap.size < w'.heap.size → wpList P ops Q rest (a.put o.dst (.slice (some ⟨w.heap.size, 0, none⟩) r cap')) w') : wpList P ops Q (o :: rest) a w :=
  wpList_plain hgd fun _ hK => by
    subst hM hr
    obtain ⟨cap', cur, hrun, h1, h2, h3, h4⟩ := run_app_zeros (P := P) (t := t) (tn := tn) (ty := o.type) w hE kn htn base g k cap m xs hown hm hno hbytes h63
    unfold Oper.wp execOp
    simp only [ho, resolve, invoke, builtin, Sem.run_bind, Sem.run_pure, Result.andThen_ok, List.map_toArray, List.map_cons, List.map_nil, hs, hx, hrun]
    exact hK _ _ (h cap' cur h1 h2 h3 h4 _ (Lib.hid (heap_alloc_new w.drew _)) ⟨rfl, rfl, rfl, by simp, fun k hk _ => heap_alloc_old w.drew _ hk⟩ (by simp))
theorem splice_len {α : Type} (L : List α) (off : Nat) (cs : List α) (h : off + cs.length ≤ L.length) : (splice L off cs).length = L.length := length_splice L off cs h
/-- A row's beginning kept, then new cells, then more. -/
theorem splice_new {α : Type} {cur p q r : List α} (hp : cur.take p.length = p) : (splice (splice cur p.length q) (p.length + q.length) r).take (p.length + q.length + r.length) = p ++ q ++ r := by
  have h1 : splice cur p.length q = p ++ q ++ cur.drop (p.length + q.length) := by unfold splice; rw [hp, List.append_assoc]
  rw [h1]
  unfold splice
  rw [List.take_left' (l₁ := p ++ q) (by simp), ← List.append_assoc, List.take_left' (l₁ := p ++ q ++ r) (by simp; omega)]
theorem splice_shift {α : Type} {cur p q r : List α} (hp : cur.take p.length = p) (hl : p.length + q.length + r.length ≤ cur.length) : (splice (splice cur (p.length + q.length) r) p.length q).take (p.length + q.length + r.length) = p ++ q ++ r := by
  have h1 : (splice cur (p.length + q.length) r).take p.length = p := by
    unfold splice
    rw [List.take_append_of_le_length (by simp; omega), List.take_take, Nat.min_eq_left (by omega), hp]
  have h2 : (splice cur (p.length + q.length) r).drop (p.length + q.length) = r ++ cur.drop (p.length + q.length + r.length) := by
    unfold splice
    rw [List.drop_left' (by simp; omega)]
  generalize splice cur (p.length + q.length) r = c at *
  unfold splice
  rw [h1, h2, ← List.append_assoc, ← List.append_assoc, List.take_left' (by simp; omega)]
section
variable {α : Type} {enc : α → List Value} {e : TypeId} {sz B g cap : Nat} {cur : Array Value} {l : List α} {f : α} {k : Nat}
theorem ins_flat (hen : Enc enc sz) (hk : k ≤ l.length) : ((l.take k).flatMap enc).length = k * sz ∧ (enc f).length = sz ∧ ((l.drop k).flatMap enc).length = (l.length - k) * sz ∧ (l.take k ++ f :: l.drop k).length = l.length + 1 ∧ (l.take k ++ f :: l.drop k).flatMap enc = (l.take k).flatMap enc ++ enc f ++ (l.drop k).flatMap enc ∧ k * sz + sz + (l.length - k) * sz = (l.length + 1) * sz := by
  refine ⟨by rw [flat_length hen, List.length_take, Nat.min_eq_left hk], (hen f).1, by rw [flat_length hen, List.length_drop], by rw [List.length_append, List.length_cons, List.length_take, List.length_drop]; omega, by simp, ?_⟩
  obtain ⟨d, hd⟩ : ∃ d, l.length = k + d := ⟨l.length - k, by omega⟩
  rw [hd, show k + d - k = d by omega, Nat.add_mul, Nat.add_mul]
  omega
/-- A row in which one more element was put: written anew. -/
theorem own_insNew (hen : Enc enc sz) (hB : B ≤ g) (hk : k ≤ l.length) (hc : l.length + 1 ≤ cap) (hm : cap ≤ maxLen) (hs : cur.size = cap * sz) (hp : cur.toList.take (k * sz) = (l.take k).flatMap enc) (w : World) (hg : w.heap[g]? = some (.cells (splice (splice cur.toList (k * sz) (enc f)) ((k + 1) * sz) ((l.drop k).flatMap enc)).toArray e (0, 0))) :
    Own enc e sz B w (.slice (some ⟨g, 0, none⟩) (l.length + 1) cap) (l.take k ++ f :: l.drop k) := by
  obtain ⟨h1, h2, h3, h4, h5, h6⟩ := ins_flat (f := f) hen hk
  have hle : (l.length + 1) * sz ≤ cap * sz := Nat.mul_le_mul_right _ hc
  have hsp := splice_new (cur := cur.toList) (p := (l.take k).flatMap enc) (q := enc f) (r := (l.drop k).flatMap enc) (by rw [h1]; exact hp)
  rw [h1, h2, h3, h6, ← h5, show k * sz + sz = (k + 1) * sz by rw [Nat.add_mul]; omega] at hsp
  refine Own.put hen h4 hB hg hc hm ?_ hsp
  have a1 : k * sz + (enc f).length ≤ cur.toList.length := by rw [h2, Array.length_toList (xs := cur), hs]; omega
  have a2 := length_splice cur.toList (k * sz) (enc f) a1
  rw [List.size_toArray, length_splice, a2, Array.length_toList (xs := cur), hs]
  rw [a2, h3, Array.length_toList (xs := cur), hs, Nat.add_mul]; omega
/-- A row in which one more element was put: shifted. -/
theorem own_insShift (hen : Enc enc sz) (hB : B ≤ g) (hk : k ≤ l.length) (hc : l.length + 1 ≤ cap) (hm : cap ≤ maxLen) (hs : cur.size = cap * sz) (hp : cur.toList.take (k * sz) = (l.take k).flatMap enc) (w : World) (hg : w.heap[g]? = some (.cells (splice (splice cur.toList ((k + 1) * sz) ((l.drop k).flatMap enc)) (k * sz) (enc f)).toArray e (0, 0))) :
    Own enc e sz B w (.slice (some ⟨g, 0, none⟩) (l.length + 1) cap) (l.take k ++ f :: l.drop k) := by
  obtain ⟨h1, h2, h3, h4, h5, h6⟩ := ins_flat (f := f) hen hk
  have hle : (l.length + 1) * sz ≤ cap * sz := Nat.mul_le_mul_right _ hc
  have hsp := splice_shift (cur := cur.toList) (p := (l.take k).flatMap enc) (q := enc f) (r := (l.drop k).flatMap enc) (by rw [h1]; exact hp) (by rw [h1, h2, h3, h6, Array.length_toList (xs := cur), hs]; exact hle)
  rw [h1, h2, h3, h6, ← h5, show k * sz + sz = (k + 1) * sz by rw [Nat.add_mul]; omega] at hsp
  refine Own.put hen h4 hB hg hc hm ?_ hsp
  have a1 : (k + 1) * sz + ((l.drop k).flatMap enc).length ≤ cur.toList.length := by rw [h3, Array.length_toList (xs := cur), hs, Nat.add_mul]; omega
  have a2 := length_splice cur.toList ((k + 1) * sz) ((l.drop k).flatMap enc) a1
  rw [List.size_toArray, length_splice, a2, Array.length_toList (xs := cur), hs]
  rw [a2, h2, Array.length_toList (xs := cur), hs]; omega
end
end Go.Proofs.YtlfkjbdkbdcdnaaGreatDoor
namespace Go.Proofs.YtlfkjbdkbdcdnaaGreatDoor
open Go.RowKit

theorem row_setCell {w : World} {g i : Nat} {cur : Array Value} {t : TypeId} {fr : Nat × Nat} (hg : w.heap[g]? = some (.cells cur t fr)) (v : Value) : (w.setCell ⟨g, i, none⟩ v).heap[g]? = some (.cells (cur.setIfInBounds i v) t fr) := by
  simp only [World.setCell, Array.getElem?_modify, hg]
  rfl
/-- A struct of six cells, written cell by cell. -/
abbrev six (w : World) (g o : Nat) (b0 b1 b2 b3 b4 b5 : Value) : World := (((((w.setCell ⟨g, o, none⟩ b0).setCell ⟨g, o + 1, none⟩ b1).setCell ⟨g, o + 2, none⟩ b2).setCell ⟨g, o + 3, none⟩ b3).setCell ⟨g, o + 4, none⟩ b4).setCell ⟨g, o + 5, none⟩ b5
theorem six_row {w : World} {g o : Nat} {t : TypeId} {fr : Nat × Nat} {cur : Array Value} (hg : w.heap[g]? = some (.cells cur t fr)) (b0 b1 b2 b3 b4 b5 : Value) : (six w g o b0 b1 b2 b3 b4 b5).heap[g]? = some (.cells ((((((cur.setIfInBounds o b0).setIfInBounds (o + 1) b1).setIfInBounds (o + 2) b2).setIfInBounds (o + 3) b3).setIfInBounds (o + 4) b4).setIfInBounds (o + 5) b5) t fr) :=
  row_setCell (row_setCell (row_setCell (row_setCell (row_setCell (row_setCell hg b0) b1) b2) b3) b4) b5
theorem six_below {B : Nat} {w0 w : World} {g o : Nat} (hb : Below B w0 w) (hB : B ≤ g) (b0 b1 b2 b3 b4 b5 : Value) : Below B w0 (six w g o b0 b1 b2 b3 b4 b5) :=
  (((((hb.setCell (p := ⟨g, o, none⟩) hB _).setCell (p := ⟨g, o + 1, none⟩) hB _).setCell (p := ⟨g, o + 2, none⟩) hB _).setCell (p := ⟨g, o + 3, none⟩) hB _).setCell (p := ⟨g, o + 4, none⟩) hB _).setCell (p := ⟨g, o + 5, none⟩) hB _
theorem six_new {w : World} {g : Nat} {t : TypeId} {fr : Nat × Nat} {a0 a1 a2 a3 a4 a5 : Value} (hg : w.heap[g]? = some (.cells #[a0, a1, a2, a3, a4, a5] t fr)) (b0 b1 b2 b3 b4 b5 : Value) : (six w g 0 b0 b1 b2 b3 b4 b5).heap[g]? = some (.cells #[b0, b1, b2, b3, b4, b5] t fr) := six_row hg _ _ _ _ _ _
theorem World.heap_drew (w : World) : w.drew.heap = w.heap := rfl
theorem ret_row {P : Program} {fn : Func} {p u : Tmp} {ty : TypeId} (h : fn.results = #[.cell p ty, .tmp u]) (tmps : Array Value) (w : World) (g : Nat) (t : TypeId) (cs : Array Value) (fr : Nat × Nat) (d : TypeDesc) (hp : tmps.getD p undef = .pointer (some ⟨g, 0, none⟩)) (hg : w.heap[g]? = some (.cells cs t fr))
    (hu : P.underlying ty = some d) (hd : (match d with | .struct _ | .array _ _ => true | _ => false) = true) (hi : (P.info? ty).map (·.size) = some cs.size) : (results fn tmps).run P w = .ok (.tuple #[.agg cs, tmps.getD u undef]) w := by
  rw [results_cell_tmp h, hp]
  simp [asAddr, run_loadVar_row w g t ty cs fr d hg hu hd hi, Result.andThen]
end Go.Proofs.YtlfkjbdkbdcdnaaGreatDoor
