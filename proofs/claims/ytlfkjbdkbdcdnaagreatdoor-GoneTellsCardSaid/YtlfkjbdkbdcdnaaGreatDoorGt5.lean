/- file.Check; list.Compare; list.Check. cmp.Or at int; list.Compare. A function value that answers by a plain predicate. The library's generic functions at []api.File: IndexFunc, Clone, Delete, Insert, BinarySearchFunc. list.Check. A row of elements of any size that the call owns: copied into, an element written, appended to within its capacity. Of no program. A struct of six cells written cell by cell; a result that lies in a block. Of no program. file.Read: the walk. list.Read: the walk. -/
import Derived.Test.YtlfkjbdkbdcdnaaGreatDoorGt4
import Derived.Outline
import Derived.Test.YtlfkjbdkbdcdnaaGreatDoorGt2
import Derived.Deep.RegionHeld3
import Derived.Laws.CopyRow
import Derived.Laws.CopyOwn
import Derived.Lib.AppendZeros
import Derived.Lib.Overlaps
import Derived.Laws.ResultCell
import Derived.Laws.Rows
import Derived.Test.YtlfkjbdkbdcdnaaGreatDoorGt3
namespace Go.Proofs.YtlfkjbdkbdcdnaaGreatDoor
open Go.RowKit

theorem fileCells {w w1 w6 : World} {f : Fl} (hw : w1 = w.alloc (fileO f)) (h6 : Below w1.heap.size w1 w6) :
    w6.cell? ⟨w.heap.size, 0, none⟩ = some (S f.path) ∧ w6.cell? ⟨w.heap.size, 1, none⟩ = some (S f.part) ∧ w6.cell? ⟨w.heap.size, 2, none⟩ = some (.int .i64 f.n) ∧ w6.cell? ⟨w.heap.size, 3, none⟩ = some (.int .i64 f.lo) ∧ w6.cell? ⟨w.heap.size, 4, none⟩ = some (.int .i64 f.hi) ∧ w6.cell? ⟨w.heap.size, 5, none⟩ = some (.int .i64 f.seq) := by
  subst hw
  have h := heap_alloc_new w (.cells #[S f.path, S f.part, .int .i64 f.n, .int .i64 f.lo, .int .i64 f.hi, .int .i64 f.seq] 79)
  have h' := (h6.block w.heap.size (by simp)).trans h
  refine ⟨?_, ?_, ?_, ?_, ?_, ?_⟩ <;> (rw [cell_of_row w6 _ _ _ _ (0, 0) h']; rfl)

/-- A file's error. -/
def fileEr (f : Fl) : Er := if checkF f = 0 then .nil else .bare (checkF f)
theorem fileEr_nil {f : Fl} (h : checkF f = 0) : fileEr f = .nil := if_pos h
theorem fileEr_bad {f : Fl} {c : Nat} (h : checkF f = c) (h0 : c ≠ 0) : fileEr f = .bare c := by unfold fileEr; rw [if_neg (by omega), h]
theorem fileEr_iff {f : Fl} : fileEr f = .nil ↔ checkF f = 0 := by
  unfold fileEr; split
  · simp [*]
  · simp [*]
theorem checkF_none {f : Fl} (h : pathF f.path = none) : checkF f = 5 := by unfold checkF; rw [if_pos h]
theorem checkF_part {f : Fl} {kn} (h : pathF f.path = some kn) (h2 : partOk (kindF f.path) f.part = false) : checkF f = 4 := by unfold checkF; rw [if_neg (by rw [h]; simp), if_pos h2]
theorem checkF_bound {f : Fl} {kn} (h : pathF f.path = some kn) (h2 : partOk (kindF f.path) f.part = true) (h3 : boundF f) : checkF f = 2 := by unfold checkF; rw [if_neg (by rw [h]; simp), if_neg (by rw [h2]; decide), if_pos h3]
theorem checkF_right {f : Fl} {kn} (h : pathF f.path = some kn) (h2 : partOk (kindF f.path) f.part = true) (h3 : ¬ boundF f) : checkF f = 0 := by unfold checkF; rw [if_neg (by rw [h]; simp), if_neg (by rw [h2]; decide), if_neg h3]

set_option maxHeartbeats 2000000 in
set_option maxRecDepth 20000 in
theorem fileCheck_any (E : Nat → Addr) (B : Nat) (f : Fl) (w : World) (hE : Errs [2, 4, 5] E B w) (hT : LNum B w) (hM : LMax B w) (hs : midF f) :
    Calls Tryz.prog 46 #[fileV f] w fun e w' => ∃ ev, e = .returned ev ∧ ErV E w' ev (fileEr f) ∧ Below w.heap.size w w' := by
  have hBw := hE.le
  obtain ⟨hs1, hs2⟩ := hs
  have hb0 : Below w.heap.size w (w.alloc (.cells #[S f.path, S f.part, .int .i64 f.n, .int .i64 f.lo, .int .i64 f.hi, .int .i64 f.seq] 79)) := (Below.refl _ _).alloc (Nat.le_refl _) _
  have Cs := Lib.hid (fun w6 (h : Below (w.alloc (.cells #[S f.path, S f.part, .int .i64 f.n, .int .i64 f.lo, .int .i64 f.hi, .int .i64 f.seq] 79)).heap.size (w.alloc (.cells #[S f.path, S f.part, .int .i64 f.n, .int .i64 f.lo, .int .i64 f.hi, .int .i64 f.seq] 79)) w6) => fileCells rfl h)
  have hE1 := hE.below' hb0 hE.le; have hT1 := hT.below' hb0 hE.le; have hM1 := hM.below' hb0 hE.le
  have V0 := fun w6 (h : Below (w.alloc (.cells #[S f.path, S f.part, .int .i64 f.n, .int .i64 f.lo, .int .i64 f.hi, .int .i64 f.seq] 79)).heap.size (w.alloc (.cells #[S f.path, S f.part, .int .i64 f.n, .int .i64 f.lo, .int .i64 f.hi, .int .i64 f.seq] 79)) w6) => (⟨(hE1.below' h hE1.le).var 2 (by decide), (hE1.below' h hE1.le).var 4 (by decide)⟩ : _ ∧ _)
  simp only [errG] at V0
  have V := Lib.hid V0
  clear V0
  obtain ⟨c0, c1, c2, c3, c4, c5⟩ := Cs.out _ (Below.refl _ _)
  go_enter Tryz.func46, Tryz.ntmps46
  go_wp2_with fail
  generalize w.alloc (.cells #[S f.path, S f.part, .int .i64 f.n, .int .i64 f.lo, .int .i64 f.hi, .int .i64 f.seq] 79) = w1 at *
  refine (fileNumber_any E B f.path _ (hE1.sub (by decide)) hT1 hM1 (by omega)).mono ?_
  rintro e w2 ⟨ev, rfl, hev, hb2⟩
  clear c0 c1 c2 c3 c4 c5
  obtain ⟨c0, c1, c2, c3, c4, c5⟩ := Cs.out w2 hb2
  have hb2' := hb0.trans (hb2.mono hb0.size)
  cases hpf : pathF f.path with
  | none =>
    rw [hpf] at hev
    obtain ⟨-, rfl⟩ := hev
    have HF := Lib.hid (fileEr_bad (checkF_none hpf) (by decide))
    clear hpf
    go_wp2_with fail
    go_ret
    exact ⟨_, rfl, by rw [HF.out]; exact ⟨by decide, rfl⟩, hb2'⟩
  | some kn =>
    rw [hpf] at hev
    obtain rfl : ev = .nilIface := hev
    have HP := Lib.hid hpf
    clear hpf
    go_wp2_with fail
    refine (part_any (kindF f.path) f.part _ (by omega)).mono ?_
    rintro e w3 ⟨rfl, hb3⟩
    have hb3' := hb2.trans (hb3.mono hb2.size)
    have hb3w := hb2'.trans (hb3.mono hb2'.size)
    clear c0 c1 c2 c3 c4 c5
    obtain ⟨c0, c1, c2, c3, c4, c5⟩ := Cs.out w3 hb3'
    obtain ⟨v2, v4⟩ := V.out w3 hb3'
    generalize hpk : partOk (kindF f.path) f.part = pk
    have HK := Lib.hid hpk
    clear hpk hb2 hb3 hb2' hb3'
    cases pk with
    | false =>
      have HF := Lib.hid (fileEr_bad (checkF_part HP.out HK.out) (by decide))
      go_wp2_with fail
      go_ret
      exact ⟨_, rfl, by rw [HF.out]; exact ⟨by decide, rfl⟩, hb3w⟩
    | true =>
      by_cases b1 : f.n < 1
      · have HF := Lib.hid (fileEr_bad (checkF_bound HP.out HK.out (.inl b1)) (by decide))
        go_wp2_with fail
        go_ret
        exact ⟨_, rfl, by rw [HF.out]; exact ⟨by decide, rfl⟩, hb3w⟩
      have g1 : decide (f.n < 1) = false := by simpa using b1
      by_cases b2 : 40 < f.n
      · have HF := Lib.hid (fileEr_bad (checkF_bound HP.out HK.out (.inr (.inl b2))) (by decide))
        clear b1
        go_wp2_with fail
        go_ret
        exact ⟨_, rfl, by rw [HF.out]; exact ⟨by decide, rfl⟩, hb3w⟩
      have g2 : decide (40 < f.n) = false := by simpa using b2
      have B12 := Lib.hid (⟨b1, b2⟩ : _ ∧ _)
      clear b1 b2
      go_wp2_with fail
      refine (far_any f.lo _).mono ?_
      rintro e w4 ⟨rfl, rfl⟩
      by_cases b3 : farN f.lo
      · have HF := Lib.hid (fileEr_bad (checkF_bound HP.out HK.out (.inr (.inr (.inl b3)))) (by decide))
        rw [decide_eq_true b3]
        clear b3
        go_wp2_with fail
        go_ret
        exact ⟨_, rfl, by rw [HF.out]; exact ⟨by decide, rfl⟩, hb3w⟩
      rw [decide_eq_false b3]
      have B3 := Lib.hid b3
      clear b3
      go_wp2_with fail
      refine (far_any f.hi _).mono ?_
      rintro e w4 ⟨rfl, rfl⟩
      by_cases b4 : farN f.hi
      · have HF := Lib.hid (fileEr_bad (checkF_bound HP.out HK.out (.inr (.inr (.inr (.inl b4))))) (by decide))
        rw [decide_eq_true b4]
        clear b4
        go_wp2_with fail
        go_ret
        exact ⟨_, rfl, by rw [HF.out]; exact ⟨by decide, rfl⟩, hb3w⟩
      rw [decide_eq_false b4]
      have B4 := Lib.hid b4
      clear b4
      by_cases b5 : f.hi < f.lo
      · have HF := Lib.hid (fileEr_bad (checkF_bound HP.out HK.out (.inr (.inr (.inr (.inr (.inl b5)))))) (by decide))
        go_wp2_with fail
        go_ret
        exact ⟨_, rfl, by rw [HF.out]; exact ⟨by decide, rfl⟩, hb3w⟩
      have g5 : decide (f.hi < f.lo) = false := by simpa using b5
      by_cases b6 : f.seq < 1
      · have HF := Lib.hid (fileEr_bad (checkF_bound HP.out HK.out (.inr (.inr (.inr (.inr (.inr (.inl b6))))))) (by decide))
        clear b5
        go_wp2_with fail
        go_ret
        exact ⟨_, rfl, by rw [HF.out]; exact ⟨by decide, rfl⟩, hb3w⟩
      have g6 : decide (f.seq < 1) = false := by simpa using b6
      by_cases b7 : 1073741824 < f.seq
      · have HF := Lib.hid (fileEr_bad (checkF_bound HP.out HK.out (.inr (.inr (.inr (.inr (.inr (.inr b7))))))) (by decide))
        clear b5 b6
        go_wp2_with fail
        go_ret
        exact ⟨_, rfl, by rw [HF.out]; exact ⟨by decide, rfl⟩, hb3w⟩
      have g7 : decide (1073741824 < f.seq) = false := by simpa using b7
      have HF := Lib.hid (fileEr_nil (checkF_right HP.out HK.out (by
        rintro (h | h | h | h | h | h | h)
        · have := B12.out.1; omega
        · have := B12.out.2; omega
        · exact B3.out h
        · exact B4.out h
        · exact b5 h
        · exact b6 h
        · exact b7 h)))
      clear b5 b6 b7
      go_wp2_with fail
      go_ret
      exact ⟨_, rfl, by rw [HF.out]; rfl, hb3w⟩
end Go.Proofs.YtlfkjbdkbdcdnaaGreatDoor
namespace Go.Proofs.YtlfkjbdkbdcdnaaGreatDoor
open Go.RowKit

/-- A slice of numbers written out in a new block. -/
theorem ints_new (l : List Int) (w : World) (t : TypeId) (H n : Nat) (cs : Array Value) (hH : w.heap.size = H) (hcs : cs = (l.map (Value.int .i64)).toArray) (hn : l.length = n) (hm : n ≤ 100000) : IntsAt (w.alloc (.cells cs t)) (.slice (some ⟨H, 0, none⟩) n n) l := by
  subst hH hcs hn
  refine ⟨_, _, w.heap.size, 0, rfl, fun _ => rfl, Nat.le_refl _, by unfold maxLen; omega, fun k z hk j u hu => ?_⟩
  obtain rfl : j = 0 := by
    rcases Nat.eq_zero_or_pos j with h | h
    · exact h
    · rw [List.getElem?_eq_none (by simp; omega)] at hu; cases hu
  obtain rfl : .int .i64 z = u := by simpa using hu
  rw [cell_of_row (w.alloc _) w.heap.size _ _ t (0, 0) (heap_alloc_new w _)]
  simp [hk]

/-- The first number that is not 0. -/
def orOf (l : List Int) : Int := (l.find? (fun x => x != 0)).getD 0
theorem orOf_hit {l : List Int} {k : Nat} {x : Int} (hk : l[k]? = some x) (hx : x ≠ 0) (h : ∀ (j : Nat), j < k → ∀ y, l[j]? = some y → y = 0) : orOf l = x := by
  unfold orOf
  obtain ⟨h1, h2⟩ := List.getElem?_eq_some_iff.1 hk
  have : l.find? (fun x => x != 0) = some x := by
    rw [List.find?_eq_some_iff_getElem]
    refine ⟨by simpa using hx, k, h1, h2, fun j hj => ?_⟩
    have := h j hj l[j] (by simp)
    simp [this]
  rw [this]; rfl
theorem orOf_none {l : List Int} (h : ∀ (j : Nat) (y : Int), l[j]? = some y → y = 0) : orOf l = 0 := by
  unfold orOf
  have : l.find? (fun x => x != 0) = none := List.find?_eq_none.2 fun x hx => by
    obtain ⟨j, hj⟩ := List.getElem?_of_mem hx
    simp [h j x hj]
  rw [this]; rfl

theorem cmpOr_any (v : Value) (l : List Int) (w : World) (hl : IntsAt w v l) :
    Calls Tryz.prog 128 #[v] w fun e w' => e = .returned (.int .i64 (orOf l)) ∧ w = w' := by
  obtain ⟨a, c, b, o, rfl, ha, hc, hcm, hx⟩ := hl
  unfold maxLen at hcm
  go_enter Tryz.func128, Tryz.ntmps128
  go_wp2_with fail
  go_loop [8] (fun i => ∃ k : Nat, k ≤ l.length ∧ i = .int .i64 k ∧ Hid (∀ (j : Nat), j < k → ∀ y, l[j]? = some y → y = 0)) (fun i => l.length - (intOf i).toNat)
  case atStart => exact ⟨0, by omega, rfl, Lib.hid fun j hj => absurd hj (by omega)⟩
  case round =>
    obtain ⟨k, hk, rfl, hj⟩ := hrel
    by_cases hlt : k < l.length
    · obtain ⟨x, hxk⟩ := get_ex hlt
      have c1 := hx k x hxk 0 _ rfl
      have i1 := idx_at (c := c) 1 Tryz.underlying39 szInt ha k hlt
      have hk1 : (k : Int) < (l.length : Int) := by omega
      simp only [Nat.mul_one, Nat.add_zero] at c1 i1
      have Hx := Lib.hid hxk; clear hxk
      by_cases h0 : x = 0
      · subst h0
        go_wp2_with fail
        go_round
        case rel => exact ⟨k + 1, by omega, by go_num, Lib.hid fun j hj' y hy => by
          rcases Nat.lt_or_ge j k with h | h
          · exact hj.out j h y hy
          · obtain rfl : j = k := by omega
            rw [Hx.out] at hy
            exact (Option.some.inj hy).symm⟩
        case measure => simp [intOf]; omega
      · have g : (x != 0) = true := by simpa using h0
        have H := Lib.hid (orOf_hit Hx.out h0 hj.out)
        clear h0
        go_wp2_with fail
        go_ret
        exact ⟨by rw [H.out]; rfl, rfl⟩
    · obtain rfl : k = l.length := by omega
      go_wp2_with fail
      go_ret
      exact ⟨by rw [orOf_none fun j y hy => hj.out j (List.getElem?_eq_some_iff.1 hy).1 y hy]; rfl, rfl⟩

theorem strCompare_any (a b : Str) (w : World) : Calls Tryz.prog 60 #[S a, S b] w fun e w' => e = .returned (.int .i64 (Lib.compareBytes a b)) ∧ w = w' :=
  (Tryz.strings_Compare ⟨a.toArray⟩ ⟨b.toArray⟩ w).mono fun _ _ ⟨h1, h2⟩ => ⟨by simpa using h1, h2.symm⟩
end Go.Proofs.YtlfkjbdkbdcdnaaGreatDoor
namespace Go.Proofs.YtlfkjbdkbdcdnaaGreatDoor
open Go.RowKit

/-- A function value's call enters its body. -/
def Clo (P : Program) (f : FuncId) : Prop := ∀ args W, (callFunc f args).run P W = .ok (.enter f args) W
/-- The function value f, with what it captured, answers p of each element of l, in every world that is as w0 was below base. -/
def PredOn {α : Type} (P : Program) (f : FuncId) (caps : Array Value) (val : α → Value) (l : List α) (p : α → Bool) (base : Nat) (w0 : World) : Prop :=
  ∀ W x, x ∈ l → Below base w0 W → base ≤ W.heap.size → Calls P f (#[val x] ++ caps) W fun e W' => e = .returned (.bool (p x)) ∧ Below W.heap.size W W'

theorem PredOn.sub {α : Type} {P : Program} {f : FuncId} {caps : Array Value} {val : α → Value} {l m : List α} {p : α → Bool} {base : Nat} {w0 : World} (h : PredOn P f caps val l p base w0) (hm : ∀ x ∈ m, x ∈ l) : PredOn P f caps val m p base w0 :=
  fun W x hx => h W x (hm x hx)

def idxVal {α : Type} (p : α → Bool) (l : List α) : Int := match l.findIdx? p with | none => -1 | some i => i

theorem idxVal_none {α : Type} {p : α → Bool} {l : List α} (h : ∀ (j : Nat) (x : α), l[j]? = some x → p x = false) : idxVal p l = -1 := by
  unfold idxVal
  have : l.findIdx? p = none := List.findIdx?_eq_none_iff.2 fun x hx => by
    obtain ⟨j, hj, he⟩ := List.getElem_of_mem hx
    exact h j x (by simp [hj, he])
  rw [this]
theorem idxVal_some {α : Type} {p : α → Bool} {l : List α} {k : Nat} {x : α} (hk : l[k]? = some x) (hp : p x = true) (h : ∀ (j : Nat) (y : α), j < k → l[j]? = some y → p y = false) : idxVal p l = k := by
  unfold idxVal
  have hlt : k < l.length := by
    rcases Nat.lt_or_ge k l.length with h' | h'
    · exact h'
    · rw [List.getElem?_eq_none h'] at hk; cases hk
  have hx : l[k] = x := by rw [List.getElem?_eq_getElem hlt] at hk; exact Option.some.inj hk
  have : l.findIdx? p = some k := List.findIdx?_eq_some_iff_getElem.2 ⟨hlt, by rw [hx]; exact hp, fun j hj => by
    have := h j l[j] hj (by simp)
    simpa using this⟩
  rw [this]
end Go.Proofs.YtlfkjbdkbdcdnaaGreatDoor
namespace Go.Proofs.YtlfkjbdkbdcdnaaGreatDoor
open Go.RowKit

/-- A round's cells. -/
theorem flCells {w w' : World} {b o : Nat} {l : List Fl} {k : Nat} {x : Fl} (hx : ∀ (k : Nat) (x : Fl), l[k]? = some x → ∀ (j : Nat) (u : Value), (encF x)[j]? = some u → w.cell? ⟨b, o + k * 6 + j, none⟩ = some u) (hb : Below w.heap.size w w') (hk : l[k]? = some x) :
    w'.cell? ⟨b, o + k * 6, none⟩ = some (S x.path) ∧ w'.cell? ⟨b, o + k * 6 + 1, none⟩ = some (S x.part) ∧ w'.cell? ⟨b, o + k * 6 + 2, none⟩ = some (.int .i64 x.n) ∧ w'.cell? ⟨b, o + k * 6 + 3, none⟩ = some (.int .i64 x.lo) ∧ w'.cell? ⟨b, o + k * 6 + 4, none⟩ = some (.int .i64 x.hi) ∧ w'.cell? ⟨b, o + k * 6 + 5, none⟩ = some (.int .i64 x.seq) := by
  have h := fun j u hu => by
    have := hx k x hk j u hu
    exact (hb.cell (World.block_lt_of_cell? w _ this)).trans this
  exact ⟨h 0 _ rfl, h 1 _ rfl, h 2 _ rfl, h 3 _ rfl, h 4 _ rfl, h 5 _ rfl⟩

end Go.Proofs.YtlfkjbdkbdcdnaaGreatDoor
namespace Go.Proofs.YtlfkjbdkbdcdnaaGreatDoor
open Go.RowKit

end Go.Proofs.YtlfkjbdkbdcdnaaGreatDoor
namespace Go.Proofs.YtlfkjbdkbdcdnaaGreatDoor
open Go.RowKit

/-- The walk stops here. -/
theorem wpList_stop {P : Program} {w : World} {ops : Array Oper} {l : List Oper} {a : Act} {Q : Exit → Act → World → Prop} (h : wpList P ops Q l a w ∧ True) : wpList P ops Q l a w := h.1
theorem grown_setRow (w : World) (g : Nat) (cs : Array Value) : w.grownBy (w.setRow g cs) (some g) := ⟨rfl, rfl, rfl, by simp [World.setRow], fun k _ hk => setRow_other w g k cs (fun e => hk (by rw [e]))⟩
theorem run_copyN {P : Program} {dT sT e ty : TypeId} {sz bytes : Nat} (hE : ElemInfo P dT e sz bytes) {g off dLen dCap sLen sCap n : Nat} {ad : Addr} {cur : Array Value} (w : World) (hg : w.heap[g]? = some (.cells cur e (0, 0)))
    (cs : List Value) (hn : n = Nat.min sLen dLen) (hcs : cs.length = n * sz) (hsrc : ∀ j v, cs[j]? = some v → w.cell? (ad.add j) = some v) (hfit : off + cs.length ≤ cur.size) (h1 : ∀ v ∈ cs, v.oneCell' = true) :
    (Builtin.copy_ #[dT, sT] ty #[.slice (some ⟨g, off, none⟩) dLen dCap, .slice (some ad) sLen sCap]).run P w = .ok (goInt n) (w.setRow g (splice cur.toList off cs).toArray) := by
  obtain ⟨i, z, ht, hi, hz, hsize, hby, hzs, hsz⟩ := hE
  subst hn
  have h2 := run_firstCells_some (P := P) w sz (Nat.min sLen dLen) ad sLen sCap cs hcs hsrc
  have h3 := run_storeCells_at P g off e cs 0 cur w hg (by simpa using hfit) h1
  simp only [Nat.add_zero] at h3
  simp [Builtin.copy_, run_underlying ht, Go.sizeOf, typeInfo, hi, hsize, Builtin.lenOf, h2, h3, splice]

/-- The same, the world behind it a letter. -/
theorem run_copyN_ex {P : Program} {dT e : TypeId} {sz bytes : Nat} (sT : TypeId) (hE : ElemInfo P dT e sz bytes) (g off dLen dCap sLen sCap n : Nat) (ad : Addr) (cur : Array Value) (w : World) (hg : w.heap[g]? = some (.cells cur e (0, 0)))
    (cs : List Value) (hn : n = Nat.min sLen dLen) (hcs : cs.length = n * sz) (hsrc : ∀ j v, cs[j]? = some v → w.cell? (ad.add j) = some v) (hfit : off + cs.length ≤ cur.size) (h1 : ∀ v ∈ cs, v.oneCell' = true) :
    ∃ w', (∀ ty, (Builtin.copy_ #[dT, sT] ty #[.slice (some ⟨g, off, none⟩) dLen dCap, .slice (some ad) sLen sCap]).run P w = .ok (goInt n) w') ∧ Hid (w'.heap[g]? = some (.cells (splice cur.toList off cs).toArray e (0, 0))) ∧ w.grownBy w' (some g) :=
  ⟨_, fun ty => run_copyN (ty := ty) hE w hg cs hn hcs hsrc hfit h1, Lib.hid (setRow_heap w g cur _ e _ hg), grown_setRow w g _⟩
theorem wpList_copyN {P : Program} {w : World} {ops : Array Oper} {rest : List Oper} {o : Oper} {a : Act} {Q : Exit → Act → World → Prop} (hgd : o.guard = none) (d s : Operand) (dT sT : TypeId)
    (ho : o.op = .call { callee := .builtin .copy, args := #[d, s], argTypes := #[dT, sT] }) {e : TypeId} {sz bytes : Nat} (hE : ElemInfo P dT e sz bytes)
    (g off dLen dCap sLen sCap n : Nat) (ad : Addr) (hd : a.eval d = .slice (some ⟨g, off, none⟩) dLen dCap) (hs : a.eval s = .slice (some ad) sLen sCap) (cur : Array Value) (hg : w.heap[g]? = some (.cells cur e (0, 0)))
    (cs : List Value) (hn : n = Nat.min sLen dLen) (hcs : cs.length = n * sz) (hsrc : ∀ j v, cs[j]? = some v → w.cell? (ad.add j) = some v) (hfit : off + cs.length ≤ cur.size) (h1 : ∀ v ∈ cs, v.oneCell' = true)
    (h : ∀ w', Hid (w'.heap[g]? = some (.cells (splice cur.toList off cs).toArray e (0, 0))) → w.grownBy w' (some g) → wpList P ops Q rest (a.put o.dst (goInt n)) w') : wpList P ops Q (o :: rest) a w :=
  wpList_plain hgd fun _ hK => by
    have h := h _ (Lib.hid (setRow_heap w g cur (splice cur.toList off cs).toArray e _ hg)) (grown_setRow w g _)
    have hr := fun ty => run_copyN (P := P) (sT := sT) (ty := ty) (sCap := sCap) (dCap := dCap) hE w hg cs hn hcs hsrc hfit h1
    unfold Oper.wp
    simp [execOp, ho, resolve, invoke, builtin, hd, hs, hr, Result.andThen]
    exact hK _ _ h

section
variable {α : Type} {enc : α → List Value} {e : TypeId} {sz B : Nat} {w : World} {v : Value} {l : List α}

/-- The cells of the elements from k on. -/
theorem Own.from {g n cap : Nat} (hen : Enc enc sz) (h : Own enc e sz B w (.slice (some ⟨g, 0, none⟩) n cap) l) (k : Nat) : ∀ j u, ((l.drop k).flatMap enc)[j]? = some u → w.cell? ⟨g, k * sz + j, none⟩ = some u := by
  intro j u hu
  have hne : l.drop k ≠ [] := fun e => by rw [e] at hu; simp at hu
  have hpos : 0 < l.length := by
    rcases Nat.eq_zero_or_pos l.length with h0 | h0
    · rw [List.eq_nil_of_length_eq_zero h0] at hne; simp at hne
    · exact h0
  obtain ⟨g', cap', cur, hv, hB, hg, hc, hm, hs, ht⟩ := h.open hpos
  cases hv
  have hkl : k ≤ l.length := by
    rcases Nat.lt_or_ge l.length k with h0 | h0
    · rw [List.drop_eq_nil_of_le (by omega)] at hne; exact absurd rfl hne
    · exact h0
  have hsplit : l.flatMap enc = (l.take k).flatMap enc ++ (l.drop k).flatMap enc := by rw [← List.flatMap_append, List.take_append_drop]
  have hl : ((l.take k).flatMap enc).length = k * sz := by rw [flat_length hen, List.length_take, Nat.min_eq_left hkl]
  have h1 : (l.flatMap enc)[k * sz + j]? = some u := by
    rw [hsplit, List.getElem?_append_right (by omega), hl, show k * sz + j - k * sz = j by omega]; exact hu
  rw [← ht, List.getElem?_take] at h1
  split at h1
  · rw [cell_of_row w g _ cur e (0, 0) hg]; simpa using h1
  · cases h1

/-- A row set anew. -/
theorem Own.anew {g n cap m : Nat} {cs : Array Value} {l' : List α} (hen : Enc enc sz) (h : Own enc e sz B w (.slice (some ⟨g, 0, none⟩) n cap) l) (hpos : 0 < l.length) (hm' : l'.length = m) (hc : m ≤ cap) (hsz : cs.size = cap * sz) (ht : cs.toList.take (m * sz) = l'.flatMap enc) :
    Own enc e sz B (w.setRow g cs) (.slice (some ⟨g, 0, none⟩) m cap) l' := by
  obtain ⟨g', cap', cur, hv, hB, hg, hc', hm, hs, ht'⟩ := h.open hpos
  cases hv
  exact Own.mk hen hm' hB (setRow_heap w g cur cs e _ hg) hc hm hsz ht
end
theorem Own.row {α : Type} {enc : α → List Value} {e : TypeId} {sz B : Nat} {w : World} {l : List α} {g n cap : Nat} (h : Own enc e sz B w (.slice (some ⟨g, 0, none⟩) n cap) l) : ∃ cur : Array Value, B ≤ g ∧ w.heap[g]? = some (.cells cur e (0, 0)) ∧ l.length = n ∧ n ≤ cap ∧ cap ≤ maxLen ∧ cur.size = cap * sz ∧ cur.toList.take (n * sz) = l.flatMap enc := by
  obtain ⟨_, h2⟩ := h
  rcases h2 with ⟨hv, _⟩ | ⟨g', cap', cur, hv, hB, hg, hc, hm, hs, ht⟩
  · cases hv
  · cases hv
    exact ⟨cur, hB, hg, rfl, hc, hm, hs, ht⟩
theorem Own.put {α : Type} {enc : α → List Value} {e : TypeId} {sz B : Nat} {w : World} {l : List α} {g n cap : Nat} {cur : Array Value} (hen : Enc enc sz) (hn : l.length = n) (hB : B ≤ g) (hg : w.heap[g]? = some (.cells cur e (0, 0))) (hc : n ≤ cap) (hm : cap ≤ maxLen) (hs : cur.size = cap * sz) (ht : cur.toList.take (n * sz) = l.flatMap enc) : Own enc e sz B w (.slice (some ⟨g, 0, none⟩) n cap) l := Own.mk hen hn hB hg hc hm hs ht
/-- s[:k] of such a slice. -/
theorem Own.cut' {α : Type} {enc : α → List Value} {e : TypeId} {sz B : Nat} {w : World} {l : List α} {g n cap k : Nat} (hen : Enc enc sz) (h : Own enc e sz B w (.slice (some ⟨g, 0, none⟩) n cap) l) (hk : k ≤ n) : Own enc e sz B w (.slice (some ⟨g, 0, none⟩) k cap) (l.take k) := by
  obtain ⟨cur, hB, hg, hl, hc, hm, hs, ht⟩ := h.row
  refine Own.put hen (by rw [List.length_take]; omega) hB hg (by omega) hm hs ?_
  have : l.flatMap enc = (l.take k).flatMap enc ++ (l.drop k).flatMap enc := by rw [← List.flatMap_append, List.take_append_drop]
  have hl' : ((l.take k).flatMap enc).length = k * sz := by rw [flat_length hen, List.length_take, Nat.min_eq_left (by omega)]
  have h1 : (cur.toList.take (n * sz)).take (k * sz) = cur.toList.take (k * sz) := by
    rw [List.take_take, Nat.min_eq_left (Nat.mul_le_mul_right _ hk)]
  rw [← h1, ht, this, ← hl', List.take_left]

/-- clear(s[n:n+m]) behind such a slice, within its capacity. -/
theorem run_clear_behind {α : Type} {P : Program} {enc : α → List Value} {t e : TypeId} {sz bytes B : Nat} {w : World} {g n cap m : Nat} {l : List α} (hE : ElemInfo P t e sz bytes) (hen : Enc enc sz) (hz1 : ∀ z, (P.info? e).bind (·.zero) = some z → ∀ u ∈ z.cells.toList, u.oneCell' = true)
    (h : Own enc e sz B w (.slice (some ⟨g, 0, none⟩) n cap) l) (hm : n + m ≤ cap) (hm0 : 0 < m) (c : Nat) :
    ∃ cs : Array Value, (∀ ty, (Builtin.clear_ #[t] ty #[.slice (some ⟨g, n * sz, none⟩) m c]).run P w = .ok (.tuple #[]) (w.setRow g cs)) ∧ Own enc e sz B (w.setRow g cs) (.slice (some ⟨g, 0, none⟩) n cap) l := by
  obtain ⟨i, z, ht, hi, hz, hsize, hby, hzs, hsz⟩ := hE
  obtain ⟨cur, hB, hg, hl, hc, hmx, hs, ht'⟩ := h.row
  have hnz : (Builtin.zeroCells z.cells m).size = m * sz := by rw [size_zeroCells, hzs]
  have hone : ∀ u ∈ (Builtin.zeroCells z.cells m).toList, u.oneCell' = true := by
    intro u hu
    have hz' := hz1 z (by rw [hi]; exact hz)
    obtain ⟨j, hj, rfl⟩ := Array.getElem_of_mem (Array.mem_def.2 hu)
    simp only [Builtin.zeroCells, Array.getElem_map, Array.getElem_range]
    rw [getElem!_pos z.cells (j % z.cells.size) (Nat.mod_lt _ (by omega))]
    exact hz' _ (by simp)
  have hle : n * sz + m * sz ≤ cap * sz := by rw [← Nat.add_mul]; exact Nat.mul_le_mul_right _ hm
  have hrun := run_storeCells_at P g (n * sz) e (Builtin.zeroCells z.cells m).toList 0 cur w hg (by rw [Array.length_toList, hnz]; omega) hone
  simp only [Nat.add_zero] at hrun
  refine ⟨_, fun ty => ?_, Own.put (cur := (cur.toList.take (n * sz) ++ (Builtin.zeroCells z.cells m).toList ++ cur.toList.drop (n * sz + (Builtin.zeroCells z.cells m).toList.length)).toArray) hen hl hB (setRow_heap w g cur _ e _ hg) hc hmx ?_ ?_⟩
  · obtain ⟨d, rfl⟩ : ∃ d, m = d + 1 := ⟨m - 1, by omega⟩
    simp [Builtin.clear_, run_underlying ht, zeroValue, typeInfo, hi, hz, hrun]
  · simp [hnz, Array.length_toList]; omega
  · simp only [List.append_assoc]
    rw [List.take_append_of_le_length (by simp; omega), List.take_take, Nat.min_self, ht']

/-- append(s[:k], ..) within the capacity, as one step of a region that draws. -/
theorem step_fits {P : Program} {ops : Array Oper} {o : Oper} {a : Act} {w : World} {K : Act → World → Prop} {Q : Exit → Act → World → Prop} {E : Prop} (hgd : o.guard = none) (s x : Operand) (t : TypeId)
    (ho : o.op = Op.call { callee := Callee.builtin Builtin.append, args := #[s, x], argTypes := #[t, t] }) {e : TypeId} {sz bytes : Nat} (hE : ElemInfo P t e sz bytes) (base g k cap : Nat) (xs : List Value)
    (hs : a.eval s = .slice (some ⟨g, 0, none⟩) k cap) (hown : w.ownsRow base e sz (.slice (some ⟨g, 0, none⟩) k cap) k xs) (ad : Addr) (m c r : Nat) (news : List Value) (hx : a.eval x = .slice (some ad) m c) (hl : news.length = m * sz) (hnews : ∀ j u, news[j]? = some u → w.cell? (ad.add j) = some u) (h1 : ∀ u ∈ news, u.oneCell' = true) (hroom : k + m ≤ cap) (hr : k + m = r)
    (hK : ∀ w', w'.ownsRow base e sz (.slice (some ⟨g, 0, none⟩) r cap) r (xs ++ news) → w.grownBy w' (some g) → K (a.put o.dst (.slice (some ⟨g, 0, none⟩) r cap)) w') :
    if Region.wanted o (yielded ops a.tmps) = true then Oper.wp P o a w K Q else E := by
  have hw : Region.wanted o (yielded ops a.tmps) = true := by simp [Region.wanted, hgd]
  rw [if_pos hw]
  obtain ⟨i, z, ht, hi, hz, hsize, hby, hzs, hsz⟩ := hE
  subst hr
  obtain ⟨w', hrun, r1, r2⟩ := run_append_fits (P := P) w base t o.type e i sz ht hi hsize g k cap xs hown ad m c news hl hnews h1 hroom
  unfold Oper.wp
  simp [execOp, ho, resolve, invoke, builtin, hs, hx, hrun, Result.andThen]
  exact hK w' r1 r2

/-- copy into a row that the call owns, as one step of a region that draws. -/
theorem step_copyN {P : Program} {ops : Array Oper} {o : Oper} {a : Act} {w : World} {K : Act → World → Prop} {Q : Exit → Act → World → Prop} {E : Prop} (hgd : o.guard = none) (d s : Operand) (dT sT : TypeId)
    (ho : o.op = .call { callee := .builtin .copy, args := #[d, s], argTypes := #[dT, sT] }) {e : TypeId} {sz bytes : Nat} (hE : ElemInfo P dT e sz bytes)
    (g off dLen dCap sLen sCap n : Nat) (ad : Addr) (hd : a.eval d = .slice (some ⟨g, off, none⟩) dLen dCap) (hs : a.eval s = .slice (some ad) sLen sCap) (cur : Array Value) (hg : w.heap[g]? = some (.cells cur e (0, 0)))
    (cs : List Value) (hn : n = Nat.min sLen dLen) (hcs : cs.length = n * sz) (hsrc : ∀ j v, cs[j]? = some v → w.cell? (ad.add j) = some v) (hfit : off + cs.length ≤ cur.size) (h1 : ∀ v ∈ cs, v.oneCell' = true)
    (hK' : ∀ w', Hid (w'.heap[g]? = some (.cells (splice cur.toList off cs).toArray e (0, 0))) → w.grownBy w' (some g) → K (a.put o.dst (goInt n)) w') :
    if Region.wanted o (yielded ops a.tmps) = true then Oper.wp P o a w K Q else E := by
  have hK := hK' _ (Lib.hid (setRow_heap w g cur (splice cur.toList off cs).toArray e _ hg)) (grown_setRow w g _)
  have hw : Region.wanted o (yielded ops a.tmps) = true := by simp [Region.wanted, hgd]
  rw [if_pos hw]
  have hr := fun ty => run_copyN (P := P) (sT := sT) (ty := ty) (sCap := sCap) (dCap := dCap) hE w hg cs hn hcs hsrc hfit h1
  unfold Oper.wp
  simp [execOp, ho, resolve, invoke, builtin, hd, hs, hr, Result.andThen]
  exact hK

/-- append(s[:k], make([]T, m)...), s[:k] a row of the call's own, no room: a new row. -/
theorem run_app_zeros {P : Program} {t tn ty e : TypeId} {sz bytes : Nat} (w : World) (hE : ElemInfo P t e sz bytes) (kn : IntKind) (htn : P.underlying tn = some (.int kn)) (base g k cap m : Nat) (xs : List Value)
    (hown : w.ownsRow base e sz (.slice (some ⟨g, 0, none⟩) k cap) k xs) (hm : 0 < m) (hno : cap < k + m) (hbytes : (k + m) * bytes ≤ 140737488355328) (h63 : k + m ≤ 100000) :
    ∃ cap' cur, (Builtin.append_ #[t, tn] ty #[.slice (some ⟨g, 0, none⟩) k cap, .int .i64 m]).run P w = .ok (.slice (some ⟨w.heap.size, 0, none⟩) (k + m) cap') (w.drew.alloc (.cells cur e)) ∧ k + m ≤ cap' ∧ cap' ≤ maxLen ∧ cur.size = cap' * sz ∧ cur.toList.take (k * sz) = xs := by
  obtain ⟨i, z, ht, hi, hz, hsize, hby, hzs, hsz⟩ := hE
  have hge := grownCap_ge w (k + m) cap e
  have hcm : grownCap w (k + m) cap e ≤ maxLen := grownCap_le_maxLen w (k + m) cap e (by unfold maxLen; omega)
  have holds : ∀ j u, xs[j]? = some u → w.cell? ((⟨g, 0, none⟩ : Addr).add j) = some u := hown.cells (g := g) rfl
  have hf := run_firstCells_some (P := P) w.drew sz k ⟨g, 0, none⟩ k cap xs hown.1 (by simpa using holds)
  have h48 := growslice_fits (need := k + m) (old := cap) (bytes := bytes) (by omega) hbytes
  have hn : m ≠ 0 := by omega
  have hw : IntKind.i64.wrap (m : Int) = m := by rw [IntKind.wrap_i64]; omega
  have hneg : ¬ ((m : Int) < 0) := by omega
  have h48i : ¬ (281474976710656 < (m : Int) * (i.bytes : Int)) := by
    rw [← Int.natCast_mul, hby]
    have : m * bytes ≤ (k + m) * bytes := Nat.mul_le_mul_right _ (by omega)
    omega
  have hns : ¬ (m * sz = 0) := Nat.mul_ne_zero hn (by omega)
  have hno' : ¬ (k + m ≤ cap) := by omega
  have h63' : ¬ (9223372036854775807 < ((k : Int) + (m : Int))) := by omega
  have h48' : ¬ (281474976710656 < Builtin.nextslicecap (k + m) cap * i.bytes) := by rw [hby]; omega
  refine ⟨grownCap w (k + m) cap e, xs.toArray ++ Builtin.zeroCells z.cells m ++ Builtin.zeroCells z.cells (grownCap w (k + m) cap e - (k + m)), ?_, hge, hcm, ?_, ?_⟩
  · simp [Builtin.append_, run_underlying ht, run_underlying htn, Go.sizeOf, typeInfo, zeroValue, hi, hz, hsize, asInt, asIntOf, hw, hneg, hns, h63', h48', h48i, hno', Question.forced, hf, newRow, grownCap]
  · simp only [Array.size_append, List.size_toArray, size_zeroCells, hzs, hown.1, ← Nat.add_mul]
    congr 1
    omega
  · simp only [Array.toList_append, List.append_assoc]
    rw [← hown.1]
    exact List.take_left
theorem wpList_app_zeros {P : Program} {w : World} {ops : Array Oper} {rest : List Oper} {o : Oper} {a : Act} {Q : Exit → Act → World → Prop} (hgd : o.guard = none) (s x : Operand) (t tn : TypeId)
    (ho : o.op = .call { callee := .builtin .append, args := #[s, x], argTypes := #[t, tn] }) {e : TypeId} {sz bytes : Nat} (hE : ElemInfo P t e sz bytes) (kn : IntKind) (htn : P.underlying tn = some (.int kn)) (base g k cap m : Nat) (xs : List Value) (M : Int) (hM : M = m)
    (hs : a.eval s = .slice (some ⟨g, 0, none⟩) k cap) (hx : a.eval x = .int .i64 M) (hown : w.ownsRow base e sz (.slice (some ⟨g, 0, none⟩) k cap) k xs) (hm : 0 < m) (hno : cap < k + m) (hbytes : (k + m) * bytes ≤ 140737488355328) (h63 : k + m ≤ 100000) (r : Nat) (hr : k + m = r)
    (h : ∀ cap' cur, r ≤ cap' → cap' ≤ maxLen → cur.size = cap' * sz → cur.toList.take (k * sz) = xs → ∀ w', Hid (w'.heap[w.heap.size]? = some (.cells cur e (0, 0))) → w.grownBy w' none → w.heap.size < w'.heap.size → wpList P ops Q rest (a.put o.dst (.slice (some ⟨w.heap.size, 0, none⟩) r cap')) w') : wpList P ops Q (o :: rest) a w :=
  wpList_plain hgd fun _ hK => by
    subst hM hr
    obtain ⟨cap', cur, hrun, h1, h2, h3, h4⟩ := run_app_zeros (P := P) (t := t) (tn := tn) (ty := o.type) w hE kn htn base g k cap m xs hown hm hno hbytes h63
    unfold Oper.wp execOp
    simp only [ho, resolve, invoke, builtin, Sem.run_bind, Sem.run_pure, Result.andThen_ok, List.map_toArray, List.map_cons, List.map_nil, hs, hx, hrun]
    exact hK _ _ (h cap' cur h1 h2 h3 h4 _ (Lib.hid (heap_alloc_new w.drew _)) ⟨rfl, rfl, rfl, by simp, fun k hk _ => heap_alloc_old w.drew _ hk⟩ (by simp))
theorem splice_len {α : Type} (L : List α) (off : Nat) (cs : List α) (h : off + cs.length ≤ L.length) : (splice L off cs).length = L.length := length_splice L off cs h
/-- A row's beginning kept, then new cells, then more. -/
theorem splice_new {α : Type} {cur p q r : List α} (hp : cur.take p.length = p) : (splice (splice cur p.length q) (p.length + q.length) r).take (p.length + q.length + r.length) = p ++ q ++ r := by
  have h1 : splice cur p.length q = p ++ q ++ cur.drop (p.length + q.length) := by unfold splice; rw [hp, List.append_assoc]
  rw [h1]
  unfold splice
  rw [List.take_left' (l₁ := p ++ q) (by simp), ← List.append_assoc, List.take_left' (l₁ := p ++ q ++ r) (by simp; omega)]
theorem splice_shift {α : Type} {cur p q r : List α} (hp : cur.take p.length = p) (hl : p.length + q.length + r.length ≤ cur.length) : (splice (splice cur (p.length + q.length) r) p.length q).take (p.length + q.length + r.length) = p ++ q ++ r := by
  have h1 : (splice cur (p.length + q.length) r).take p.length = p := by
    unfold splice
    rw [List.take_append_of_le_length (by simp; omega), List.take_take, Nat.min_eq_left (by omega), hp]
  have h2 : (splice cur (p.length + q.length) r).drop (p.length + q.length) = r ++ cur.drop (p.length + q.length + r.length) := by
    unfold splice
    rw [List.drop_left' (by simp; omega)]
  generalize splice cur (p.length + q.length) r = c at *
  unfold splice
  rw [h1, h2, ← List.append_assoc, ← List.append_assoc, List.take_left' (by simp; omega)]
section
variable {α : Type} {enc : α → List Value} {e : TypeId} {sz B g cap : Nat} {cur : Array Value} {l : List α} {f : α} {k : Nat}
theorem ins_flat (hen : Enc enc sz) (hk : k ≤ l.length) : ((l.take k).flatMap enc).length = k * sz ∧ (enc f).length = sz ∧ ((l.drop k).flatMap enc).length = (l.length - k) * sz ∧ (l.take k ++ f :: l.drop k).length = l.length + 1 ∧ (l.take k ++ f :: l.drop k).flatMap enc = (l.take k).flatMap enc ++ enc f ++ (l.drop k).flatMap enc ∧ k * sz + sz + (l.length - k) * sz = (l.length + 1) * sz := by
  refine ⟨by rw [flat_length hen, List.length_take, Nat.min_eq_left hk], (hen f).1, by rw [flat_length hen, List.length_drop], by rw [List.length_append, List.length_cons, List.length_take, List.length_drop]; omega, by simp, ?_⟩
  obtain ⟨d, hd⟩ : ∃ d, l.length = k + d := ⟨l.length - k, by omega⟩
  rw [hd, show k + d - k = d by omega, Nat.add_mul, Nat.add_mul]
  omega
/-- A row in which one more element was put: written anew. -/
theorem own_insNew (hen : Enc enc sz) (hB : B ≤ g) (hk : k ≤ l.length) (hc : l.length + 1 ≤ cap) (hm : cap ≤ maxLen) (hs : cur.size = cap * sz) (hp : cur.toList.take (k * sz) = (l.take k).flatMap enc) (w : World) (hg : w.heap[g]? = some (.cells (splice (splice cur.toList (k * sz) (enc f)) ((k + 1) * sz) ((l.drop k).flatMap enc)).toArray e (0, 0))) :
    Own enc e sz B w (.slice (some ⟨g, 0, none⟩) (l.length + 1) cap) (l.take k ++ f :: l.drop k) := by
  obtain ⟨h1, h2, h3, h4, h5, h6⟩ := ins_flat (f := f) hen hk
  have hle : (l.length + 1) * sz ≤ cap * sz := Nat.mul_le_mul_right _ hc
  have hsp := splice_new (cur := cur.toList) (p := (l.take k).flatMap enc) (q := enc f) (r := (l.drop k).flatMap enc) (by rw [h1]; exact hp)
  rw [h1, h2, h3, h6, ← h5, show k * sz + sz = (k + 1) * sz by rw [Nat.add_mul]; omega] at hsp
  refine Own.put hen h4 hB hg hc hm ?_ hsp
  have a1 : k * sz + (enc f).length ≤ cur.toList.length := by rw [h2, Array.length_toList (xs := cur), hs]; omega
  have a2 := length_splice cur.toList (k * sz) (enc f) a1
  rw [List.size_toArray, length_splice, a2, Array.length_toList (xs := cur), hs]
  rw [a2, h3, Array.length_toList (xs := cur), hs, Nat.add_mul]; omega
/-- A row in which one more element was put: shifted. -/
theorem own_insShift (hen : Enc enc sz) (hB : B ≤ g) (hk : k ≤ l.length) (hc : l.length + 1 ≤ cap) (hm : cap ≤ maxLen) (hs : cur.size = cap * sz) (hp : cur.toList.take (k * sz) = (l.take k).flatMap enc) (w : World) (hg : w.heap[g]? = some (.cells (splice (splice cur.toList ((k + 1) * sz) ((l.drop k).flatMap enc)) (k * sz) (enc f)).toArray e (0, 0))) :
    Own enc e sz B w (.slice (some ⟨g, 0, none⟩) (l.length + 1) cap) (l.take k ++ f :: l.drop k) := by
  obtain ⟨h1, h2, h3, h4, h5, h6⟩ := ins_flat (f := f) hen hk
  have hle : (l.length + 1) * sz ≤ cap * sz := Nat.mul_le_mul_right _ hc
  have hsp := splice_shift (cur := cur.toList) (p := (l.take k).flatMap enc) (q := enc f) (r := (l.drop k).flatMap enc) (by rw [h1]; exact hp) (by rw [h1, h2, h3, h6, Array.length_toList (xs := cur), hs]; exact hle)
  rw [h1, h2, h3, h6, ← h5, show k * sz + sz = (k + 1) * sz by rw [Nat.add_mul]; omega] at hsp
  refine Own.put hen h4 hB hg hc hm ?_ hsp
  have a1 : (k + 1) * sz + ((l.drop k).flatMap enc).length ≤ cur.toList.length := by rw [h3, Array.length_toList (xs := cur), hs, Nat.add_mul]; omega
  have a2 := length_splice cur.toList ((k + 1) * sz) ((l.drop k).flatMap enc) a1
  rw [List.size_toArray, length_splice, a2, Array.length_toList (xs := cur), hs]
  rw [a2, h2, Array.length_toList (xs := cur), hs]; omega
end
end Go.Proofs.YtlfkjbdkbdcdnaaGreatDoor
namespace Go.Proofs.YtlfkjbdkbdcdnaaGreatDoor
open Go.RowKit

theorem row_setCell {w : World} {g i : Nat} {cur : Array Value} {t : TypeId} {fr : Nat × Nat} (hg : w.heap[g]? = some (.cells cur t fr)) (v : Value) : (w.setCell ⟨g, i, none⟩ v).heap[g]? = some (.cells (cur.setIfInBounds i v) t fr) := by
  simp only [World.setCell, Array.getElem?_modify, hg]
  rfl
/-- A struct of six cells, written cell by cell. -/
abbrev six (w : World) (g o : Nat) (b0 b1 b2 b3 b4 b5 : Value) : World := (((((w.setCell ⟨g, o, none⟩ b0).setCell ⟨g, o + 1, none⟩ b1).setCell ⟨g, o + 2, none⟩ b2).setCell ⟨g, o + 3, none⟩ b3).setCell ⟨g, o + 4, none⟩ b4).setCell ⟨g, o + 5, none⟩ b5
theorem six_row {w : World} {g o : Nat} {t : TypeId} {fr : Nat × Nat} {cur : Array Value} (hg : w.heap[g]? = some (.cells cur t fr)) (b0 b1 b2 b3 b4 b5 : Value) : (six w g o b0 b1 b2 b3 b4 b5).heap[g]? = some (.cells ((((((cur.setIfInBounds o b0).setIfInBounds (o + 1) b1).setIfInBounds (o + 2) b2).setIfInBounds (o + 3) b3).setIfInBounds (o + 4) b4).setIfInBounds (o + 5) b5) t fr) :=
  row_setCell (row_setCell (row_setCell (row_setCell (row_setCell (row_setCell hg b0) b1) b2) b3) b4) b5
theorem six_below {B : Nat} {w0 w : World} {g o : Nat} (hb : Below B w0 w) (hB : B ≤ g) (b0 b1 b2 b3 b4 b5 : Value) : Below B w0 (six w g o b0 b1 b2 b3 b4 b5) :=
  (((((hb.setCell (p := ⟨g, o, none⟩) hB _).setCell (p := ⟨g, o + 1, none⟩) hB _).setCell (p := ⟨g, o + 2, none⟩) hB _).setCell (p := ⟨g, o + 3, none⟩) hB _).setCell (p := ⟨g, o + 4, none⟩) hB _).setCell (p := ⟨g, o + 5, none⟩) hB _
theorem six_new {w : World} {g : Nat} {t : TypeId} {fr : Nat × Nat} {a0 a1 a2 a3 a4 a5 : Value} (hg : w.heap[g]? = some (.cells #[a0, a1, a2, a3, a4, a5] t fr)) (b0 b1 b2 b3 b4 b5 : Value) : (six w g 0 b0 b1 b2 b3 b4 b5).heap[g]? = some (.cells #[b0, b1, b2, b3, b4, b5] t fr) := six_row hg _ _ _ _ _ _
theorem World.heap_drew (w : World) : w.drew.heap = w.heap := rfl
theorem ret_row {P : Program} {fn : Func} {p u : Tmp} {ty : TypeId} (h : fn.results = #[.cell p ty, .tmp u]) (tmps : Array Value) (w : World) (g : Nat) (t : TypeId) (cs : Array Value) (fr : Nat × Nat) (d : TypeDesc) (hp : tmps.getD p undef = .pointer (some ⟨g, 0, none⟩)) (hg : w.heap[g]? = some (.cells cs t fr))
    (hu : P.underlying ty = some d) (hd : (match d with | .struct _ | .array _ _ => true | _ => false) = true) (hi : (P.info? ty).map (·.size) = some cs.size) : (results fn tmps).run P w = .ok (.tuple #[.agg cs, tmps.getD u undef]) w := by
  rw [results_cell_tmp h, hp]
  simp [asAddr, run_loadVar_row w g t ty cs fr d hg hu hd hi, Result.andThen]
end Go.Proofs.YtlfkjbdkbdcdnaaGreatDoor
namespace Go.Proofs.YtlfkjbdkbdcdnaaGreatDoor
open Go.RowKit

def erOf (c : Nat) : Er := if c = 0 then .nil else .bare c
theorem fileRead_none {s : Str} (h : fileOf (cutAt 32 s) = none) : fileRead s = (zeroF, 1) := by unfold fileRead; rw [h]
theorem fileRead_some {s : Str} {f : Fl} (h : fileOf (cutAt 32 s) = some f) : fileRead s = if checkF f = 0 then (f, 0) else (zeroF, checkF f) := by unfold fileRead; rw [h]
theorem fileOf_len {l : List Str} (h : l.length ≠ 6) : fileOf l = none := by
  unfold fileOf
  split
  · exact absurd rfl h
  · rfl
theorem six_strs {l : List Str} (h : l.length = 6) : ∃ p q a b c d, l = [p, q, a, b, c, d] := by
  match l, h with
  | [p, q, a, b, c, d], _ => exact ⟨p, q, a, b, c, d, rfl⟩
theorem four_ints {l : List Int} (h : l.length = 4) : ∃ a b c d, l = [a, b, c, d] := by
  match l, h with
  | [a, b, c, d], _ => exact ⟨a, b, c, d, rfl⟩

set_option maxHeartbeats 1000000 in
set_option maxRecDepth 20000 in
theorem fileRead_any (E : Nat → Addr) (B : Nat) (s : Str) (w : World) (hE : Errs [1, 2, 4, 5] E B w) (hT : LNum B w) (hM : LMax B w) (hs : s.length ≤ 10000) :
    Calls Tryz.prog 50 #[S s] w fun e w' => ∃ ev, e = .returned (.tuple #[fileV (fileRead s).1, ev]) ∧ ErV E w' ev (erOf (fileRead s).2) ∧ Below w.heap.size w w' := by
  have hBw := hE.le
  have hif := isIfaceE
  have hwl : (cutAt 32 s).length ≤ 10001 := by
    have := cutAt_length 32 s
    have h2 : s.count 32 ≤ s.length := List.count_le_length
    omega
  have hws : ∀ p ∈ cutAt 32 s, p.length ≤ 10000 := fun p hp => by
    have := cutAt_mem_len (c := 32) hp; omega
  have V0 := fun w6 (h : Below w.heap.size w w6) => (hE.below' h hBw).var 1 (by decide)
  simp only [errG] at V0
  have V := Lib.hid V0
  clear V0
  have hba : Below w.heap.size w (w.alloc (.cells #[S [], S [], .int .i64 0, .int .i64 0, .int .i64 0, .int .i64 0] 79)) := (Below.refl _ _).alloc (Nat.le_refl _) _
  have hsp := split1_any B s 32 (w.alloc (.cells #[S [], S [], .int .i64 0, .int .i64 0, .int .i64 0, .int .i64 0] 79)) (hM.below' hba hBw) (by omega)
  have hcs := fun w6 (h : Below (w.alloc (.cells #[S [], S [], .int .i64 0, .int .i64 0, .int .i64 0, .int .i64 0] 79)).heap.size (w.alloc (.cells #[S [], S [], .int .i64 0, .int .i64 0, .int .i64 0, .int .i64 0] 79)) w6) => fileCells (f := zeroF) rfl h
  have CZ := Lib.hid hcs; clear hcs
  have hhg := fun w6 (h : Below (w.alloc (.cells #[S [], S [], .int .i64 0, .int .i64 0, .int .i64 0, .int .i64 0] 79)).heap.size (w.alloc (.cells #[S [], S [], .int .i64 0, .int .i64 0, .int .i64 0, .int .i64 0] 79)) w6) => (h.block w.heap.size (by simp)).trans (heap_alloc_new w (.cells #[S [], S [], .int .i64 0, .int .i64 0, .int .i64 0, .int .i64 0] 79))
  have HG := Lib.hid hhg; clear hhg
  have hgE : (¬ (2 = w.heap.size)) ∧ ¬ (w.heap.size = 2) := by
    have h := (hE.lt 1 (by decide)).2
    have h1 : errG 1 = 2 := rfl
    rw [h1] at h
    omega
  by_cases h6 : (cutAt 32 s).length = 6
  case neg =>
    have HF := Lib.hid (fileRead_none (fileOf_len h6))
    have g6 : (((cutAt 32 s).length : Int) != 6) = true := by simp; omega
    clear hws
    go_enter Tryz.func50, Tryz.ntmps50
    go_wp2_with fail
    generalize w.alloc (.cells #[S [], S [], .int .i64 0, .int .i64 0, .int .i64 0, .int .i64 0] 79) = w1 at *
    refine hsp.mono ?_
    rintro e w2 ⟨rfl, hown, hb2⟩
    have hb2' := hba.trans (hb2.mono hba.size)
    have v1 := V.out _ hb2'
    obtain ⟨c0, c1, c2, c3, c4, c5⟩ := CZ.out _ hb2
    generalize cutAt 32 s = W at *
    go_wp2_with fail
    have hg2 := HG.out _ hb2
    have fz : ∀ j, w2.frozen? ⟨w.heap.size, j, none⟩ = false := fun j => frozen_row hg2
    have f0 := fz 0; have f1 := fz 1; have f2 := fz 2; have f3 := fz 3; have f4 := fz 4; have f5 := fz 5
    have hn1 : ¬ (2 = w.heap.size) := hgE.1
    have hn2 : ¬ (w.heap.size = 2) := hgE.2
    go_region_law (fail)
    all_goals
      go_wp2_with fail
      refine bodyPost_ret (ret_row rfl _ _ w.heap.size 79 #[.string ⟨#[]⟩, .string ⟨#[]⟩, .int .i64 0, .int .i64 0, .int .i64 0, .int .i64 0] (0, 0) _ rfl ?_ Tryz.underlying79 rfl (by kernel_rfl)) rfl ⟨.iface 289 (.pointer (some (E 1))), ?_, ?_, ?_⟩
      · rw [World.heap_drew]; exact six_new hg2 _ _ _ _ _ _
      · rw [HF.out]; rfl
      · rw [HF.out]; exact ⟨by decide, rfl⟩
      · exact Below.drew (six_below hb2' (Nat.le_refl _) _ _ _ _ _ _)
  obtain ⟨p, q, n1, n2, n3, n4, hW⟩ := six_strs h6
  rw [hW] at hsp hws
  have hfo : fileOf (cutAt 32 s) = match numsOf [n1, n2, n3, n4] with | some [n, lo, hi, seq] => some ⟨p, q, n, lo, hi, seq⟩ | _ => none := by rw [hW]; rfl
  have HFO := Lib.hid hfo; have HWS := Lib.hid hws
  clear hfo hws hW h6 hwl
  go_enter Tryz.func50, Tryz.ntmps50
  go_wp2_with fail
  generalize w.alloc (.cells #[S [], S [], .int .i64 0, .int .i64 0, .int .i64 0, .int .i64 0] 79) = w1 at *
  refine hsp.mono ?_
  rintro e w2 ⟨rfl, hown, hb2⟩
  have hb2' := hba.trans (hb2.mono hba.size)
  have v1 := V.out _ hb2'
  obtain ⟨a', c', b', o', hv', ha', hc', hcm', hx'⟩ := hown.at encS_enc
  obtain ⟨rfl, rfl⟩ : a' = some ⟨w1.heap.size, 0, none⟩ ∧ c' = 6 := by cases hv'; exact ⟨rfl, rfl⟩
  obtain ⟨rfl, rfl⟩ : b' = w1.heap.size ∧ o' = 0 := by have := ha' (by simp); cases this; exact ⟨rfl, rfl⟩
  obtain ⟨b3, o3, c3, hrun, hat3⟩ := slice_from (enc := encS) (sz := 1) Tryz.underlying107 szStr ha' hc' hcm' hx' 2 (by simp) (by simp)
  have x0 := hx' 0 _ rfl 0 _ rfl
  have x1 := hx' 1 _ rfl 0 _ rfl
  simp only [List.length_cons, List.length_nil, Nat.zero_add, Nat.reduceAdd, Nat.reduceSub, Nat.mul_one, Nat.add_zero, List.drop_succ_cons, List.drop_zero] at hrun hat3 x0 x1
  have e2 : ((2 : Nat) : Int) = 2 := rfl
  rw [e2] at hrun
  clear hv' ha' hx' hown hcm' hc' e2 hsp
  have hl6 : [p, q, n1, n2, n3, n4].length = 6 := rfl
  rw [hl6]
  go_wp2_with fail
  refine (numbers_any B _ [n1, n2, n3, n4] _ (hT.below' hb2' hBw) hat3 (by simp) (fun x hx => by have := HWS.out x (by simp at hx ⊢; rcases hx with h | h | h | h <;> simp [h]); omega)).mono ?_
  rintro e w3 ⟨v', rfl, hv1, hv2, hb3⟩
  have hb31 := hb2.trans (hb3.mono hb2.size)
  have hb3' := hb2'.trans (hb3.mono hb2'.size)
  have v1' := V.out _ hb3'
  have y0 := (hb3.cell (World.block_lt_of_cell? w2 _ x0)).trans x0
  have y1 := (hb3.cell (World.block_lt_of_cell? w2 _ x1)).trans x1
  clear v1 hrun hat3 x0 x1
  cases hn : numsOf [n1, n2, n3, n4] with
  | none =>
    rw [hn] at hv2
    obtain rfl := hv2 rfl
    have HF := Lib.hid (fileRead_none (s := s) (by rw [HFO.out, hn]))
    clear hn hv1
    simp only [Option.isSome_none]
    obtain ⟨c0, c1, c2, c3, c4, c5⟩ := CZ.out _ hb31
    have hg2 := HG.out _ hb31
    have fz : ∀ j, w3.frozen? ⟨w.heap.size, j, none⟩ = false := fun j => frozen_row hg2
    have f0 := fz 0; have f1 := fz 1; have f2 := fz 2; have f3 := fz 3; have f4 := fz 4; have f5 := fz 5
    have hn1 : ¬ (2 = w.heap.size) := hgE.1
    have hn2 : ¬ (w.heap.size = 2) := hgE.2
    go_wp2_with fail
    go_region_law (fail)
    all_goals
      go_wp2_with fail
      refine bodyPost_ret (ret_row rfl _ _ w.heap.size 79 #[.string ⟨#[]⟩, .string ⟨#[]⟩, .int .i64 0, .int .i64 0, .int .i64 0, .int .i64 0] (0, 0) _ rfl ?_ Tryz.underlying79 rfl (by kernel_rfl)) rfl ⟨.iface 289 (.pointer (some (E 1))), ?_, ?_, ?_⟩
      · rw [World.heap_drew]; exact six_new hg2 _ _ _ _ _ _
      · rw [HF.out]; rfl
      · rw [HF.out]; exact ⟨by decide, rfl⟩
      · exact Below.drew (six_below hb3' (Nat.le_refl _) _ _ _ _ _ _)
  | some ns =>
    have hown := hv1 ns hn
    have hnl := mapM_len _ hn
    obtain ⟨m1, m2, m3, m4, rfl⟩ := four_ints (l := ns) (by simpa using hnl)
    have HF := Lib.hid (fileRead_some (s := s) (f := ⟨p, q, m1, m2, m3, m4⟩) (by rw [HFO.out, hn]))
    clear hn hv1 hv2 hnl
    simp only [Option.isSome_some]
    obtain ⟨a4, c4, b4, o4, hv4, ha4, hc4, hcm4, hx4⟩ := hown.at encI_enc
    subst hv4
    obtain rfl := ha4 (by simp)
    have z0 := hx4 0 _ rfl 0 _ rfl
    have z1 := hx4 1 _ rfl 0 _ rfl
    have z2 := hx4 2 _ rfl 0 _ rfl
    have z3 := hx4 3 _ rfl 0 _ rfl
    simp only [Nat.mul_one, Nat.add_zero] at z0 z1 z2 z3
    have hl4 : [m1, m2, m3, m4].length = 4 := rfl
    rw [hl4]
    clear hx4 hown ha4 hc4 hcm4 hl4
    have hks := fun w6 (h : Below w3.heap.size w3 w6) => (⟨(h.cell (World.block_lt_of_cell? w3 _ y0)).trans y0, (h.cell (World.block_lt_of_cell? w3 _ y1)).trans y1, (h.cell (World.block_lt_of_cell? w3 _ z0)).trans z0, (h.cell (World.block_lt_of_cell? w3 _ z1)).trans z1, (h.cell (World.block_lt_of_cell? w3 _ z2)).trans z2, (h.cell (World.block_lt_of_cell? w3 _ z3)).trans z3⟩ : _ ∧ _ ∧ _ ∧ _ ∧ _ ∧ _)
    have KS := Lib.hid hks; clear hks
    go_wp2_with fail
    go_region_held3 (fun w' => w'.cell? ⟨w1.heap.size, 0, none⟩ = some (S p) ∧ w'.cell? ⟨w1.heap.size, 1, none⟩ = some (S q) ∧ w'.cell? ⟨b4, o4, none⟩ = some (.int .i64 m1) ∧ w'.cell? ⟨b4, o4 + 1, none⟩ = some (.int .i64 m2) ∧ w'.cell? ⟨b4, o4 + 2, none⟩ = some (.int .i64 m3) ∧ w'.cell? ⟨b4, o4 + 3, none⟩ = some (.int .i64 m4)) (first | exact ⟨y0, y1, z0, z1, z2, z3⟩ | exact KS.out _ (((Below.refl _ _).alloc (Nat.le_refl _) _).drew) | exact KS.out _ ((Below.refl _ _).drew.alloc (Nat.le_refl _) _)) (fail)
    have hb4 : Below w3.heap.size w3 (w3.alloc (.cells #[S p, S q, .int .i64 m1, .int .i64 m2, .int .i64 m3, .int .i64 m4] 79)).drew := ((Below.refl _ _).alloc (Nat.le_refl _) _).drew
    have CF := Lib.hid (fun w6 (h : Below (w3.alloc (.cells #[S p, S q, .int .i64 m1, .int .i64 m2, .int .i64 m3, .int .i64 m4] 79)).heap.size (w3.alloc (.cells #[S p, S q, .int .i64 m1, .int .i64 m2, .int .i64 m3, .int .i64 m4] 79)).drew w6) => fileCells (f := ⟨p, q, m1, m2, m3, m4⟩) rfl (((Below.refl _ _).drew).trans h))
    have hsz : (w3.alloc (.cells #[S p, S q, .int .i64 m1, .int .i64 m2, .int .i64 m3, .int .i64 m4] 79)).heap.size = (w3.alloc (.cells #[S p, S q, .int .i64 m1, .int .i64 m2, .int .i64 m3, .int .i64 m4] 79)).drew.heap.size := rfl
    rw [hsz] at CF
    generalize (w3.alloc (.cells #[S p, S q, .int .i64 m1, .int .i64 m2, .int .i64 m3, .int .i64 m4] 79)).drew = w4 at *
    have hb4' := hb3'.trans (hb4.mono hb3'.size)
    have hb41 := hb31.trans (hb4.mono hb31.size)
    obtain ⟨c0, c1, c2, c3, c4, c5⟩ := CF.out w4 (Below.refl _ _)
    clear y0 y1 z0 z1 z2 z3 v1' hsz
    go_wp2_with fail
    refine (fileCheck_any E B ⟨p, q, m1, m2, m3, m4⟩ _ ((hE.sub (by decide)).below' hb4' hBw) (hT.below' hb4' hBw) (hM.below' hb4' hBw) ⟨by have := HWS.out p (by simp); show p.length ≤ _; omega, by have := HWS.out q (by simp); show q.length ≤ _; omega⟩).mono ?_
    rintro e w5 ⟨ev, rfl, hev, hb5⟩
    have hb5' := hb4'.trans (hb5.mono hb4'.size)
    have hb51 := hb41.trans (hb5.mono hb41.size)
    have hg2 := HG.out _ hb51
    have fz : ∀ j, w5.frozen? ⟨w.heap.size, j, none⟩ = false := fun j => frozen_row hg2
    have f0 := fz 0; have f1 := fz 1; have f2 := fz 2; have f3 := fz 3; have f4 := fz 4; have f5 := fz 5
    obtain ⟨d0, d1, d2, d3, d4, d5⟩ := CZ.out _ hb51
    clear c0 c1 c2 c3 c4 c5
    obtain ⟨c0, c1, c2, c3, c4, c5⟩ := CF.out w5 hb5
    by_cases hck : checkF ⟨p, q, m1, m2, m3, m4⟩ = 0
    case neg =>
      rw [fileEr_bad rfl hck] at hev
      obtain ⟨hcr, rfl⟩ := hev
      have HR : Hid (fileRead s = (zeroF, checkF ⟨p, q, m1, m2, m3, m4⟩)) := Lib.hid (by rw [HF.out, if_neg hck])
      have HER : Hid (erOf (checkF ⟨p, q, m1, m2, m3, m4⟩) = .bare (checkF ⟨p, q, m1, m2, m3, m4⟩)) := Lib.hid (if_neg hck)
      clear hck
      generalize checkF ⟨p, q, m1, m2, m3, m4⟩ = ce at *
      go_wp2_with fail
      refine bodyPost_ret (ret_row rfl _ _ w.heap.size 79 #[.string ⟨#[]⟩, .string ⟨#[]⟩, .int .i64 0, .int .i64 0, .int .i64 0, .int .i64 0] (0, 0) _ rfl (six_new hg2 _ _ _ _ _ _) Tryz.underlying79 rfl (by kernel_rfl)) rfl ⟨.iface 289 (.pointer (some (E ce))), ?_, ?_, ?_⟩
      · rw [HR.out]; rfl
      · rw [HR.out]; show ErV E _ _ (erOf ce); rw [HER.out]; exact ⟨hcr, rfl⟩
      · exact six_below hb5' (Nat.le_refl _) _ _ _ _ _ _
    rw [fileEr_nil hck] at hev
    obtain rfl : ev = .nilIface := hev
    have HR : Hid (fileRead s = (⟨p, q, m1, m2, m3, m4⟩, 0)) := Lib.hid (by rw [HF.out, if_pos hck])
    clear hck
    go_wp2_with fail
    refine bodyPost_ret (ret_row rfl _ _ w.heap.size 79 #[S p, S q, .int .i64 m1, .int .i64 m2, .int .i64 m3, .int .i64 m4] (0, 0) _ rfl (six_new hg2 _ _ _ _ _ _) Tryz.underlying79 rfl (by kernel_rfl)) rfl ⟨.nilIface, ?_, ?_, ?_⟩
    · rw [HR.out]; rfl
    · rw [HR.out]; rfl
    · exact six_below hb5' (Nat.le_refl _) _ _ _ _ _ _
end Go.Proofs.YtlfkjbdkbdcdnaaGreatDoor
namespace Go.Proofs.YtlfkjbdkbdcdnaaGreatDoor
open Go.RowKit

/-- The lines that were read. -/
def readOf (ls : List Str) : List Fl := ls.map fun x => (fileRead x).1
theorem linesE_full {ls : List Str} (h : 60 < manyL ls) : linesE ls = .bare 8 := by unfold linesE; rw [if_pos h]
theorem linesE_few {ls : List Str} (h : ¬ 60 < manyL ls) : linesE ls = firstErr (lineFault ls) (manyL ls) := by unfold linesE; rw [if_neg h]
theorem manyL_ge (ls : List Str) : ls.length - 1 ≤ manyL ls ∧ manyL ls ≤ ls.length := by unfold manyL; split <;> omega
theorem last_at {ls : List Str} {x : Str} (h : ls[ls.length - 1]? = some x) : ls.getLast?.getD [] = x := by
  rw [List.getLast?_eq_getElem?, h]; rfl
theorem manyL_nil {ls : List Str} (h : ls[ls.length - 1]? = some []) : manyL ls = ls.length - 1 := by
  unfold manyL; rw [last_at h, if_pos rfl]
theorem manyL_ne {ls : List Str} {x : Str} (h : ls[ls.length - 1]? = some x) (hx : x ≠ []) : manyL ls = ls.length := by
  unfold manyL; rw [last_at h, if_neg hx]
theorem lineFault_last {ls : List Str} {x : Str} {k : Nat} (h : ls[k]? = some x) (hk : k + 1 = ls.length) : lineFault ls k = 1 := by
  unfold lineFault; rw [h]; simp only; rw [if_pos hk]
theorem lineFault_bad {ls : List Str} {x : Str} {k : Nat} (h : ls[k]? = some x) (hk : ¬ k + 1 = ls.length) (hx : (fileRead x).2 ≠ 0) : lineFault ls k = (fileRead x).2 := by
  unfold lineFault; rw [h]; simp only; rw [if_neg hk, if_pos hx]
theorem lineFault_zero {ls : List Str} {x : Str} (h : ls[0]? = some x) (hk : ¬ 1 = ls.length) (hx : (fileRead x).2 = 0) : lineFault ls 0 = 0 := by
  unfold lineFault; rw [h]; simp only; rw [if_neg (by simpa using hk), if_neg (by simpa using hx), if_neg (by simp)]
theorem lineFault_ord {ls : List Str} {x y : Str} {k : Nat} (h : ls[k]? = some x) (hk : ¬ k + 1 = ls.length) (hx : (fileRead x).2 = 0) (h0 : 0 < k) (hy : ls[k - 1]? = some y) (hc : cmpP (fileRead x).1.path (fileRead y).1.path ≤ 0) : lineFault ls k = 9 := by
  unfold lineFault; rw [h]; simp only; rw [if_neg hk, if_neg (by simpa using hx), if_pos ⟨h0, y, hy, hc⟩]
theorem lineFault_fine {ls : List Str} {x y : Str} {k : Nat} (h : ls[k]? = some x) (hk : ¬ k + 1 = ls.length) (hx : (fileRead x).2 = 0) (hy : ls[k - 1]? = some y) (hc : ¬ cmpP (fileRead x).1.path (fileRead y).1.path ≤ 0) : lineFault ls k = 0 := by
  unfold lineFault; rw [h]; simp only; rw [if_neg hk, if_neg (by simpa using hx), if_neg]
  rintro ⟨_, g, hg, hle⟩
  rw [hy] at hg
  cases hg
  exact hc hle
theorem erOf_bad {c : Nat} (h : c ≠ 0) : erOf c = .bare c := if_neg h
theorem erOf_nil {c : Nat} (h : c = 0) : erOf c = .nil := if_pos h
theorem readOf_at {ls : List Str} {k j : Nat} {y : Str} (h : ls[j]? = some y) (hj : j < k) : (readOf (ls.take k))[j]? = some (fileRead y).1 := by
  unfold readOf; rw [List.getElem?_map, List.getElem?_take_of_lt hj, h]; rfl
theorem readOf_snoc {ls : List Str} {k : Nat} {x : Str} (h : ls[k]? = some x) : readOf (ls.take (k + 1)) = readOf (ls.take k) ++ [(fileRead x).1] := by
  unfold readOf; rw [take_snoc' h, List.map_append]; rfl

theorem Own.cells {α : Type} {enc : α → List Value} {e : TypeId} {sz B : Nat} {w : World} {l : List α} {g n c : Nat} (hen : Enc enc sz) (h : Own enc e sz B w (.slice (some ⟨g, 0, none⟩) n c) l) : ∀ (k : Nat) (x : α), l[k]? = some x → ∀ (j : Nat) (u : Value), (enc x)[j]? = some u → w.cell? ⟨g, k * sz + j, none⟩ = some u := by
  obtain ⟨_, _, b', o', hv', hga, _, _, hx'⟩ := h.at hen
  intro k x hk j u hu
  simp only [Value.slice.injEq] at hv'
  have hga' := hv'.1.trans (hga (by have := (List.getElem?_eq_some_iff.1 hk).1; omega))
  simp only [Option.some.injEq, Addr.mk.injEq, and_true] at hga'
  obtain ⟨rfl, rfl⟩ := hga'
  have := hx' k x hk j u hu
  simpa using this
theorem Own.base {α : Type} {enc : α → List Value} {e : TypeId} {sz B B' : Nat} {w : World} {v : Value} {l : List α} (h : Own enc e sz B w v l) (hB : B' ≤ B) : Own enc e sz B' w v l := by
  unfold Own World.ownsRow at h ⊢
  refine ⟨h.1, h.2.imp id ?_⟩
  rintro ⟨g, c, cs, h1, h2, h3⟩
  exact ⟨g, c, cs, h1, Nat.le_trans hB h2, h3⟩
theorem Own.cells1 {α : Type} {enc : α → List Value} {e : TypeId} {B : Nat} {w : World} {l : List α} {g n c : Nat} {f : α → Value} (hen : Enc enc 1) (hf : ∀ x, enc x = [f x]) (h : Own enc e 1 B w (.slice (some ⟨g, 0, none⟩) n c) l) : ∀ (k : Nat) (x : α), l[k]? = some x → w.cell? ⟨g, k, none⟩ = some (f x) := by
  intro k x hk
  have := h.cells hen k x hk 0 (f x) (by rw [hf]; rfl)
  simpa using this

theorem fileRead_len {s : Str} {m : Nat} (h : s.length ≤ m) : (fileRead s).1.path.length ≤ m ∧ (fileRead s).1.part.length ≤ m := by
  have hm := fun p hp => Nat.le_trans (cutAt_mem_len (c := 32) (s := s) (p := p) hp) h
  unfold fileRead
  cases hf : fileOf (cutAt 32 s) with
  | none => exact ⟨Nat.zero_le _, Nat.zero_le _⟩
  | some f =>
    simp only
    split
    · generalize cutAt 32 s = L at *
      unfold fileOf at hf
      split at hf
      · split at hf
        · cases hf; exact ⟨hm _ (by simp), hm _ (by simp)⟩
        · cases hf
      · cases hf
    · exact ⟨Nat.zero_le _, Nat.zero_le _⟩
end Go.Proofs.YtlfkjbdkbdcdnaaGreatDoor
