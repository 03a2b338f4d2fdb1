/- Acts on a store: in memory; LongActs. -/
import Derived.Test.YtepdedfmdafnkaaGreatDoorRefInts
import Derived.Test.YtepdedfmdafnkaaGreatDoorApp
namespace Go.Proofs.YtepdedfmdafnkaaGreatDoor
open Go.RowKit

structure Ac where
  kind : Str
  name : Str
  s : Str
  n : Int
abbrev encA (a : Ac) : List Value := [S a.kind, S a.name, S a.s, .int .i64 a.n]
abbrev ActsAt (w : World) (v : Value) (l : List Ac) : Prop := At encA 4 w v l
theorem szAct (w : World) : (sizeOf 28).run Tryz.prog w = .ok 4 w := by kernel_rfl
def acOk (a : Ac) : Prop := a.name.length ≤ 40 ∧ (a.s.length ≤ 100 ∨ a.s.length = 20001)

set_option maxRecDepth 20000 in
theorem longActs_any (v : Value) (l : List Ac) (w : World) (hl : ActsAt w v l) :
    Calls Tryz.prog 7 #[v] w fun e w' => (e = .returned (.int .i64 1) ∨ (e = .returned (.int .i64 0) ∧ l.length ≤ 80 ∧ ∀ a ∈ l, acOk a)) ∧ Below w.heap.size w w' := by
  obtain ⟨a, c, b, o, rfl, ha, hc, hcm, hx⟩ := hl
  unfold maxLen at hcm
  by_cases h80 : l.length ≤ 80
  case neg =>
    have g : (80 : Int) < (l.length : Int) := by omega
    go_enter Tryz.func7, Tryz.ntmps7
    go_wp2_with fail
    go_ret
    exact ⟨.inl rfl, Below.refl _ _⟩
  have g : decide ((80 : Int) < (l.length : Int)) = false := by simp; omega
  go_enter Tryz.func7, Tryz.ntmps7
  go_wp2_with fail
  go_loopw [3] (fun i wr => ∃ k : Nat, k ≤ l.length ∧ i = .int .i64 k ∧ Hid (∀ j < k, ∀ x, l[j]? = some x → acOk x) ∧ Below w.heap.size w wr) (fun i _ => l.length - (intOf i).toNat)
  case atStart => exact ⟨0, by omega, rfl, fun j hj => absurd hj (by omega), Below.refl _ _⟩
  case round =>
    obtain ⟨k, hk, rfl, hj, hb⟩ := hrel
    by_cases hlt : k < l.length
    case neg =>
      have f : decide ((k : Int) < (l.length : Int)) = false := by simp; omega
      go_wp2_with fail
      go_ret
      exact ⟨.inr ⟨rfl, h80, fun x hx => by
        obtain ⟨j, hj'⟩ := List.getElem?_of_mem hx
        exact hj.out j (by have := (List.getElem?_eq_some_iff.1 hj').1; omega) x hj'⟩, hb⟩
    obtain ⟨x, hxk⟩ := get_ex hlt
    have c1 := hx k x hxk 1 _ rfl
    have c2 := hx k x hxk 2 _ rfl
    have c1 := (hb.cell (World.block_lt_of_cell? w _ c1)).trans c1
    have c2 := (hb.cell (World.block_lt_of_cell? w _ c2)).trans c2
    have i1 := idx_at (c := c) 4 Tryz.underlying22 szAct ha k hlt
    have f : (k : Int) < (l.length : Int) := by omega
    have Hx := Lib.hid hxk; clear hxk
    by_cases e1 : x.name.length ≤ 40
    case neg =>
      have g1 : (40 : Int) < (x.name.length : Int) := by omega
      clear e1
      go_wp2_with fail
      go_ret
      exact ⟨.inl rfl, hb⟩
    have K1 := Lib.hid e1
    have g1 : decide ((40 : Int) < (x.name.length : Int)) = false := by simp; omega
    clear e1
    by_cases e2 : x.s.length ≤ 100
    case pos =>
      have K2 : Hid (x.s.length ≤ 100 ∨ x.s.length = 20001) := Lib.hid (.inl e2)
      have g2 : decide ((100 : Int) < (x.s.length : Int)) = false := by simp; omega
      clear e2
      go_wp2_with fail
      refine ⟨⟨k + 1, by omega, by go_num, Lib.hid fun j hj' y hy => by
        rcases Nat.lt_or_ge j k with h | h
        · exact hj.out j h y hy
        · obtain rfl : j = k := by omega
          rw [Hx.out] at hy
          cases hy
          exact ⟨K1.out, K2.out⟩, hb⟩, ?_⟩
      simp [intOf]; omega
    have g2 : (100 : Int) < (x.s.length : Int) := by omega
    clear e2
    by_cases e3 : x.s.length = 20001
    case pos =>
      have K2 : Hid (x.s.length ≤ 100 ∨ x.s.length = 20001) := Lib.hid (.inr e3)
      have g3 : ((x.s.length : Int) != 20001) = false := by simp [e3]
      clear e3
      go_wp2_with fail
      refine ⟨⟨k + 1, by omega, by go_num, Lib.hid fun j hj' y hy => by
        rcases Nat.lt_or_ge j k with h | h
        · exact hj.out j h y hy
        · obtain rfl : j = k := by omega
          rw [Hx.out] at hy
          cases hy
          exact ⟨K1.out, K2.out⟩, hb⟩, ?_⟩
      simp [intOf]; omega
    have g3 : ((x.s.length : Int) != 20001) = true := by simp; omega
    clear e3
    go_wp2_with fail
    go_ret
    exact ⟨.inl rfl, hb⟩
end Go.Proofs.YtepdedfmdafnkaaGreatDoor
