/- Errors as values: nil, a sentinel, a Fault around a sentinel; plain.Code of each. -/
import Derived.Test.YtpicofkmeijioaaGreatDoorErrs
import Derived.Test.YtpicofkmeijioaaGreatDoorMem
namespace Go.Proofs.YtpicofkmeijioaaGreatDoor
open Go.RowKit

/-- An error, as the document speaks of it: none; one of the twelve; one of the twelve with its place. -/
inductive Er where
  | nil
  | bare (c : Nat)
  | loc (c : Nat) (i : Int)
  deriving DecidableEq

def Er.code : Er → Nat
  | .nil => 0
  | .bare c => c
  | .loc c _ => c
def Er.place : Er → Int
  | .nil => -1
  | .bare _ => -1
  | .loc _ i => i

/-- The value v is that error in the world w. -/
def ErV (E : Nat → Addr) (w : World) (v : Value) : Er → Prop
  | .nil => v = .nilIface
  | .bare c => (1 ≤ c ∧ c ≤ 12) ∧ v = .iface 290 (.pointer (some (E c)))
  | .loc c i => (1 ≤ c ∧ c ≤ 12) ∧ ∃ fb, v = .iface 134 (.pointer (some ⟨fb, 0, none⟩)) ∧ w.cell? ⟨fb, 0, none⟩ = some (.int .i64 i) ∧ w.cell? ⟨fb, 1, none⟩ = some (.iface 290 (.pointer (some (E c))))

theorem ErV.below {E : Nat → Addr} {w w' : World} {v : Value} {er : Er} (h : ErV E w v er) (hb : Below w.heap.size w w') : ErV E w' v er := by
  cases er with
  | nil => exact h
  | bare c => exact h
  | loc c i =>
    obtain ⟨hc, fb, hv, h0, h1⟩ := h
    exact ⟨hc, fb, hv, (hb.cell (World.block_lt_of_cell? w _ h0)).trans h0, (hb.cell (World.block_lt_of_cell? w _ h1)).trans h1⟩

theorem ErV.iface {E : Nat → Addr} {w : World} {v : Value} {er : Er} (h : ErV E w v er) (hn : er ≠ .nil) : ∃ u x, v = .iface u x := by
  cases er with
  | nil => exact absurd rfl hn
  | bare c => exact ⟨_, _, h.2⟩
  | loc c i => obtain ⟨_, fb, hv, _⟩ := h; exact ⟨_, _, hv⟩

/-- A fault laid anew. -/
theorem ErV.fresh {E : Nat → Addr} {c : Nat} (hc : 1 ≤ c ∧ c ≤ 12) (i : Int) (w : World) (t : TypeId) (H : Nat) (hH : w.heap.size = H) : ErV E (w.alloc (.cells #[.int .i64 i, .iface 290 (.pointer (some (E c)))] t)) (.iface 134 (.pointer (some ⟨H, 0, none⟩))) (.loc c i) := by
  subst hH
  exact ⟨hc, w.heap.size, rfl, by simp, by simp⟩
theorem code_any (E : Nat → Addr) (B : Nat) (er : Er) (v : Value) (w : World) (hE : Errs allE E B w) (hA : AsVar w) (hv : ErV E w v er) :
    Calls Tryz.prog 103 #[v] w fun e w' => e = .returned (.tuple #[.int .i64 er.code, .int .i64 er.place]) ∧ Below w.heap.size w w' := by
  cases er with
  | nil =>
    obtain rfl : v = .nilIface := hv
    exact (code_nil w).mono fun e w' ⟨h1, h2⟩ => ⟨h1, h2 ▸ Below.refl _ _⟩
  | bare c =>
    obtain ⟨⟨h1, h2⟩, rfl⟩ := hv
    exact code_sent E B c h1 h2 w hE hA
  | loc c i =>
    obtain ⟨⟨h1, h2⟩, fb, rfl, h3, h4⟩ := hv
    exact code_fault E B c h1 h2 i fb w hE hA h3 h4
end Go.Proofs.YtpicofkmeijioaaGreatDoor
