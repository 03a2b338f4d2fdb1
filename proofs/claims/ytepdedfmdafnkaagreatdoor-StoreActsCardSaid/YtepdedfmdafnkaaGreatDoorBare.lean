/- file.Bare: an error without its place. -/
import Derived.Test.YtepdedfmdafnkaaGreatDoorErV
import Derived.Stop.IfaceNil
import Derived.Outline
namespace Go.Proofs.YtepdedfmdafnkaaGreatDoor
open Go.RowKit

def Er.noPlace : Er → Er
  | .nil => .nil
  | .bare c => .bare c
  | .loc c _ => .bare c

theorem fileBare_any (E : Nat → Addr) (er : Er) (v : Value) (w : World) (hv : ErV E w v er) :
    Calls Tryz.prog 69 #[v] w fun e w' => ∃ v', e = .returned v' ∧ ErV E w' v' er.noPlace ∧ w = w' := by
  have hnil : ∀ (xT : TypeId) (w : World), (Instr.typeAssert .nilIface xT 99 true).run Tryz.prog w = .ok (.tuple #[.pointer none, .bool false]) w := fun _ _ => by kernel_rfl
  have hbare : ∀ (p : Value) (xT : TypeId) (w : World), (Instr.typeAssert (.iface 229 p) xT 99 true).run Tryz.prog w = .ok (.tuple #[.pointer none, .bool false]) w := fun _ _ _ => by kernel_rfl
  have hhit : ∀ (p : Value) (xT : TypeId) (w : World), (Instr.typeAssert (.iface 99 p) xT 99 true).run Tryz.prog w = .ok (.tuple #[p, .bool true]) w := fun _ _ _ => by kernel_rfl
  cases er with
  | nil =>
    obtain rfl : v = .nilIface := hv
    go_enter Tryz.func69, Tryz.ntmps69
    go_wp2
    go_ret
    exact ⟨.nilIface, rfl, rfl, rfl⟩
  | bare c =>
    obtain ⟨hc, rfl⟩ := hv
    go_enter Tryz.func69, Tryz.ntmps69
    go_wp2
    go_ret
    exact ⟨_, rfl, ⟨hc, rfl⟩, rfl⟩
  | loc c i =>
    obtain ⟨hc, fb, rfl, h0, h1⟩ := hv
    go_enter Tryz.func69, Tryz.ntmps69
    go_wp2
    go_ret
    exact ⟨_, rfl, ⟨hc, rfl⟩, rfl⟩
end Go.Proofs.YtepdedfmdafnkaaGreatDoor
