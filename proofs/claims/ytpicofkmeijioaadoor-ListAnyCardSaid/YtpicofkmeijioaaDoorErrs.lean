/- The program's sentinel errors in memory, and the contract of plain.Code: the number and the place of nil, of a sentinel, of a Fault around a sentinel, and of another error of errors.New's make. -/
import Derived.Test.YtpicofkmeijioaaDoorChecked
import Derived.WalkKit
import Derived.WalkSpells
import Derived.LoopTactic
import Derived.Stop.IfaceNil
import Derived.Outline
import Derived.Lib.Hide
namespace Go.Proofs.YtpicofkmeijioaaDoor
open Go.RowKit

theorem isIfaceE : Tryd.prog.isIface 27 = true := by kernel_rfl

/-- The global's number of an error's number. -/
def errG : Nat → Nat
  | 1 => 0 | 2 => 5 | 3 => 0 | 4 => 4 | 5 => 6 | 6 => 3
  | 7 => 2 | 8 => 0 | 9 => 1 | 10 => 0 | 11 => 0 | _ => 0

/-- The sentinels of the numbers D lie in the world w below block B, each behind the address E says. -/
structure Errs (D : List Nat) (E : Nat → Addr) (B : Nat) (w : World) : Prop where
  var : ∀ c ∈ D, w.cell? ⟨errG c, 0, none⟩ = some (.iface 127 (.pointer (some (E c))))
  row : ∀ c ∈ D, ∃ cs t, w.heap[(E c).block]? = some (.cells cs t (0, 0))
  lt : ∀ c ∈ D, (E c).block < B ∧ errG c < B
  inj : ∀ c ∈ D, ∀ d ∈ D, E c = E d → c = d
  le : B ≤ w.heap.size

theorem Errs.sub {D D' : List Nat} {E B w} (h : Errs D E B w) (hs : ∀ c ∈ D', c ∈ D) : Errs D' E B w :=
  ⟨fun c hc => h.var c (hs c hc), fun c hc => h.row c (hs c hc), fun c hc => h.lt c (hs c hc), fun c hc d hd => h.inj c (hs c hc) d (hs d hd), h.le⟩
theorem Errs.below {D : List Nat} {E B w w'} (h : Errs D E B w) (hb : Below B w w') : Errs D E B w' :=
  ⟨fun c hc => (hb.cell (p := ⟨errG c, 0, none⟩) (h.lt c hc).2).trans (h.var c hc), fun c hc => let ⟨cs, t, e⟩ := h.row c hc; ⟨cs, t, (hb.block _ (h.lt c hc).1).trans e⟩, h.lt, h.inj, Nat.le_trans h.le hb.size⟩
theorem Errs.below' {D : List Nat} {E B w w' B'} (h : Errs D E B w) (hb : Below B' w w') (hB : B ≤ B') : Errs D E B w' := h.below (hb.mono hB)

/-- The numbers of all errors. -/
abbrev allE : List Nat := [1, 2, 3, 4, 5, 6, 7, 8, 9, 10, 11, 12]
theorem mem_allE {c : Nat} : c ∈ allE ↔ 1 ≤ c ∧ c ≤ 12 := by
  simp only [allE, List.mem_cons, List.mem_nil_iff, or_false]; omega

end Go.Proofs.YtpicofkmeijioaaDoor
