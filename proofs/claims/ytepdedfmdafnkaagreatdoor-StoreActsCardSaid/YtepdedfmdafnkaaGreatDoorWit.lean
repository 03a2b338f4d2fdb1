/- A witness's world that has both: all listed data laid by the function, and the handle that errors.As reads. -/
import Derived.Test.YtepdedfmdafnkaaGreatDoorLaid
import Derived.Lay
import Derived.LaidMore
import Derived.LaidHandle
import Derived.ProofKit
namespace Go.Proofs.YtepdedfmdafnkaaGreatDoor
open Go.ChangeShapes Go.WideShapes Go.ChangeAt Go.RowKit

theorem laidMet_layVars_all {P : Program} {w0 w' : World} {l : List (String × DataW Unit)} (hh : w'.heap = (w0.layVars P l).heap) (hf : w0.layFits P l [] = true) (hi : w0.layIfaces P l w' = true) : laidMet P l w' := by
  have e1 : (l.filter fun x => (l.map (·.1)).contains x.1) = l := List.filter_eq_self.2 fun x hx => List.contains_iff_mem.2 (List.mem_map.2 ⟨x, hx, rfl⟩)
  have e2 : (l.filter fun x => !(l.map (·.1)).contains x.1) = [] := List.filter_eq_nil_iff.2 fun x hx => by rw [List.contains_iff_mem.2 (List.mem_map.2 ⟨x, hx, rfl⟩)]; simp
  exact laidMet_layVars (w0 := w0) (l.map (·.1)) [] (by rw [e1]; exact hh) (by rw [e1]; exact hf) (by rw [e1]; exact hi) (by rw [e2]; exact LaidIn.none)

/-- The world at the beginning, the handle laid. -/
noncomputable def handleW (os : Os) : World := (World.holding Tryz.prog os ⟨#[], #[], []⟩).setCell ⟨12, 0, none⟩ (.iface 179 (.agg #[.pointer (some ⟨21, 30, none⟩)]))
noncomputable def witW (os : Os) (l : List (String × DataW Unit)) : World := (handleW os).layVars Tryz.prog (l.filter fun x => x.2.handleName?.isNone)
theorem witW_os (os : Os) (l : List (String × DataW Unit)) : (witW os l).os = os := World.layVars_os _ _ _
theorem witW_met (os : Os) (l : List (String × DataW Unit)) (args : Array Value) (hf : (handleW os).layFits Tryz.prog (l.filter fun x => x.2.handleName?.isNone) [] = true) (hi : (handleW os).layIfaces Tryz.prog (l.filter fun x => x.2.handleName?.isNone) (witW os l) = true)
    (hh : (l.filter fun x => x.2.handleName?.isSome).all (handleAtB Tryz.prog ((witW os l).forCall (fun _ _ => 0) ⟨#[], args, []⟩).memory) = true) :
    laidMetH Tryz.prog l ((witW os l).forCall (fun _ _ => 0) ⟨#[], args, []⟩).memory := by
  have h : laidMet Tryz.prog (l.filter fun x => x.2.handleName?.isNone) (witW os l) := laidMet_layVars_all (w0 := handleW os) rfl hf hi
  exact laidMetH_of_parts (h.of_heap (by simp [World.memory, World.forCall, Input.heap])) hh
end Go.Proofs.YtepdedfmdafnkaaGreatDoor
