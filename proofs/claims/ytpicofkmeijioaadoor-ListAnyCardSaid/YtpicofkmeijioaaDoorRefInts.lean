/- deedboxref1: SameInts, SameTexts, InInts, InTexts: what they answer. -/
import Derived.Test.YtpicofkmeijioaaDoorProg
import Derived.Test.YtpicofkmeijioaaDoorMem
import Derived.Outline
namespace Go.Proofs.YtpicofkmeijioaaDoor
open Go.RowKit

theorem szInt (w : World) : (sizeOf 3).run Tryd.prog w = .ok 1 w := by kernel_rfl
theorem szStr (w : World) : (sizeOf 9).run Tryd.prog w = .ok 1 w := by kernel_rfl

theorem list_ext_upto {α : Type} {l m : List α} (hl : l.length = m.length) (h : ∀ j < l.length, l[j]? = m[j]?) : l = m := by
  refine List.ext_getElem? fun i => ?_
  rcases Nat.lt_or_ge i l.length with hi | hi
  · exact h i hi
  · rw [List.getElem?_eq_none hi, List.getElem?_eq_none (by omega)]
theorem ret_bool {a b : Bool} (h : a = b) : Ending.returned (.bool a) = Ending.returned (.bool b) := by rw [h]

end Go.Proofs.YtpicofkmeijioaaDoor
