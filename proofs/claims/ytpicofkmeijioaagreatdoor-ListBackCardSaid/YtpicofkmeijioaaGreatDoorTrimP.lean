/- strings.Trim to nothing, in plain words. -/
import Derived.Test.YtpicofkmeijioaaGreatDoorErV
import Derived.Shelf.Strings.SlTrimAscii
namespace Go.Proofs.YtpicofkmeijioaaGreatDoor
open Go.RowKit

theorem dropWhile_nilP {α : Type} {p : α → Bool} : ∀ {l : List α}, l.dropWhile p = [] ↔ l.all p = true
  | [] => by simp
  | a :: r => by
    rw [List.dropWhile_cons, List.all_cons]
    cases h : p a with
    | true => simp [dropWhile_nilP (l := r)]
    | false => simp
theorem trimS_nilP (l cs : Str) : Lib.trimS l cs = [] ↔ l.all (fun b => cs.contains b) = true := by
  have hr : Lib.trimRightS l cs = [] ↔ l.all (fun b => cs.contains b) = true := by
    unfold Lib.trimRightS
    rw [List.reverse_eq_nil_iff, dropWhile_nilP, List.all_reverse]
  unfold Lib.trimS
  constructor
  · intro h
    refine hr.1 ?_
    unfold Lib.trimLeftS at h
    rw [dropWhile_nilP] at h
    cases hd : l.reverse.dropWhile (fun b => cs.contains b) with
    | nil => unfold Lib.trimRightS; rw [hd]; rfl
    | cons a r =>
      have ha : cs.contains a = false := by
        have := List.head?_dropWhile_not (fun b => cs.contains b) l.reverse
        rw [hd] at this
        simpa using this
      have hm : a ∈ Lib.trimRightS l cs := by unfold Lib.trimRightS; rw [hd]; simp
      have := List.all_eq_true.1 h a hm
      rw [ha] at this; cases this
  · intro h
    rw [hr.2 h]; rfl
end Go.Proofs.YtpicofkmeijioaaGreatDoor
