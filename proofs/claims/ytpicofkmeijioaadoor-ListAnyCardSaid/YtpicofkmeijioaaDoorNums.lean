/- row.Numbers: the walk. -/
import Derived.Test.YtpicofkmeijioaaDoorNum
namespace Go.Proofs.YtpicofkmeijioaaDoor
open Go.RowKit

def numsOf (l : List Str) : Option (List Int) := l.mapM numOf

theorem mapM_snoc {α β : Type} (f : α → Option β) (l : List α) (x : α) : (l ++ [x]).mapM f = (l.mapM f).bind fun ys => (f x).map fun y => ys ++ [y] := by
  induction l with
  | nil => cases h : f x <;> simp [h]
  | cons a r ih =>
    cases h : f a with
    | none => simp [h]
    | some b =>
      simp only [List.cons_append, List.mapM_cons, h, Option.bind_eq_bind, Option.bind_some, ih]
      cases h2 : r.mapM f with
      | none => simp
      | some ys => cases f x <;> simp
theorem mapM_take_none {α β : Type} (f : α → Option β) (l : List α) (k : Nat) (h : (l.take k).mapM f = none) : l.mapM f = none := by
  have e : l = l.take k ++ l.drop k := (List.take_append_drop k l).symm
  rw [e, List.mapM_append, h]; rfl
theorem mapM_len {α β : Type} (f : α → Option β) : ∀ {l : List α} {ys : List β}, l.mapM f = some ys → ys.length = l.length
  | [], ys, h => by simp at h; subst h; rfl
  | a :: r, ys, h => by
    rw [List.mapM_cons] at h
    cases h1 : f a with
    | none => simp [h1] at h
    | some b =>
      cases h2 : r.mapM f with
      | none => simp [h1, h2] at h
      | some zs =>
        simp [h1, h2] at h
        subst h
        simp [mapM_len f h2]
theorem take_snoc' {α : Type} {l : List α} {k : Nat} {x : α} (h : l[k]? = some x) : l.take (k + 1) = l.take k ++ [x] := by
  rw [List.take_add_one, h]; rfl

end Go.Proofs.YtpicofkmeijioaaDoor
