/- Package meta in plain words: of no program. -/
import Derived.Test.YtpicofkmeijioaaGreatDoorErV
namespace Go.Proofs.YtpicofkmeijioaaGreatDoor

/-- The first fault of n things, by a number each (0: none). -/
def firstFrom (f : Nat → Nat) : Nat → Nat → Er
  | _, 0 => .nil
  | i, m + 1 => if f i = 0 then firstFrom f (i + 1) m else .loc (f i) i
def firstErr (f : Nat → Nat) (n : Nat) : Er := firstFrom f 0 n

theorem firstFrom_all {f : Nat → Nat} : ∀ {m i : Nat}, (∀ j, i ≤ j → j < i + m → f j = 0) → firstFrom f i m = .nil
  | 0, _, _ => rfl
  | m + 1, i, h => by rw [firstFrom, if_pos (h i (Nat.le_refl _) (by omega))]; exact firstFrom_all fun j h1 h2 => h j (by omega) (by omega)
theorem firstErr_all {f : Nat → Nat} {n : Nat} (h : ∀ j < n, f j = 0) : firstErr f n = .nil := firstFrom_all fun j _ h2 => h j (by omega)
theorem firstFrom_hit {f : Nat → Nat} : ∀ {m i k : Nat}, i ≤ k → k < i + m → (∀ j, i ≤ j → j < k → f j = 0) → f k ≠ 0 → firstFrom f i m = .loc (f k) k
  | 0, _, _, h1, h2, _, _ => by omega
  | m + 1, i, k, h1, h2, h3, h4 => by
    rw [firstFrom]
    rcases Nat.lt_or_ge i k with h | h
    · rw [if_pos (h3 i (Nat.le_refl _) h)]; exact firstFrom_hit h (by omega) (fun j h5 h6 => h3 j (by omega) h6) h4
    · obtain rfl : i = k := by omega
      rw [if_neg h4]
theorem firstErr_hit {f : Nat → Nat} {n k : Nat} (hk : k < n) (h : ∀ j < k, f j = 0) (h4 : f k ≠ 0) : firstErr f n = .loc (f k) k := firstFrom_hit (Nat.zero_le _) (by omega) (fun j _ h2 => h j h2) h4
theorem firstFrom_nil {f : Nat → Nat} : ∀ {m i : Nat}, firstFrom f i m = .nil → ∀ j, i ≤ j → j < i + m → f j = 0
  | 0, _, _, j, h1, h2 => by omega
  | m + 1, i, h, j, h1, h2 => by
    rw [firstFrom] at h
    split at h
    · rename_i h0
      rcases Nat.lt_or_ge i j with hj | hj
      · exact firstFrom_nil h j hj (by omega)
      · obtain rfl : j = i := by omega
        exact h0
    · cases h
theorem firstErr_nil {f : Nat → Nat} {n : Nat} (h : firstErr f n = .nil) : ∀ j < n, f j = 0 := fun j hj => firstFrom_nil h j (Nat.zero_le _) (by omega)

/-- An ID's fault at its place. -/
def idFault (ids : List Int) (i : Nat) : Nat :=
  match ids[i]? with
  | none => 0
  | some n => if n < 1 ∨ 1073741824 < n then 2 else if 0 < i ∧ ∃ m, ids[i - 1]? = some m ∧ n ≤ m then 9 else 0
def metaCheck (ids : List Int) : Er := if ids.length = 0 then .bare 6 else if 40 < ids.length then .bare 8 else firstErr (idFault ids) ids.length
def metaNow (ids : List Int) : Int := ids.getLast?.getD 0
end Go.Proofs.YtpicofkmeijioaaGreatDoor
