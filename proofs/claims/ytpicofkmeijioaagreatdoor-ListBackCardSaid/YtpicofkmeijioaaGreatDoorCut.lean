/- A text cut by a byte: strings.Split by one byte, in plain words. -/
import Derived.Test.YtpicofkmeijioaaGreatDoorStr
import Derived.Lib.SplitLaws
namespace Go.Proofs.YtpicofkmeijioaaGreatDoor
open Go.RowKit

/-- s cut at each byte c. -/
def cutAt (c : UInt8) : Str → List Str
  | [] => [[]]
  | x :: r => if x = c then [] :: cutAt c r else
    match cutAt c r with
    | h :: t => (x :: h) :: t
    | [] => [[x]]

theorem cutAt_ne (c : UInt8) (s : Str) : cutAt c s ≠ [] := by
  cases s with
  | nil => simp [cutAt]
  | cons x r =>
    unfold cutAt
    split
    · simp
    · split <;> simp

theorem cutAt_none {c : UInt8} : ∀ {s : Str}, c ∉ s → cutAt c s = [s]
  | [], _ => rfl
  | x :: r, h => by
    have hx : x ≠ c := fun e => h (by simp [e])
    have hr : c ∉ r := fun e => h (by simp [e])
    rw [cutAt, if_neg hx, cutAt_none hr]
theorem cutAt_app {c : UInt8} : ∀ {p : Str} {q : Str}, c ∉ p → cutAt c (p ++ c :: q) = p :: cutAt c q
  | [], q, _ => by simp [cutAt]
  | x :: r, q, h => by
    have hx : x ≠ c := fun e => h (by simp [e])
    have hr : c ∉ r := fun e => h (by simp [e])
    rw [List.cons_append, cutAt, if_neg hx, cutAt_app hr]

theorem occ1 (c x : UInt8) (s : Str) (i : Nat) (h : s[i]? = some x) : Lib.occAt s [c] i = (x == c) := by
  unfold Lib.occAt
  have hlt : i < s.length := by
    rcases Nat.lt_or_ge i s.length with h' | h'
    · exact h'
    · rw [List.getElem?_eq_none h'] at h; cases h
  rw [List.drop_eq_getElem_cons hlt]
  have : s[i] = x := by rw [List.getElem?_eq_getElem hlt] at h; exact Option.some.inj h
  rw [this]
  simp [List.isPrefixOf, Bool.beq_comm]
theorem index_none1 {c : UInt8} {s : Str} (h : c ∉ s) : Lib.index s [c] = -1 := by
  refine Lib.index_none fun j hj => ?_
  cases hs : s[j]? with
  | none =>
    unfold Lib.occAt
    rw [List.drop_of_length_le (List.getElem?_eq_none_iff.1 hs)]; rfl
  | some x =>
    rw [occ1 c x s j hs]
    exact beq_eq_false_iff_ne.2 fun e => h (by rw [← e]; exact List.mem_of_getElem? hs)
theorem index_app1 {c : UInt8} {p q : Str} (h : c ∉ p) : Lib.index (p ++ c :: q) [c] = p.length := by
  refine Lib.index_first (by simp) ?_ fun j hj => ?_
  · rw [occ1 c c _ _ (by simp)]; simp
  · rw [occ1 c p[j] _ _ (by rw [List.getElem?_append_left hj]; simp)]
    exact beq_eq_false_iff_ne.2 fun e => h (by rw [← e]; exact List.getElem_mem _)

theorem splitK_cut (c : UInt8) : ∀ (k : Nat) (s : Str), s.count c = k → Lib.splitK [c] 0 k s = cutAt c s
  | 0, s, h => by
    rw [cutAt_none (List.count_eq_zero.1 h)]; rfl
  | k + 1, s, h => by
    have hm : c ∈ s := List.count_pos_iff.1 (by omega)
    obtain ⟨p, q, hpq, hp⟩ := List.eq_append_cons_of_mem hm
    subst hpq
    rw [cutAt_app hp, Lib.splitK, index_app1 hp]
    have hne : ((p.length : Int) == -1) = false := beq_eq_false_iff_ne.2 (by omega)
    rw [if_neg (by rw [hne]; decide)]
    have hc : q.count c = k := by
      rw [List.count_append, List.count_eq_zero.2 hp, List.count_cons_self] at h; omega
    rw [Int.toNat_natCast, Nat.add_zero, List.take_left' rfl, show p.length + [c].length = p.length + 1 from rfl, ← List.drop_drop, List.drop_left' rfl, List.drop_one, List.tail_cons, splitK_cut c k q hc]

theorem splitB_cut (c : UInt8) (s : Str) : (Lib.splitB ⟨#[c]⟩ 0 (Lib.countB ⟨s.toArray⟩ ⟨#[c]⟩) ⟨s.toArray⟩).map Value.string = (cutAt c s).map S := by
  have hc : Lib.countB ⟨s.toArray⟩ ⟨#[c]⟩ = s.count c := by
    unfold Lib.countB; simpa using Lib.count_one c s
  have h := Lib.splitB_data ⟨#[c]⟩ 0 (Lib.countB ⟨s.toArray⟩ ⟨#[c]⟩) ⟨s.toArray⟩
  rw [hc] at h ⊢
  have h2 : Lib.splitK [c] 0 (s.count c) s = cutAt c s := splitK_cut c _ s rfl
  have h3 : (Lib.splitB ⟨#[c]⟩ 0 (s.count c) ⟨s.toArray⟩).map (·.data.toList) = cutAt c s := by simpa [h2] using h
  rw [← h3, List.map_map]
  refine List.map_congr_left fun x _ => ?_
  simp [S]
theorem cutAt_length (c : UInt8) (s : Str) : (cutAt c s).length = s.count c + 1 := by
  have h := splitB_cut c s
  have h1 := congrArg List.length h
  simp only [List.length_map] at h1
  rw [← h1, Lib.splitB_all ⟨#[c]⟩ (Nat.le_refl 1) 0 _ _ rfl]
  unfold Lib.countB; simp [Lib.count_one]
theorem cutAt_mem_len {c : UInt8} : ∀ {s p : Str}, p ∈ cutAt c s → p.length ≤ s.length
  | [], p, h => by simp [cutAt] at h; subst h; simp
  | x :: r, p, h => by
    unfold cutAt at h
    split at h
    · rcases List.mem_cons.1 h with rfl | h
      · simp
      · have := cutAt_mem_len h; simp; omega
    · split at h
      · rename_i hd tl he
        rcases List.mem_cons.1 h with rfl | h
        · have := cutAt_mem_len (s := r) (p := hd) (c := c) (by rw [he]; simp); simp; omega
        · have := cutAt_mem_len (s := r) (p := p) (c := c) (by rw [he]; simp [h]); simp; omega
      · simp at h; subst h; simp
end Go.Proofs.YtpicofkmeijioaaGreatDoor
