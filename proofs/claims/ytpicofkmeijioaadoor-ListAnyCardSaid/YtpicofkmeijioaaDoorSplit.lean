/- strings.Split by one byte; slices of slices. -/
import Derived.Test.YtpicofkmeijioaaDoorCut
namespace Go.Proofs.YtpicofkmeijioaaDoor
open Go.RowKit

/-- What the library's search reads: some number. -/
structure LMax (B : Nat) (w : World) : Prop where
  max : ∃ m, w.cell? ⟨7, 0, none⟩ = some (.int .i64 m)
  low : 15 ≤ B
  le : B ≤ w.heap.size
theorem LMax.below {B : Nat} {w w' : World} (h : LMax B w) (hb : Below B w w') : LMax B w' := by
  obtain ⟨m, hm⟩ := h.max
  have := h.low
  exact ⟨⟨m, (hb.cell (p := ⟨7, 0, none⟩) (by simp; omega)).trans hm⟩, h.low, Nat.le_trans h.le hb.size⟩
theorem LMax.below' {B B' : Nat} {w w' : World} (h : LMax B w) (hb : Below B' w w') (hB : B ≤ B') : LMax B w' := h.below (hb.mono hB)

theorem encS_map (l : List Str) : l.map S = l.flatMap encS := by
  induction l with
  | nil => rfl
  | cons x r ih => simp [ih]

/-- s[k:] of a slice. -/
theorem slice_from {α : Type} {P : Program} {t e : TypeId} {enc : α → List Value} {sz : Nat} {w : World} {a : Option Addr} {c b o : Nat} {l : List α} (ht : P.underlying t = some (.slice e)) (hsz : ∀ w, (sizeOf e).run P w = .ok sz w)
    (ha : 0 < l.length → a = some ⟨b, o, none⟩) (hc : l.length ≤ c) (hcm : c ≤ maxLen) (hx : ∀ k x, l[k]? = some x → ∀ j u, (enc x)[j]? = some u → w.cell? ⟨b, o + k * sz + j, none⟩ = some u) (k : Nat) (hk : k ≤ l.length) (hk0 : 0 < l.length) :
    ∃ b' o' c', (∀ W, (Instr.slice t (.slice a l.length c) (some (.int .i64 (k : Int))) none none).run P W = .ok (.slice (some ⟨b', o', none⟩) (l.length - k) c') W) ∧ At enc sz w (.slice (some ⟨b', o', none⟩) (l.length - k) c') (l.drop k) := by
  obtain rfl := ha hk0
  have hu : P.elem t = e := by simp [Program.elem, ht]
  have hadd : (⟨b, o, none⟩ : Addr).add (k * sz) = ⟨b, o + k * sz, none⟩ := by unfold Addr.add; split <;> simp_all
  by_cases h : c = k
  · refine ⟨b, o, c - k, fun W => ?_, ?_⟩
    · have hk' : (k : Int) ≤ l.length := by omega
      simp [Instr.slice, Instr.sliceBounds, run_underlying ht, hsz, hk, h, go_sem]
    · have hl : l.length = k := by omega
      refine ⟨_, c - k, b, o, by rw [List.length_drop], fun _ => rfl, by simp; omega, by omega, fun i x hi j u hu => ?_⟩
      rw [List.drop_of_length_le (by omega)] at hi; simp at hi
  · refine ⟨b, o + k * sz, c - k, fun W => ?_, ?_⟩
    · have hk' : (k : Int) ≤ l.length := by omega
      simp [Instr.slice, Instr.sliceBounds, run_underlying ht, hsz, hk, h, go_sem]
    · refine ⟨_, c - k, b, o + k * sz, by rw [List.length_drop], fun _ => rfl, by simp; omega, by omega, fun i x hi j u hu => ?_⟩
      rw [List.getElem?_drop] at hi
      have := hx (k + i) x hi j u hu
      rwa [show o + k * sz + i * sz + j = o + (k + i) * sz + j by rw [Nat.add_mul]; omega]
end Go.Proofs.YtpicofkmeijioaaDoor
