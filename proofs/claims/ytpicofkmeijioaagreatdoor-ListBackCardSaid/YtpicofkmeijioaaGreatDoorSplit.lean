/- strings.Split by one byte; slices of slices. -/
import Derived.Test.YtpicofkmeijioaaGreatDoorCut
namespace Go.Proofs.YtpicofkmeijioaaGreatDoor
open Go.RowKit

/-- What the library's search reads: some number. -/
structure LMax (B : Nat) (w : World) : Prop where
  max : ∃ m, w.cell? ⟨13, 0, none⟩ = some (.int .i64 m)
  low : 21 ≤ B
  le : B ≤ w.heap.size
theorem LMax.below {B : Nat} {w w' : World} (h : LMax B w) (hb : Below B w w') : LMax B w' := by
  obtain ⟨m, hm⟩ := h.max
  have := h.low
  exact ⟨⟨m, (hb.cell (p := ⟨13, 0, none⟩) (by simp; omega)).trans hm⟩, h.low, Nat.le_trans h.le hb.size⟩
theorem LMax.below' {B B' : Nat} {w w' : World} (h : LMax B w) (hb : Below B' w w') (hB : B ≤ B') : LMax B w' := h.below (hb.mono hB)

theorem encS_map (l : List Str) : l.map S = l.flatMap encS := by
  induction l with
  | nil => rfl
  | cons x r ih => simp [ih]

/-- strings.Split(s, c), c one byte. -/
theorem split1_any (B : Nat) (s : Str) (c : UInt8) (w : World) (hM : LMax B w) (hs : s.length ≤ 100000) :
    Calls Tryz.prog 86 #[S s, .string ⟨#[c]⟩] w fun e w' => e = .returned (.slice (some ⟨w.heap.size, 0, none⟩) (cutAt c s).length (cutAt c s).length) ∧ Own encS 9 1 w.heap.size w' (.slice (some ⟨w.heap.size, 0, none⟩) (cutAt c s).length (cutAt c s).length) (cutAt c s) ∧ Below w.heap.size w w' := by
  obtain ⟨m, hm⟩ := hM.max
  refine (Tryz.strings_Split ⟨s.toArray⟩ ⟨#[c]⟩ m w (by show s.toArray.size < _; simp; omega) hm (Nat.le_refl 1)).mono ?_
  rintro e w' ⟨rfl, rfl⟩
  have hlen : Lib.countB ⟨s.toArray⟩ ⟨#[c]⟩ + 1 = (cutAt c s).length := by
    rw [cutAt_length]; unfold Lib.countB; simp [Lib.count_one]
  rw [hlen]
  refine ⟨rfl, ?_, (Below.refl _ _).alloc (Nat.le_refl _) _⟩
  have hc := splitB_cut c s
  refine ⟨by rw [← encS_map]; simp, .inr ⟨w.heap.size, _, _, rfl, Nat.le_refl _, heap_alloc_new w _, Nat.le_refl _, ?_, ?_, ?_⟩⟩
  · have := cutAt_length c s
    have h2 : s.count c ≤ s.length := List.count_le_length
    unfold maxLen; omega
  · have := congrArg List.length hc
    simp at this ⊢; omega
  · rw [← encS_map, ← hc]
    have := congrArg List.length hc
    simp only [List.length_map] at this
    rw [List.take_of_length_le (by simp; omega)]

/-- s[k:] of a slice. -/
theorem slice_from {α : Type} {P : Program} {t e : TypeId} {enc : α → List Value} {sz : Nat} {w : World} {a : Option Addr} {c b o : Nat} {l : List α} (ht : P.underlying t = some (.slice e)) (hsz : ∀ w, (sizeOf e).run P w = .ok sz w)
    (ha : 0 < l.length → a = some ⟨b, o, none⟩) (hc : l.length ≤ c) (hcm : c ≤ maxLen) (hx : ∀ k x, l[k]? = some x → ∀ j u, (enc x)[j]? = some u → w.cell? ⟨b, o + k * sz + j, none⟩ = some u) (k : Nat) (hk : k ≤ l.length) (hk0 : 0 < l.length) :
    ∃ b' o' c', (∀ W, (Instr.slice t (.slice a l.length c) (some (.int .i64 (k : Int))) none none).run P W = .ok (.slice (some ⟨b', o', none⟩) (l.length - k) c') W) ∧ At enc sz w (.slice (some ⟨b', o', none⟩) (l.length - k) c') (l.drop k) := by
  obtain rfl := ha hk0
  have hu : P.elem t = e := by simp [Program.elem, ht]
  have hadd : (⟨b, o, none⟩ : Addr).add (k * sz) = ⟨b, o + k * sz, none⟩ := by unfold Addr.add; split <;> simp_all
  by_cases h : c = k
  · refine ⟨b, o, c - k, fun W => ?_, ?_⟩
    · have hk' : (k : Int) ≤ l.length := by omega
      simp [Instr.slice, Instr.sliceBounds, run_underlying ht, hsz, hk, h, go_sem]
    · have hl : l.length = k := by omega
      refine ⟨_, c - k, b, o, by rw [List.length_drop], fun _ => rfl, by simp; omega, by omega, fun i x hi j u hu => ?_⟩
      rw [List.drop_of_length_le (by omega)] at hi; simp at hi
  · refine ⟨b, o + k * sz, c - k, fun W => ?_, ?_⟩
    · have hk' : (k : Int) ≤ l.length := by omega
      simp [Instr.slice, Instr.sliceBounds, run_underlying ht, hsz, hk, h, go_sem]
    · refine ⟨_, c - k, b, o + k * sz, by rw [List.length_drop], fun _ => rfl, by simp; omega, by omega, fun i x hi j u hu => ?_⟩
      rw [List.getElem?_drop] at hi
      have := hx (k + i) x hi j u hu
      rwa [show o + k * sz + i * sz + j = o + (k + i) * sz + j by rw [Nat.add_mul]; omega]
end Go.Proofs.YtpicofkmeijioaaGreatDoor
