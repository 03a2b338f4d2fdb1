/- How slices of plain data lie in memory: words, and the laws by which the walks read them. Of no program. -/
import Derived.WalkKit
import Derived.WalkSpells
import Derived.WalkLawsBesides
import Derived.Lib.Hide
import Derived.Deep.QuietTactic
import Derived.BigQuiet
import Derived.LoopTactic
namespace Go.Proofs.YtpicofkmeijioaaGreatDoor
open Go.RowKit

/-- The value v is a slice of l.length elements, each of sz cells, that read as enc says. -/
def At {α : Type} (enc : α → List Value) (sz : Nat) (w : World) (v : Value) (l : List α) : Prop :=
  ∃ a c b o, v = .slice a l.length c ∧ (0 < l.length → a = some ⟨b, o, none⟩) ∧ l.length ≤ c ∧ c ≤ maxLen ∧ ∀ k x, l[k]? = some x → ∀ j u, (enc x)[j]? = some u → w.cell? ⟨b, o + k * sz + j, none⟩ = some u

theorem At.nil {α : Type} (enc : α → List Value) (sz : Nat) (w : World) : At enc sz w (.slice none 0 0) [] :=
  ⟨none, 0, 0, 0, rfl, fun h => absurd h (by simp), Nat.le_refl _, by decide, fun k x h => by simp at h⟩

theorem At.below {α : Type} {enc : α → List Value} {sz : Nat} {w w' : World} {v : Value} {l : List α} (h : At enc sz w v l) (hb : Below w.heap.size w w') : At enc sz w' v l := by
  obtain ⟨a, c, b, o, hv, ha, hc, hm, hx⟩ := h
  refine ⟨a, c, b, o, hv, ha, hc, hm, fun k x hk j u hu => ?_⟩
  have h1 := hx k x hk j u hu
  exact (hb.cell (World.block_lt_of_cell? w _ h1)).trans h1

/-- Cells of one cell an element. -/
abbrev encI (n : Int) : List Value := [.int .i64 n]
abbrev Str := List UInt8
abbrev S (s : Str) : Value := .string ⟨s.toArray⟩
abbrev encS (s : Str) : List Value := [.string ⟨s.toArray⟩]
abbrev IntsAt (w : World) (v : Value) (l : List Int) : Prop := At encI 1 w v l
abbrev StrsAt (w : World) (v : Value) (l : List Str) : Prop := At encS 1 w v l

/-- The address of an element, in the walk's own form. -/
theorem idx_at {P : Program} {t e : TypeId} {a : Option Addr} {n c b o : Nat} (sz : Nat) (ht : P.underlying t = some (.slice e)) (hs : ∀ w, (sizeOf e).run P w = .ok sz w) (ha : 0 < n → a = some ⟨b, o, none⟩)
    (k : Nat) (hk : k < n) (w : World) : (Instr.indexAt t (.slice a n c) (.int .i64 (k : Int))).run P w = .ok (.pointer (some ⟨b, o + k * sz, none⟩)) w := by
  obtain rfl := ha (by omega)
  simp only [Instr.indexAt, asIntOf]
  have hadd : (⟨b, o, none⟩ : Addr).add (k * sz) = ⟨b, o + k * sz, none⟩ := by
    unfold Addr.add; split <;> simp_all
  simp [run_underlying ht, hs, hadd]
  intro h; omega

theorem Bdn {B : Nat} {a w : World} (h : Below B a w) (n : Nat) : Below B a (w.drewN n) := ⟨h.os, h.tape, h.output, h.size, h.block⟩
theorem bapp (a b : Str) : (⟨a.toArray⟩ : ByteArray) ++ ⟨b.toArray⟩ = ⟨(a ++ b).toArray⟩ := by
  apply ByteArray.ext
  simp
theorem get_ex {α : Type} {l : List α} {k : Nat} (h : k < l.length) : ∃ x, l[k]? = some x := ⟨l[k], by simp [h]⟩
end Go.Proofs.YtpicofkmeijioaaGreatDoor
