/- store.name: is a text an object's name? -/
import Derived.Test.YtepdedfmdafnkaaGreatDoorStoreM
import Derived.Test.YtepdedfmdafnkaaGreatDoorShelf
import Derived.Shelf.Strings.SlTrimAscii
namespace Go.Proofs.YtepdedfmdafnkaaGreatDoor
open Go.RowKit

theorem dropWhile_nil {α : Type} {p : α → Bool} : ∀ {l : List α}, l.dropWhile p = [] ↔ l.all p = true
  | [] => by simp
  | a :: r => by
    rw [List.dropWhile_cons, List.all_cons]
    cases h : p a with
    | true => simp [dropWhile_nil (l := r)]
    | false => simp
theorem trimS_nil (l cs : Str) : Lib.trimS l cs = [] ↔ l.all (fun b => cs.contains b) = true := by
  have hr : Lib.trimRightS l cs = [] ↔ l.all (fun b => cs.contains b) = true := by
    unfold Lib.trimRightS
    rw [List.reverse_eq_nil_iff, dropWhile_nil, List.all_reverse]
  unfold Lib.trimS
  constructor
  · intro h
    refine hr.1 ?_
    unfold Lib.trimLeftS at h
    rw [dropWhile_nil] at h
    cases hd : l.reverse.dropWhile (fun b => cs.contains b) with
    | nil => unfold Lib.trimRightS; rw [hd]; rfl
    | cons a r =>
      have ha : cs.contains a = false := by
        have := List.head?_dropWhile_not (fun b => cs.contains b) l.reverse
        rw [hd] at this
        simpa using this
      have hm : a ∈ Lib.trimRightS l cs := by unfold Lib.trimRightS; rw [hd]; simp
      have := List.all_eq_true.1 h a hm
      rw [ha] at this; cases this
  · intro h
    rw [hr.2 h]; rfl

/-- The signs of names. -/
def nameSigns : Str := [97, 98, 99, 100, 101, 102, 103, 104, 105, 106, 107, 108, 109, 110, 111, 112, 113, 114, 115, 116, 117, 118, 119, 120, 121, 122, 48, 49, 50, 51, 52, 53, 54, 55, 56, 57, 47]
def nameOk (s : Str) : Bool := decide (s ≠ []) && (decide (s.length ≤ 16) && s.all (fun b => nameSigns.contains b))

theorem trimName_any (s : Str) (w : World) (hs : s.length ≤ 100000) :
    Calls Tryz.prog 74 #[S s, .string ⟨#[97, 98, 99, 100, 101, 102, 103, 104, 105, 106, 107, 108, 109, 110, 111, 112, 113, 114, 115, 116, 117, 118, 119, 120, 121, 122, 48, 49, 50, 51, 52, 53, 54, 55, 56, 57, 47]⟩] w
      fun e w' => e = .returned (S (Lib.trimS s nameSigns)) ∧ Below w.heap.size w w' := by
  have h := Any.strings_Trim_laid Tryz.lays160 (by kernel_rfl) ⟨s.toArray⟩ ⟨nameSigns.toArray⟩ w (by simp [ByteArray.size]; omega) (by decide) (ascii_of_all (by decide))
  exact h
set_option maxRecDepth 20000 in
theorem name_any (s : Str) (w : World) (hs : s.length ≤ 100000) :
    Calls Tryz.prog 44 #[S s] w fun e w' => e = .returned (.bool (nameOk s)) ∧ Below w.heap.size w w' := by
  by_cases h0 : s = []
  · subst h0
    go_enter Tryz.func44, Tryz.ntmps44
    go_wp2_with fail
    go_ret
    exact ⟨rfl, Below.refl _ _⟩
  have e0 : nameOk s = (decide (s.length ≤ 16) && s.all (fun b => nameSigns.contains b)) := by simp [nameOk, h0]
  have g0 : (!s.isEmpty) = true := by simpa using h0
  by_cases h1 : s.length ≤ 16
  · have e1 : nameOk s = s.all (fun b => nameSigns.contains b) := by rw [e0]; simp [h1]
    have g1 : decide ((s.length : Int) ≤ 16) = true := by simp; omega
    have e2 : nameOk s = (Lib.trimS s nameSigns).isEmpty := by
      rw [e1, Bool.eq_iff_iff, ← trimS_nil, List.isEmpty_iff]
    have E := Lib.hid e2
    clear e0 e1 e2
    go_enter Tryz.func44, Tryz.ntmps44
    go_wp2_with fail
    refine (trimName_any s _ hs).mono ?_
    rintro e w1 ⟨rfl, hb⟩
    generalize Lib.trimS s nameSigns = tr at *
    go_wp2_with fail
    go_ret
    exact ⟨by rw [E.out]; simp, hb⟩
  · have e1 : nameOk s = false := by rw [e0]; simp [h1]
    have g1 : decide ((s.length : Int) ≤ 16) = false := by simp; omega
    have E := Lib.hid e1
    clear e0 e1
    go_enter Tryz.func44, Tryz.ntmps44
    go_wp2_with fail
    go_ret
    exact ⟨by rw [E.out]; rfl, Below.refl _ _⟩
end Go.Proofs.YtepdedfmdafnkaaGreatDoor
