/- meta.Text: the walk. -/
import Derived.Test.YtepdedfmdafnkaaGreatDoorStr
import Derived.Test.YtepdedfmdafnkaaGreatDoorMetaCheck
namespace Go.Proofs.YtepdedfmdafnkaaGreatDoor
open Go.RowKit
attribute [local go_sem] bapp

def idsTail (ids : List Int) : Str := ids.flatMap fun n => 32 :: Lib.itoa n
def metaText (ids : List Int) : Str := [109, 101, 116, 97] ++ idsTail ids ++ [10]

theorem idsTail_snoc (l : List Int) (x : Int) : idsTail (l ++ [x]) = idsTail l ++ 32 :: Lib.itoa x := by simp [idsTail]

theorem idsTail_len (l : List Int) (h : ∀ x ∈ l, 1 ≤ x ∧ x ≤ 1073741824) : (idsTail l).length ≤ l.length * 22 := by
  induction l with
  | nil => simp [idsTail]
  | cons x r ih =>
    have h1 := h x (by simp)
    have h2 := itoa_len x (by omega) (by omega)
    have h3 := ih fun y hy => h y (by simp [hy])
    simp only [idsTail, List.flatMap_cons, List.length_append, List.length_cons] at h3 ⊢
    omega
theorem metaCheck_nil {l : List Int} (h : metaCheck l = .nil) : l ≠ [] ∧ l.length ≤ 40 ∧ ∀ (k : Nat) (x : Int), l[k]? = some x → 1 ≤ x ∧ x ≤ 1073741824 ∧ (0 < k → ∀ y : Int, l[k - 1]? = some y → y < x) := by
  unfold metaCheck at h
  split at h
  · cases h
  · split at h
    · cases h
    · rename_i h0 h40
      refine ⟨fun e => h0 (by rw [e]; rfl), by omega, fun k x hk => ?_⟩
      have hlt : k < l.length := by
        rcases Nat.lt_or_ge k l.length with h' | h'
        · exact h'
        · rw [List.getElem?_eq_none h'] at hk; cases hk
      have := firstErr_nil h k hlt
      unfold idFault at this
      rw [hk] at this
      simp only at this
      split at this
      · cases this
      · split at this
        · cases this
        · rename_i h1 h2
          refine ⟨by omega, by omega, fun hp y hy => ?_⟩
          rcases Int.lt_or_le y x with h' | h'
          · exact h'
          · exact absurd ⟨hp, y, hy, h'⟩ h2

def metaTextR (l : List Int) : Str := if metaCheck l = .nil then metaText l else []
theorem ret_pair {a b c : Value} (h : a = b) : Ending.returned (.tuple #[a, c]) = Ending.returned (.tuple #[b, c]) := by rw [h]
set_option maxRecDepth 20000 in
theorem metaText_any (E : Nat → Addr) (B : Nat) (v : Value) (l : List Int) (w : World) (hE : Errs [2, 6, 8, 9] E B w) (hT : LNum B w) (hl : IntsAt w v l) :
    Calls Tryz.prog 29 #[v] w fun e w' => ∃ ev, e = .returned (.tuple #[S (metaTextR l), ev]) ∧ ErV E w' ev (metaCheck l) ∧ Below w.heap.size w w' := by
  have hl0 := hl
  obtain ⟨a, c, b, o, rfl, ha, hc, hcm, hx⟩ := hl
  unfold maxLen at hcm
  have hif := isIfaceE
  by_cases hnil : metaCheck l = .nil
  · have hsp : metaTextR l = metaText l := if_pos hnil
    have Hsp := Lib.hid hsp; clear hsp
    have Hn := Lib.hid hnil; clear hnil
    have hr := metaCheck_nil Hn.out
    have Hr := Lib.hid hr; clear hr
    go_enter Tryz.func29, Tryz.ntmps29
    go_wp2_with fail
    refine (metaCheck_any E B _ l _ hE hl0).mono ?_
    rintro e w1 ⟨ev, rfl, hev, hb1⟩
    rw [Hn.out] at hev
    obtain rfl : ev = .nilIface := hev
    go_wp2_with fail
    go_loopw [5, 15] (fun s i wr => ∃ k : Nat, k ≤ l.length ∧ i = .int .i64 k ∧ s = S ([109, 101, 116, 97] ++ idsTail (l.take k)) ∧ Below w.heap.size w wr) (fun _ i _ => l.length - (intOf i).toNat)
    case atStart => exact ⟨0, by omega, rfl, rfl, hb1⟩
    case round =>
      obtain ⟨k, hk, rfl, rfl, hb⟩ := hrel
      by_cases hlt : k < l.length
      · obtain ⟨x, hxk⟩ := get_ex hlt
        have c1 := hx k x hxk 0 _ rfl
        have c1 := (hb.cell (World.block_lt_of_cell? w _ c1)).trans c1
        have i1 := idx_at (c := c) 1 Tryz.underlying55 szInt ha k hlt
        have hk1 : (k : Int) < (l.length : Int) := by omega
        simp only [Nat.mul_one, Nat.add_zero] at c1 i1
        have hxr := Hr.out.2.2 k x hxk
        have h1 : 1 ≤ x := hxr.1
        have h2 : x ≤ 1073741824 := hxr.2.1
        have hsn := take_snoc' hxk
        have hl1 := itoa_len x (by omega) (by omega)
        have hl2 := idsTail_len (l.take k) (fun y hy => by
          obtain ⟨j, hj, he⟩ := List.getElem_of_mem (List.mem_of_mem_take hy)
          have := Hr.out.2.2 j y (by simp [hj, he])
          exact ⟨this.1, this.2.1⟩)
        have hl3 : (l.take k).length ≤ 40 := by have := Hr.out.2.1; rw [List.length_take]; omega
        have hl4 : (idsTail (l.take k)).length ≤ 880 := by omega
        clear hl2 hl3
        have Hx := Lib.hid hsn; clear hsn hxk hxr
        go_wp2_with fail
        refine (itoa_any B x (by omega) (by omega) _ (hT.below' hb hT.le)).mono ?_
        rintro e w2 ⟨rfl, hb2⟩
        go_wp2_with fail
        go_roundw
        case rel => exact ⟨k + 1, by omega, by go_num, by rw [Hx.out, idsTail_snoc]; simp, hb.trans (hb2.mono hb.size)⟩
        case measure => simp [intOf]; omega
      · obtain rfl : k = l.length := by omega
        have hl2 := idsTail_len l (fun y hy => by
          obtain ⟨j, hj, he⟩ := List.getElem_of_mem hy
          have := Hr.out.2.2 j y (by simp [hj, he])
          exact ⟨this.1, this.2.1⟩)
        have hl3 : l.length ≤ 40 := Hr.out.2.1
        have hl4 : (idsTail l).length ≤ 880 := by omega
        clear hl2
        rw [List.take_length]
        go_wp2_with fail
        go_ret2
        refine ⟨.nilIface, ret_pair (by rw [Hsp.out]; simp [metaText]), by rw [Hn.out]; rfl, hb⟩
  · have hsp : metaTextR l = [] := if_neg hnil
    have Hsp := Lib.hid hsp; clear hsp
    go_enter Tryz.func29, Tryz.ntmps29
    go_wp2_with fail
    refine (metaCheck_any E B _ l _ hE hl0).mono ?_
    rintro e w1 ⟨ev, rfl, hev, hb1⟩
    obtain ⟨u, x, rfl⟩ := hev.iface hnil
    have Hn := Lib.hid hnil; clear hnil
    have He := Lib.hid hev; clear hev
    go_wp2_with fail
    go_ret2
    exact ⟨.iface u x, ret_pair (by rw [Hsp.out]; rfl), He.out, hb1⟩
end Go.Proofs.YtepdedfmdafnkaaGreatDoor
