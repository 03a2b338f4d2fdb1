/- row.Numbers: the walk. -/
import Derived.Test.YtpicofkmeijioaaGreatDoorNum
namespace Go.Proofs.YtpicofkmeijioaaGreatDoor
open Go.RowKit

def numsOf (l : List Str) : Option (List Int) := l.mapM numOf

theorem mapM_snoc {α β : Type} (f : α → Option β) (l : List α) (x : α) : (l ++ [x]).mapM f = (l.mapM f).bind fun ys => (f x).map fun y => ys ++ [y] := by
  induction l with
  | nil => cases h : f x <;> simp [h]
  | cons a r ih =>
    cases h : f a with
    | none => simp [h]
    | some b =>
      simp only [List.cons_append, List.mapM_cons, h, Option.bind_eq_bind, Option.bind_some, ih]
      cases h2 : r.mapM f with
      | none => simp
      | some ys => cases f x <;> simp
theorem mapM_take_none {α β : Type} (f : α → Option β) (l : List α) (k : Nat) (h : (l.take k).mapM f = none) : l.mapM f = none := by
  have e : l = l.take k ++ l.drop k := (List.take_append_drop k l).symm
  rw [e, List.mapM_append, h]; rfl
theorem mapM_len {α β : Type} (f : α → Option β) : ∀ {l : List α} {ys : List β}, l.mapM f = some ys → ys.length = l.length
  | [], ys, h => by simp at h; subst h; rfl
  | a :: r, ys, h => by
    rw [List.mapM_cons] at h
    cases h1 : f a with
    | none => simp [h1] at h
    | some b =>
      cases h2 : r.mapM f with
      | none => simp [h1, h2] at h
      | some zs =>
        simp [h1, h2] at h
        subst h
        simp [mapM_len f h2]
theorem take_snoc' {α : Type} {l : List α} {k : Nat} {x : α} (h : l[k]? = some x) : l.take (k + 1) = l.take k ++ [x] := by
  rw [List.take_add_one, h]; rfl

theorem numbers_any (B : Nat) (v : Value) (l : List Str) (w : World) (hT : LNum B w) (hl : StrsAt w v l) (hn : l.length ≤ 100000) (hs : ∀ s ∈ l, s.length ≤ 100000) :
    Calls Tryz.prog 115 #[v] w fun e w' => ∃ v', e = .returned (.tuple #[v', .bool (numsOf l).isSome]) ∧ (∀ ns, numsOf l = some ns → Own encI 3 1 w.heap.size w' v' ns) ∧ (numsOf l = none → v' = .slice none 0 0) ∧ Below w.heap.size w w' := by
  obtain ⟨a, c, b, o, rfl, ha, hc, hcm, hx⟩ := hl
  unfold maxLen at hcm
  go_enter Tryz.func115, Tryz.ntmps115
  go_wp2_with fail
  go_loopw [2, 3, 4, 11] (fun r1 r2 out i wr => r1 = .slice none 0 0 ∧ r2 = .bool false ∧ ∃ (k : Nat) (ns : List Int), k ≤ l.length ∧ i = .int .i64 k ∧ Hid ((l.take k).mapM numOf = some ns) ∧ Own encI 3 1 w.heap.size wr out ns ∧ Below w.heap.size w wr) (fun _ _ _ i _ => l.length - (intOf i).toNat)
  case atStart => exact ⟨rfl, rfl, 0, [], by omega, rfl, rfl, Own.nil _ _ _ _ _, Below.refl _ _⟩
  case round =>
    obtain ⟨rfl, rfl, k, ns, hk, rfl, hm, ho, hb⟩ := hrel
    by_cases hlt : k < l.length
    · obtain ⟨x, hxk⟩ := get_ex hlt
      have c1 := hx k x hxk 0 _ rfl
      have c1 := (hb.cell (World.block_lt_of_cell? w _ c1)).trans c1
      have i1 := idx_at (c := c) 1 Tryz.underlying24 szStr ha k hlt
      have hk1 : (k : Int) < (l.length : Int) := by omega
      simp only [Nat.mul_one, Nat.add_zero] at c1 i1
      have hxs : x.length ≤ 100000 := hs x (List.mem_of_getElem? hxk)
      have hsn := take_snoc' hxk
      have hlen : ns.length = k := by have := mapM_len _ hm.out; simp at this; omega
      have Hx := Lib.hid hsn; clear hsn hxk
      have Hlen := Lib.hid hlen; clear hlen
      cases hx0 : numOf x with
      | none =>
        have hN : numsOf l = none := by
          refine mapM_take_none _ _ (k + 1) ?_
          rw [Hx.out, mapM_snoc, hm.out]; simp [hx0]
        have h2 : (numOf x).isSome = false := by rw [hx0]; rfl
        have HN := Lib.hid hN; clear hN
        have H0 := Lib.hid hx0; clear hx0
        go_wp2_with fail
        refine (number_any B x _ (hT.below' hb hT.le) hxs).mono ?_
        rintro e w1 ⟨rfl, hb1⟩
        go_wp2_with fail
        go_ret2
        exact ⟨_, by rw [HN.out]; rfl, (fun ns h => by rw [HN.out] at h; cases h), (fun _ => rfl), hb.trans (hb1.mono hb.size)⟩
      | some n =>
        have h2 : (numOf x).isSome = true := by rw [hx0]; rfl
        have h3 : atoiN x = n := numOf_atoiN hx0
        have hm2 : (l.take (k + 1)).mapM numOf = some (ns ++ [n]) := by rw [Hx.out, mapM_snoc, hm.out]; simp [hx0]
        have HM := Lib.hid hm2; clear hm2
        have H0 := Lib.hid hx0; clear hx0
        have H3 := Lib.hid h3; clear h3
        go_wp2_with fail
        refine (number_any B x _ (hT.below' hb hT.le) hxs).mono ?_
        rintro e w1 ⟨rfl, hb1⟩
        rw [H3.out]
        have ho1 : Own encI 3 1 w.heap.size w1 _ ns := ho.below hb1
        have hb2 := hb.trans (hb1.mono hb.size)
        go_wp2_with (at_builtin; refine wpList_app rfl _ _ _ rfl w.heap.size elInt _ ns.length _ rfl (ho1.alloc _) (.slice (some ⟨w1.heap.size, 0, none⟩) 1 1) 1 (encI n) rfl (src_one rfl rfl (by simp [Value.oneCell'])) (by rw [Hlen.out]; unfold maxLen; omega) (by rw [Hlen.out]; omega) (by have := hb2.size; simp; omega) ?_; intro v' w2 hown hg _)
        go_roundw
        case rel => exact ⟨rfl, rfl, k + 1, ns ++ [n], by omega, by go_num, HM.out, Own.snoc hown, Bapp (hb2.alloc hb2.size _) (ho1.alloc _) hg (Nat.le_refl _) (by have := hb2.size; simp; omega)⟩
        case measure => simp [intOf]; omega
    · obtain rfl : k = l.length := by omega
      have hN : numsOf l = some ns := by have := hm.out; rwa [List.take_length] at this
      have HN := Lib.hid hN; clear hN
      go_wp2_with fail
      go_ret2
      exact ⟨_, by rw [HN.out]; rfl, (fun ms h => by rw [HN.out] at h; cases h; exact ho), (fun h => by rw [HN.out] at h; cases h), hb⟩
end Go.Proofs.YtpicofkmeijioaaGreatDoor
