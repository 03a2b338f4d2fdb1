/- store: Names: the keys, sorted. -/
import Derived.Test.YtepdedfmdafnkaaGreatDoorStoreGet
import Derived.Test.YtepdedfmdafnkaaGreatDoorIter
import Derived.Test.YtepdedfmdafnkaaGreatDoorOwnMore
import Derived.Sort.MapsRangeIn
import Derived.RangeFuncLeaves
import Derived.WalkKit
import Derived.OwnWalkIn
import Derived.TacticsInMore
import Derived.RegionIn
import Derived.LoopNIn
import Derived.LoopIn
namespace Go.Proofs.YtepdedfmdafnkaaGreatDoor
open Go.RowKit Go.Maps Go.Sort Go.Shelf

theorem mapsKeys (mb : Option Nat) (W : World) : CallsIn Fence.wide 5 Tryz.prog 49 #[.map mb] W fun e w' => e = .returned (.func (.func 78) #[] #[.pointer (some ⟨W.heap.size, 0, none⟩)]) ∧ w' = W.alloc (.cells #[.map mb] 76) :=
  AnyZ.keys_in Tryz.keysZ Fence.wide 5 trivial rfl mb W

theorem sortsZ (m : Nat) : AnyZ.SortsIn Tryz.prog Tryz.sortedZ_ren Fence.wide m :=
  ⟨fun blk off cap ss W hH hblk hsz => callsIn_wide.2 (AnyM.slices_Sort_string Tryz.sortM blk off cap ss W hH hblk hsz),
   fun p cap W => callsIn_wide.2 (AnyM.slices_Sort_string_none Tryz.sortM p cap W)⟩

set_option maxHeartbeats 1000000 in
theorem sortedKeys {H : Type} (b nn : Nat) (D0 : DataW H) (R : Value → Option (DataW H × List MemPlace)) (w : World) (hown : w.ownsMap Tryz.prog 9 R b nn D0) (hmax : Maps.size D0 ≤ maxLen) (hbytes : Maps.size D0 * 16 ≤ 140737488355328) :
    CallsIn Fence.wide 5 Tryz.prog 48 #[.func (.func 78) #[] #[.pointer (some ⟨w.heap.size, 0, none⟩)]] (w.alloc (.cells #[.map (some b)] 76)) fun e w' => ∃ (v : Value) (ss : List (List UInt8)), e = .returned v ∧ ss.Perm (strKeys D0) ∧
      w'.ownsRow (w.alloc (.cells #[.map (some b)] 76)).heap.size 9 1 v ss.length ((ss.mergeSort (fun x y => decide (x ≤ y))).map encStr) ∧ (v = .slice none 0 0 ↔ ss = []) ∧ Below (w.alloc (.cells #[.map (some b)] 76)).heap.size (w.alloc (.cells #[.map (some b)] 76)) w' := by
  have hbl := hown.lt
  have hseq : SeqGives Fence.wide 2 Tryz.prog 78 #[.pointer (some ⟨w.heap.size, 0, none⟩)] encStr (fun ss => ss.Perm (strKeys D0)) (Maps.size D0) (w.alloc (.cells #[.map (some b)] 76)) :=
    AnyZ.keys_gives (ρ := Tryz.keysZ_ren) { Tryz.keysZ with } Fence.wide _ trivial rfl (by omega) w.heap.size b nn D0 _ (by simp) (by simp) (by
      obtain ⟨es, clock, hb, Ft, hs, hD⟩ := hown
      exact ⟨es, clock, (Below.heap_alloc _ _ b hbl).trans hb, Ft, hs, hD⟩)
  exact AnyZ.sorted_in Tryz.sortedZ Fence.wide 5 trivial trivial trivial trivial rfl (by omega) (sortsZ _) (enters_of Tryz.func77 (by kernel_rfl) rfl) 78 #[.pointer (some ⟨w.heap.size, 0, none⟩)] trivial (enters_of Tryz.func78 (by kernel_rfl) rfl) _ _ hmax hbytes _ hseq

theorem bef_lt : ∀ {a b : Str}, bef a b = true → a < b
  | [], [], h => by cases h
  | [], _ :: _, _ => List.nil_lt_cons _ _
  | _ :: _, [], h => by cases h
  | a :: r, b :: s, h => by
    have h : (decide (a < b) || (a == b && bytesBefore r s)) = true := h
    rw [List.cons_lt_cons_iff]
    simp only [Bool.or_eq_true, Bool.and_eq_true, decide_eq_true_eq, beq_iff_eq] at h
    rcases h with h | ⟨h1, h2⟩
    · exact .inl h
    · exact .inr ⟨h1, bef_lt h2⟩
theorem ascending {l : List Ob} (h : Rising l) {ss : List Str} (hp : ss.Perm (l.map (·.name))) : ss.mergeSort (fun x y => decide (x ≤ y)) = l.map (·.name) := by
  refine (mergeSort_of_perm hp).trans ?_
  refine List.mergeSort_of_pairwise ?_
  exact List.pairwise_map.2 (h.imp fun {a b} hb => decide_eq_true (List.le_of_lt (bef_lt hb)))

set_option maxRecDepth 20000 in
set_option maxHeartbeats 1000000 in
theorem namesSt_any (sb mb : Nat) (s : St) (w : World) (h : StoreAt w sb mb s) :
    Calls Tryz.prog 21 #[stP sb] w fun e w' => ∃ v, e = .returned v ∧ Own encS 9 1 w.heap.size w' v (s.objs.map (·.name)) ∧ Below w.heap.size w w' := by
  have c0 := h.c0
  have hn := h.ok.num
  refine (callsIn_wide (n := 6)).1 ?_
  have hfK : Fence.wide.fn 49 := trivial
  have hfS : Fence.wide.fn 48 := trivial
  refine callsIn_of_wp Tryz.func21 rfl trivial ?_ rfl
  simp only [Tryz.ntmps21, List.size_toArray, List.length_cons, List.length_nil, Nat.reduceAdd, Nat.reduceSub, Array.replicate_succ, Array.replicate_zero, List.push_toArray, List.append_toArray, List.nil_append, List.cons_append]
  gi_wp2_with (first
    | (gi_at_call 49; refine (mapsKeys _ _).mono ?_; rintro e w' ⟨rfl, rfl⟩)
    | (gi_at_call 48; refine (sortedKeys mb s.objs.length (mapD s.objs) objElem w h.own (by rw [size_mapD]; unfold maxLen; omega) (by rw [size_mapD]; omega)).mono ?_; rintro e w' ⟨v, ss, rfl, hS, hrow, hnil, hb⟩))
  go_ret
  rw [keys_mapD] at hS
  rw [ascending h.ok.ris hS] at hrow
  have hlen : ss.length = (s.objs.map (·.name)).length := hS.length_eq
  refine ⟨_, rfl, ?_, ((Below.refl _ w).alloc (Nat.le_refl _) _).trans (hb.mono (by simp))⟩
  unfold Own
  have hf : (s.objs.map (·.name)).flatMap encS = (s.objs.map (·.name)).map encStr := flat_one _ _
  rw [hf, ← hlen]
  exact ownsRow_base_a hrow (by simp)
end Go.Proofs.YtepdedfmdafnkaaGreatDoor
