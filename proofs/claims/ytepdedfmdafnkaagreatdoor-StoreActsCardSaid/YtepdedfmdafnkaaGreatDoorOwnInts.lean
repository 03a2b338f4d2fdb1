/- deedboxlaw2.OwnInts; the types' facts for ints and texts. -/
import Derived.Test.YtepdedfmdafnkaaGreatDoorRefInts
import Derived.Test.YtepdedfmdafnkaaGreatDoorApp
namespace Go.Proofs.YtepdedfmdafnkaaGreatDoor
open Go.RowKit

theorem elInt : ElemInfo Tryz.prog 55 3 1 8 := elemInfo_of Tryz.underlying55 (z := .int .i64 0) (by kernel_rfl) rfl (by decide)
theorem elStr : ElemInfo Tryz.prog 41 9 1 16 := elemInfo_of Tryz.underlying41 (z := .string ByteArray.empty) (by kernel_rfl) rfl (by decide)

theorem ownInts_any (v : Value) (l : List Int) (w : World) (hl : IntsAt w v l) (hn : l.length ≤ 100000) :
    Calls Tryz.prog 30 #[v] w fun e w' => ∃ v', e = .returned v' ∧ Own encI 3 1 w.heap.size w' v' l ∧ Below w.heap.size w w' := by
  have hs := hl.src encI_enc (by decide)
  go_enter Tryz.func30, Tryz.ntmps30
  go_wp2_with (at_builtin; refine wpList_app rfl _ _ _ rfl w.heap.size elInt (.slice none 0 0) 0 [] rfl (Own.nil encI _ 1 _ _) _ _ _ rfl hs (by unfold maxLen; omega) (by omega) (Nat.le_refl _) ?_; intro v' w1 hown hg _)
  go_ret
  exact ⟨_, rfl, by simpa [Own] using hown, (Below.refl _ _).grown hg (Nat.le_refl _) (fun k hk => by cases hk)⟩
end Go.Proofs.YtepdedfmdafnkaaGreatDoor
