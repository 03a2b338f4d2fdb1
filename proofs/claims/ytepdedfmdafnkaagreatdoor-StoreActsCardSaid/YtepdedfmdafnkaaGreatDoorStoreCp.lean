/- store: Copy, by maps.Clone. -/
import Derived.Test.YtepdedfmdafnkaaGreatDoorStoreEq
namespace Go.Proofs.YtepdedfmdafnkaaGreatDoor
open Go.RowKit Go.Maps Go.Sort

theorem cell_al {w : World} {o : Obj} {a : Addr} {v : Value} (h : w.cell? a = some v) : (w.alloc o).cell? a = some v := (((Below.refl _ w).alloc (Nat.le_refl _) o).cell (World.block_lt_of_cell? w a h)).trans h

theorem cloneMap (b n : Nat) (l : List Ob) (w : World) (h : w.ownsMap Tryz.prog 9 objElem b n (mapD l)) :
    Calls Tryz.prog 43 #[.map (some b)] w fun e w' => e = .returned (.map (some w.heap.size)) ∧ w'.ownsMap Tryz.prog 9 objElem w.heap.size n (mapD l) ∧ Below w.heap.size w w' :=
  Calls.mono (AnyW.maps_Clone_owns Tryz.cloneW 9 objElem b n (mapD l) w h) fun _ _ ⟨h1, h2, _, h3⟩ => ⟨h1, h2, h3⟩

set_option maxRecDepth 20000 in
set_option maxHeartbeats 2000000 in
theorem copy_any (sb mb : Nat) (s : St) (w : World) (h : StoreAt w sb mb s) :
    Calls Tryz.prog 9 #[stP sb] w fun e w' => ∃ sb' mb', e = .returned (stP sb') ∧ w.heap.size ≤ sb' ∧ w.heap.size ≤ mb' ∧ StoreAt w' sb' mb' s ∧ Below w.heap.size w w' := by
  have c0 := h.c0; have c1 := h.c1; have c2 := h.c2; have c3 := h.c3; have c4 := h.c4
  have H := Lib.hid h; clear h
  have A0 := Lib.hid (H.out.below (Bdn (Below.refl w.heap.size w) 1))
  go_enter Tryz.func9, Tryz.ntmps9
  go_wp2_with fail
  go_region_held3 (fun w' => w'.cell? ⟨sb, 0, none⟩ = some (.map (some mb)) ∧ w'.cell? ⟨sb, 1, none⟩ = some (S s.head) ∧ w'.cell? ⟨sb, 2, none⟩ = some (.int .i64 s.day) ∧ w'.cell? ⟨sb, 3, none⟩ = some (.bool s.off) ∧ w'.cell? ⟨sb, 4, none⟩ = some (.int .i64 s.cut)) (first | exact ⟨c0, c1, c2, c3, c4⟩ | exact ⟨cell_al c0, cell_al c1, cell_al c2, cell_al c3, cell_al c4⟩) (first | (go_at_call 43; refine (cloneMap mb s.objs.length s.objs _ A0.out.own).mono ?_; rintro e w1 ⟨rfl, ho1, hb1⟩; have A1 := A0.out.below hb1; clear c0 c1 c2 c3 c4; have c0 := A1.c0; have c1 := A1.c1; have c2 := A1.c2; have c3 := A1.c3; have c4 := A1.c4; have HO := Lib.hid ho1; have HBB := Lib.hid (Below.trans (Bdn (Below.refl w.heap.size w) 1) hb1); clear A1 ho1 hb1))
  all_goals
    go_wp2_with fail
    go_ret
    have HB := HBB.out
    have ho : w1.ownsMap Tryz.prog 9 objElem w.heap.size s.objs.length (mapD s.objs) := HO.out
    exact ⟨_, _, rfl, HB.size, Nat.le_refl _, ⟨heap_alloc_new w1 _, ho.alloc _, H.out.ok⟩, HB.alloc HB.size _⟩
end Go.Proofs.YtepdedfmdafnkaaGreatDoor
