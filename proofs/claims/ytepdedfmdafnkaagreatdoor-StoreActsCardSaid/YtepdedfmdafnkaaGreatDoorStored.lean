/- deedboxlaw2.stored: the walk. -/
import Derived.Test.YtepdedfmdafnkaaGreatDoorStorePut
import Derived.Test.YtepdedfmdafnkaaGreatDoorCoded
namespace Go.Proofs.YtepdedfmdafnkaaGreatDoor
open Go.RowKit Go.Maps

def nA : Str := [97, 47, 49]
def sA : St := ⟨[⟨nA, [120], 0⟩], [], 0, false, -1⟩
def sB : St := ⟨[⟨nA, [120], 0⟩], nA, 0, false, -1⟩
theorem putA : putE St.new nA [120] = .nil ∧ putS St.new nA [120] = sA := by decide
theorem putB : putE sA nA [121] = .bare 7 ∧ putS sA nA [121] = sA := by decide
theorem getA : ((getO sA.objs nA).map (·.text)).getD [] = [120] ∧ (getO sA.objs nA).isSome = true := by decide
theorem swapA : swapE sA [] nA = .nil ∧ swapS sA [] nA = sB := by decide
theorem coded7 : codedB (.bare 7) 7 = true := by decide

/-- What two worlds share below a block that neither store lies under. -/
theorem But2.under {sb mb B : Nat} {a b c : World} (h : Below B a b) (k : But2 sb mb b c) (h1 : B ≤ sb) (h2 : B ≤ mb) (hB : B ≤ b.heap.size) : Below B a c := k.below h h1 h2 hB

set_option maxRecDepth 20000 in
theorem stored_any (E : Nat → Addr) (B : Nat) (w : World) (hE : Errs allE E B w) (hA : AsVar w) (hgB : 12 < B) :
    Calls Tryz.prog 6 #[] w fun e w' => e = .returned (.bool true) ∧ Below w.heap.size w w' := by
  go_enter Tryz.func6, Tryz.ntmps6
  go_wp2_with fail
  refine (new_any _).mono ?_
  rintro e w1 ⟨sb, mb, rfl, h1, hsb, hmb, hb1⟩
  have hBw := hE.le
  go_wp2_with fail
  refine (put_any E B sb mb St.new nA [120] _ ((hE.sub (by decide)).below' hb1 hBw) h1 (by decide) (by decide) (by omega) (by omega)).mono ?_
  rintro e w2 ⟨ev2, rfl, hv2, h2, hb2⟩
  rw [putA.1] at hv2
  rw [putA.2] at h2
  obtain rfl : ev2 = .nilIface := hv2
  have hb2 := hb2.under hb1 hsb hmb hb1.size
  clear h1
  go_wp2_with fail
  refine (put_any E B sb mb sA nA [121] _ ((hE.sub (by decide)).below' hb2 hBw) h2 (by decide) (by decide) (by omega) (by omega)).mono ?_
  rintro e w3 ⟨ev3, rfl, hv3, h3, hb3⟩
  rw [putB.1] at hv3
  rw [putB.2] at h3
  have hb3 := hb3.under hb2 hsb hmb hb2.size
  clear h2
  go_wp2_with fail
  refine (get_any E B sb mb sA nA _ ((hE.sub (by decide)).below' hb3 hBw) h3 (by decide)).mono ?_
  rintro e w4 ⟨ev4, rfl, hv4, hb4⟩
  rw [getA.1]
  rw [getA.2] at hv4
  obtain rfl : ev4 = .nilIface := hv4
  have h4 := h3.below hb4
  have hv3 := hv3.below hb4
  have hb4 := hb3.trans (hb4.mono hb3.size)
  clear h3
  go_wp2_with fail
  refine (coded2_any E B (.bare 7) _ 7 _ (hE.below' hb4 hBw) (hA.below hb4 (by omega)) hv3).mono ?_
  rintro e w5 ⟨rfl, hb5⟩
  rw [coded7]
  have h5 := h4.below hb5
  have hb5 := hb4.trans (hb5.mono hb4.size)
  clear h4 hv3
  go_wp2_with fail
  refine (swap_any E B sb mb sA [] nA _ ((hE.sub (by decide)).below' hb5 hBw) h5 (by decide) (by omega) (by omega)).mono ?_
  rintro e w6 ⟨ev6, rfl, hv6, h6, hb6⟩
  rw [swapA.1] at hv6
  rw [swapA.2] at h6
  obtain rfl : ev6 = .nilIface := hv6
  have hb6 := hb6.under hb5 hsb hmb hb5.size
  clear h5
  go_wp2_with fail
  refine (head_any sb mb sB _ h6).mono ?_
  rintro e w7 ⟨rfl, rfl⟩
  go_wp2_with fail
  go_ret
  exact ⟨rfl, hb6⟩
end Go.Proofs.YtepdedfmdafnkaaGreatDoor
