/- file.Text; list.Text. snap.Text: the walk. slices.Clone, Delete at []api.File. DERIVED: THE SHELF's CONTRACTS AT THIS DUMP, IN PLAIN WORDS (tools/lay-plain.mjs out of 'TryzGrow.lean', which tools/lay-shelf.mjs wrote): THE SAME DECLARATIONS UNDER THE SAME NAMES: 'import', 'namespace', 'open', 'def', 'theorem' AND NOTHING ELSE: no command of the shelf's: FOR A HAND-IN. Each laying: the table of numbers ('.._ren') and one theorem, a field a fact of the dump's own or the kernel's comparison; each contract: ONE APPLICATION. slices.Grow at the nil slice of texts, slices.Concat of two slices of texts; strings.Cut by one byte. -/
import Derived.Test.YtikboodjfanjkaaGreatDoorBx3
import Derived.Test.YtikboodjfanjkaaGreatDoorBx5
import Derived.Test.YtikboodjfanjkaaGreatDoorBx6
import Derived.Deep.RegionHeld3
import Derived.Test.YtikboodjfanjkaaGreatDoorBx4
import Derived.Lib.AppendZeros
import Derived.Deep.RegionLaw
import Derived.Shelf.Spec.SlicesGrow
import Derived.Test.YtikboodjfanjkaaGreatDoorProg
namespace Go.Proofs.YtikboodjfanjkaaGreatDoor
open Go.RowKit
attribute [local go_sem] bapp

theorem numsTail_snoc (l : List Int) (x : Int) : numsTail (l ++ [x]) = numsTail l ++ 32 :: Lib.itoa x := by simp [numsTail]
theorem numsTail_len (l : List Int) (h : ∀ x ∈ l, -9223372036854775808 ≤ x ∧ x ≤ 9223372036854775807) : (numsTail l).length ≤ l.length * 22 := by
  induction l with
  | nil => simp [numsTail]
  | cons x r ih =>
    have h1 := h x (by simp)
    have h2 := itoa_len x (by omega) (by omega)
    have h3 := ih fun y hy => h y (by simp [hy])
    simp only [numsTail, List.flatMap_cons, List.length_append, List.length_cons] at h3 ⊢
    omega

theorem cat_run (a b : ByteArray) (n m : Nat) (ha : a.size = n) (hb : b.size = m) (h : n + m ≤ 1000000) : ∀ w, (Op.stringOp .add a b).run Tryz.prog w = .ok (.string (a ++ b)) w := fun w => run_string_add_sum w a b (by omega)
set_option maxHeartbeats 1000000 in
set_option maxRecDepth 20000 in
theorem fileText_any (E : Nat → Addr) (B : Nat) (f : Fl) (w : World) (hE : Errs [2, 4, 5] E B w) (hT : LNum B w) (hM : LMax B w) (hs : midF f) :
    Calls Tryz.prog 93 #[fileV f] w fun e w' => e = .returned (S (fileText f)) ∧ Below w.heap.size w w' := by
  have hBw := hE.le
  have hb0 : Below w.heap.size w (w.alloc (.cells #[S f.path, S f.part, .int .i64 f.n, .int .i64 f.lo, .int .i64 f.hi, .int .i64 f.seq] 50)) := (Below.refl _ _).alloc (Nat.le_refl _) _
  have Cs := Lib.hid (fun w6 (h : Below (w.alloc (.cells #[S f.path, S f.part, .int .i64 f.n, .int .i64 f.lo, .int .i64 f.hi, .int .i64 f.seq] 50)).heap.size (w.alloc (.cells #[S f.path, S f.part, .int .i64 f.n, .int .i64 f.lo, .int .i64 f.hi, .int .i64 f.seq] 50)) w6) => fileCells rfl h)
  have hE1 := hE.below' hb0 hE.le; have hT1 := hT.below' hb0 hE.le; have hM1 := hM.below' hb0 hE.le
  obtain ⟨c0, c1, c2, c3, c4, c5⟩ := Cs.out _ (Below.refl _ _)
  go_enter Tryz.func93, Tryz.ntmps93
  go_wp2_with fail
  generalize w.alloc (.cells #[S f.path, S f.part, .int .i64 f.n, .int .i64 f.lo, .int .i64 f.hi, .int .i64 f.seq] 50) = w1 at *
  refine (fileCheck_any E B f _ hE1 hT1 hM1 hs).mono ?_
  rintro e w2 ⟨ev, rfl, hev, hb2⟩
  clear c0 c1 c2 c3 c4 c5
  have hb2' := hb0.trans (hb2.mono hb0.size)
  by_cases hck : checkF f = 0
  case neg =>
    have HF : Hid (fileText f = []) := Lib.hid (if_neg hck)
    rw [fileEr_bad rfl hck] at hev
    obtain ⟨hcr, rfl⟩ := hev
    have HK := Lib.hid hck; clear hck
    go_wp2_with fail
    go_ret
    exact ⟨by rw [HF.out]; rfl, hb2'⟩
  have HF : Hid (fileText f = fileLine f) := Lib.hid (if_pos hck)
  rw [fileEr_nil hck] at hev
  obtain rfl : ev = .nilIface := hev
  have hbd : ∀ x ∈ [f.n, f.lo, f.hi, f.seq], -9223372036854775808 ≤ x ∧ x ≤ 9223372036854775807 := by
    obtain ⟨-, -, -, -, h⟩ := checkF_zero hck
    unfold boundF farN at h
    intro x hx
    simp only [List.mem_cons, List.mem_nil_iff, or_false] at hx
    rcases hx with rfl | rfl | rfl | rfl <;> omega
  have HB := Lib.hid hbd; clear hbd
  have HK := Lib.hid hck; clear hck
  obtain ⟨c0, c1, c2, c3, c4, c5⟩ := Cs.out w2 hb2
  have hl1 := hs.1
  have hl2 := hs.2
  have hil := ints_new [f.n, f.lo, f.hi, f.seq] w2 3 _ 4 #[.int .i64 f.n, .int .i64 f.lo, .int .i64 f.hi, .int .i64 f.seq] rfl rfl rfl (by decide)
  have hb3 := hb2'.alloc hb2'.size (.cells #[.int .i64 f.n, .int .i64 f.lo, .int .i64 f.hi, .int .i64 f.seq] 3)
  go_wp2_with fail
  generalize w2.alloc (.cells #[.int .i64 f.n, .int .i64 f.lo, .int .i64 f.hi, .int .i64 f.seq] 3) = w3 at *
  have hT3 := hT.below' hb3 hBw
  obtain ⟨a, c, b, o, hv, ha, hc, hcm, hx⟩ := hil
  simp only [Value.slice.injEq] at hv
  obtain ⟨rfl, -, rfl⟩ := hv
  have hp0 : [f.n, f.lo, f.hi, f.seq].length = 4 := rfl
  have hab := ha (by simp)
  simp only [Option.some.injEq, Addr.mk.injEq, and_true] at hab
  obtain ⟨rfl, rfl⟩ := hab
  have HL : Hid (fileLine f = f.path ++ 32 :: (f.part ++ numsTail [f.n, f.lo, f.hi, f.seq])) := Lib.hid (by simp [fileLine])
  generalize [f.n, f.lo, f.hi, f.seq] = l at *
  go_loopw [3, 25] (fun s i wr => ∃ k : Nat, k ≤ l.length ∧ i = .int .i64 k ∧ s = S ((f.path ++ 32 :: f.part) ++ numsTail (l.take k)) ∧ Below w3.heap.size w3 wr) (fun _ i _ => l.length - (intOf i).toNat)
  case atStart => exact ⟨0, by omega, rfl, by simp [numsTail], Below.refl _ _⟩
  case round =>
    obtain ⟨k, hk, rfl, rfl, hb⟩ := hrel
    have hl4 := numsTail_len (l.take k) (fun y hy => HB.out y (List.mem_of_mem_take hy))
    have hl5 : (l.take k).length ≤ 4 := by rw [List.length_take]; omega
    have hl6 : (numsTail (l.take k)).length ≤ 88 := by omega
    clear hl4 hl5
    by_cases hlt : k < l.length
    case neg =>
      obtain rfl : k = l.length := by omega
      rw [List.take_length] at hl6 ⊢
      rw [hp0]
      go_wp2_with fail
      go_ret
      exact ⟨by rw [HF.out, HL.out]; rfl, hb3.trans (hb.mono hb3.size)⟩
    obtain ⟨x, hxk⟩ := get_ex hlt
    have c1 := hx k x hxk 0 _ rfl
    have c1 := (hb.cell (World.block_lt_of_cell? w3 _ c1)).trans c1
    have i1 := idx_at (c := 4) 1 Tryz.underlying33 szInt ha k hlt
    have hk1 : (k : Int) < (l.length : Int) := by omega
    simp only [Nat.mul_one, Nat.add_zero, Nat.zero_add] at c1 i1
    rw [hp0] at hk1 i1
    obtain ⟨h1, h2⟩ := HB.out x (List.mem_of_getElem? hxk)
    have hsn := take_snoc' hxk
    have hl1 := itoa_len x h1 h2
    have Hx := Lib.hid hsn; clear hsn hxk
    go_wp2_with fail
    refine (itoa_any B x h1 h2 _ (hT3.below' hb hT3.le)).mono ?_
    rintro e w4 ⟨rfl, hb4⟩
    go_wp2_with fail
    go_roundw
    case rel => exact ⟨k + 1, by omega, by go_num, by rw [Hx.out, numsTail_snoc]; simp, hb.trans (hb4.mono hb.size)⟩
    case measure => simp [intOf]; omega

theorem BldAt.below {B b : Nat} {s : Str} {w w' : World} (h : BldAt B b s w) (hb : Below w.heap.size w w') : BldAt B b s w' := by
  have one : ∀ p, Lib.BuilderAt 136 5 B b p (Lib.byteCells s) w → Lib.BuilderAt 136 5 B b p (Lib.byteCells s) w' := fun p h => by
    have hlt := h.lt
    obtain ⟨h1, v, h2, h3, h4⟩ := h
    exact ⟨h1, v, (hb.block b hlt).trans h2, World.ownsRow.kept h3 (row := none) ⟨hb.os, hb.tape, hb.output, hb.size, fun k hk _ => hb.block k hk⟩ (by cases v.ownBlock <;> simp), h4⟩
  exact h.elim (fun h => .inl (one _ h)) (fun h => .inr (one _ h))
def listTextR (l : List Fl) : Str := if listCheck l = .nil then listText l else []
set_option maxHeartbeats 1000000 in
set_option maxRecDepth 20000 in
theorem listText_any (E : Nat → Addr) (B : Nat) (v : Value) (l : List Fl) (w : World) (hE : Errs [2, 4, 5, 8, 9] E B w) (hT : LNum B w) (hM : LMax B w) (hl : FilesAt w v l) (hs : ∀ x ∈ l, midF x) :
    Calls Tryz.prog 32 #[v] w fun e w' => ∃ ev, e = .returned (.tuple #[S (listTextR l), ev]) ∧ ErV E w' ev (listCheck l) ∧ Below w.heap.size w w' := by
  have hBw := hE.le
  have hif := isIfaceE
  obtain ⟨a, c, b, o, rfl, ha, hc, hcm, hx⟩ := hl
  have hl : FilesAt w (.slice a l.length c) l := ⟨a, c, b, o, rfl, ha, hc, hcm, hx⟩
  unfold maxLen at hcm
  go_enter Tryz.func32, Tryz.ntmps32
  go_wp2_with fail
  refine (listCheck_any E B _ l _ hE hT hM hl hs).mono ?_
  rintro e w2 ⟨ev, rfl, hev, hb2⟩
  by_cases hck : listCheck l = .nil
  case neg =>
    have HL : Hid (listTextR l = []) := Lib.hid (if_neg hck)
    obtain ⟨u, x, rfl⟩ := hev.iface hck
    have He := Lib.hid hev; clear hev hck
    go_wp2_with fail
    go_ret2
    exact ⟨_, by rw [HL.out]; rfl, He.out, hb2⟩
  rw [hck] at hev
  obtain rfl : ev = .nilIface := hev
  have HC := Lib.hid hck
  have HL : Hid (listTextR l = listText l) := Lib.hid (if_pos hck)
  have HR := Lib.hid ((right_iff l).1 hck); clear hck
  have hb0 : BldAt w2.heap.size w2.heap.size [] (w2.alloc (.cells #[.pointer none, .slice none 0 0] 136)) := Lib.fresh_isBuilder 136 5 w2
  have hba : Below w2.heap.size w2 (w2.alloc (.cells #[.pointer none, .slice none 0 0] 136)) := (Below.refl _ _).alloc (Nat.le_refl _) _
  have hE2 := hE.below' hb2 hBw; have hT2 := hT.below' hb2 hBw; have hM2 := hM.below' hb2 hBw
  have hx2 : ∀ (k : Nat) (x : Fl), l[k]? = some x → ∀ (j : Nat) (u : Value), (encF x)[j]? = some u → w2.cell? ⟨b, o + k * 6 + j, none⟩ = some u := fun k x hk j u hu => (hb2.cell (World.block_lt_of_cell? w _ (hx k x hk j u hu))).trans (hx k x hk j u hu)
  have Hs := Lib.hid hs
  clear hx hl hs
  go_wp2_with fail
  go_loopw [15] (fun i wr => ∃ k : Nat, k ≤ l.length ∧ i = .int .i64 k ∧ Hid (BldAt w2.heap.size w2.heap.size (listText (l.take k)) wr) ∧ Below w2.heap.size w2 wr) (fun i _ => l.length - (intOf i).toNat)
  case atStart => exact ⟨0, by omega, rfl, Lib.hid hb0, hba⟩
  case round =>
    obtain ⟨k, hk, rfl, hbl, hb⟩ := hrel
    by_cases hlt : k < l.length
    case neg =>
      obtain rfl : k = l.length := by omega
      have hbS := bldString_any _ _ _ _ hbl.out hb.size
      rw [List.take_length] at hbS
      have HS := Lib.hid hbS; clear hbS
      go_wp2_with fail
      refine HS.out.mono ?_
      rintro e w3 ⟨rfl, hb3⟩
      go_wp2_with fail
      go_ret2
      exact ⟨_, by rw [HL.out]; rfl, by rw [HC.out]; rfl, hb2.trans ((hb.trans hb3).mono hb2.size)⟩
    obtain ⟨x, hxk⟩ := get_ex hlt
    obtain ⟨c0, c1, c2, c3, c4, c5⟩ := flCells hx2 hb hxk
    have i1 := idx_at (c := c) 6 Tryz.underlying28 szFl ha k hlt
    have hk1 : (k : Int) < (l.length : Int) := by omega
    have hsx := Hs.out x (List.mem_of_getElem? hxk)
    have hckx := HR.out.ok x (List.mem_of_getElem? hxk)
    have hft : fileText x = fileLine x := if_pos hckx
    have hfl := fileLine_len hckx
    have hll := listText_len (l := l.take k) (fun f hf => HR.out.ok f (List.mem_of_mem_take hf))
    have hln := HR.out.len
    have hlm : (listText (l.take k)).length ≤ 10000 := by rw [List.length_take] at hll; omega
    have hsn := take_snoc' hxk
    have Hx := Lib.hid hsn; clear hsn hxk hll hckx
    have hb0 : Below w2.heap.size w2 (wr.alloc (.cells #[S x.path, S x.part, .int .i64 x.n, .int .i64 x.lo, .int .i64 x.hi, .int .i64 x.seq] 50)) := hb.alloc hb.size _
    have hb0' : Below wr.heap.size wr (wr.alloc (.cells #[S x.path, S x.part, .int .i64 x.n, .int .i64 x.lo, .int .i64 x.hi, .int .i64 x.seq] 50)) := (Below.refl _ _).alloc (Nat.le_refl _) _
    go_wp2_with fail
    generalize wr.alloc (.cells #[S x.path, S x.part, .int .i64 x.n, .int .i64 x.lo, .int .i64 x.hi, .int .i64 x.seq] 50) = w3 at *
    refine (fileText_any E B x _ ((hE2.sub (by decide)).below' hb0 hE2.le) (hT2.below' hb0 hE2.le) (hM2.below' hb0 hE2.le) hsx).mono ?_
    rintro e w4 ⟨rfl, hb4⟩
    rw [hft]
    have hb4' := hb0.trans (hb4.mono hb0.size)
    have hw := bldWrite_any w2.heap.size w2.heap.size (listText (l.take k)) (fileLine x ++ [10]) w4 ((hbl.out.below hb0').below hb4) (by simp; omega) hb4'.size
    generalize hTe : listText (l.take k) = T at *
    generalize hXe : fileLine x = X at *
    have HTe := Lib.hid hTe; have HXe := Lib.hid hXe; clear hTe hXe
    have HW := Lib.hid hw; clear hw
    clear c0 c1 c2 c3 c4 c5 i1
    go_wp2_with fail
    refine HW.out.mono ?_
    rintro e w5 ⟨rfl, hbl5, hb5⟩
    have HB5 := Lib.hid hbl5; clear hbl5
    go_wp2_with fail
    go_roundw
    case rel => exact ⟨k + 1, by omega, by go_num, Lib.hid (by rw [Hx.out, listText_snoc, HTe.out, HXe.out]; exact HB5.out), hb4'.trans hb5⟩
    case measure => simp [intOf]; omega
end Go.Proofs.YtikboodjfanjkaaGreatDoor
namespace Go.Proofs.YtikboodjfanjkaaGreatDoor
open Go.RowKit

def snapTextR (s : Sn) : Str := if snapCheck s = .nil then snapText s else []
theorem seven_ints (h : Int → Prop) (a b c d e : Int) (ha : h a) (hb : h b) (hc : h c) (hd : h d) (he : h e) : ∀ x ∈ [a, b, c, d, e], h x := by
  intro x hx
  simp only [List.mem_cons, List.not_mem_nil, or_false] at hx
  rcases hx with rfl | rfl | rfl | rfl | rfl <;> assumption

set_option maxHeartbeats 1000000 in
set_option maxRecDepth 20000 in
theorem snapText_any (E : Nat → Addr) (B : Nat) (s : Sn) (v : Value) (w : World) (hE : Errs [2, 4, 5, 8, 9] E B w) (hT : LNum B w) (hM : LMax B w) (hl : FilesAt w v s.files) (hs : ∀ x ∈ s.files, midF x) :
    Calls Tryz.prog 49 #[snapV s v] w fun e w' => ∃ ev, e = .returned (.tuple #[S (snapTextR s), ev]) ∧ ErV E w' ev (snapCheck s) ∧ Below w.heap.size w w' := by
  have hBw := hE.le
  have hif := isIfaceE
  have Hs := Lib.hid hs; clear hs
  have hb0 : Below w.heap.size w (w.alloc (.cells #[.int .i64 s.id, .int .i64 s.parent, .int .i64 s.seq, .int .i64 s.day, .int .i64 s.index, S s.op, v] 30)) := (Below.refl _ _).alloc (Nat.le_refl _) _
  have CS := Lib.hid (fun w6 (h : Below (w.alloc (.cells #[.int .i64 s.id, .int .i64 s.parent, .int .i64 s.seq, .int .i64 s.day, .int .i64 s.index, S s.op, v] 30)).heap.size (w.alloc (.cells #[.int .i64 s.id, .int .i64 s.parent, .int .i64 s.seq, .int .i64 s.day, .int .i64 s.index, S s.op, v] 30)) w6) => snapCells h)
  obtain ⟨c0, c1, c2, c3, c4, c5, c6⟩ := CS.out _ (Below.refl _ _)
  go_enter Tryz.func49, Tryz.ntmps49
  go_wp2_with fail
  generalize w.alloc (.cells #[.int .i64 s.id, .int .i64 s.parent, .int .i64 s.seq, .int .i64 s.day, .int .i64 s.index, S s.op, v] 30) = w0 at *
  refine (snapCheck_any E B s v w0 (hE.below' hb0 hBw) (hT.below' hb0 hBw) (hM.below' hb0 hBw) (hl.below hb0) Hs.out).mono ?_
  rintro e w1 ⟨ev, rfl, hev, hb1⟩
  have hb1' := hb0.trans (hb1.mono hb0.size)
  clear c0 c1 c2 c3 c4 c5 c6
  by_cases hck : snapCheck s = .nil
  case neg =>
    obtain ⟨u, x, rfl⟩ := hev.iface hck
    have HF : Hid (snapTextR s = []) := Lib.hid (if_neg hck)
    have HEv := Lib.hid hev
    clear hck hev
    go_wp2_with fail
    go_ret2
    exact ⟨_, by rw [HF.out]; rfl, HEv.out, hb1'⟩
  have hr := (snap_iff s).1 hck
  have HF : Hid (snapTextR s = snapText s) := Lib.hid (if_pos hck)
  rw [hck] at hev
  obtain rfl : ev = .nilIface := hev
  have HCk := Lib.hid hck; clear hck
  obtain ⟨c0, c1, c2, c3, c4, c5, c6⟩ := CS.out _ hb1
  have hlc := (right_iff _).2 hr.lst
  have hlt : listTextR s.files = listText s.files := if_pos hlc
  have hT2 := listText_any E B v s.files w1 (hE.below' hb1' hBw) (hT.below' hb1' hBw) (hM.below' hb1' hBw) (hl.below hb1') Hs.out
  rw [hlc, hlt] at hT2
  have HT2 := Lib.hid hT2
  clear hT2 hlt hlc
  have hbl := text_len hr
  have hopl := (op_sign hr.op).2
  obtain ⟨a1, a2, a3, a4, a5⟩ := hr.nums
  have HR := Lib.hid hr; clear hr
  go_wp2_with fail
  refine HT2.out.mono ?_
  rintro e w2 ⟨ev, rfl, hev, hb2⟩
  obtain rfl : ev = .nilIface := hev
  have hb2' := hb1'.trans (hb2.mono hb1'.size)
  have hb02 := hb1.trans (hb2.mono hb1.size)
  clear c0 c1 c2 c3 c4 c5 c6 HT2
  obtain ⟨c0, c1, c2, c3, c4, c5, c6⟩ := CS.out _ hb02
  obtain ⟨body, hbody⟩ : ∃ b, listText s.files = b := ⟨_, rfl⟩
  have HX : Hid (snapText s = kSnap ++ (numsTail [s.id, s.parent, s.seq, s.day, s.index] ++ 32 :: (s.op ++ 32 :: Lib.itoa (sumOf body))) ++ 10 :: body) := Lib.hid (by rw [← hbody]; rfl)
  rw [hbody] at hbl ⊢
  clear hbody
  have hbd : ∀ x ∈ [s.id, s.parent, s.seq, s.day, s.index], -9223372036854775808 ≤ x ∧ x ≤ 9223372036854775807 := seven_ints _ _ _ _ _ _ (by omega) (by omega) (by omega) (by omega) (by omega)
  have HB := Lib.hid hbd; clear hbd a1 a2 a3 a4 a5
  have hil := ints_new [s.id, s.parent, s.seq, s.day, s.index] w2 3 _ 5 #[.int .i64 s.id, .int .i64 s.parent, .int .i64 s.seq, .int .i64 s.day, .int .i64 s.index] rfl rfl rfl (by decide)
  have hb3 := hb2'.alloc hb2'.size (.cells #[.int .i64 s.id, .int .i64 s.parent, .int .i64 s.seq, .int .i64 s.day, .int .i64 s.index] 3)
  have hb03 := hb02.alloc hb02.size (.cells #[.int .i64 s.id, .int .i64 s.parent, .int .i64 s.seq, .int .i64 s.day, .int .i64 s.index] 3)
  go_wp2_with fail
  clear c0 c1 c2 c3 c4 c5 c6
  generalize w2.alloc (.cells #[.int .i64 s.id, .int .i64 s.parent, .int .i64 s.seq, .int .i64 s.day, .int .i64 s.index] 3) = w3 at *
  have hT3 := hT.below' hb3 hBw
  obtain ⟨a, c, b, o, hv, ha, hc, hcm, hx⟩ := hil
  simp only [Value.slice.injEq] at hv
  obtain ⟨rfl, -, rfl⟩ := hv
  have hp0 : [s.id, s.parent, s.seq, s.day, s.index].length = 5 := rfl
  have hab := ha (by simp)
  simp only [Option.some.injEq, Addr.mk.injEq, and_true] at hab
  obtain ⟨rfl, rfl⟩ := hab
  generalize [s.id, s.parent, s.seq, s.day, s.index] = l at *
  go_loopw [7, 36] (fun t i wr => ∃ k : Nat, k ≤ l.length ∧ i = .int .i64 k ∧ t = S (kSnap ++ numsTail (l.take k)) ∧ Below w3.heap.size w3 wr) (fun _ i _ => l.length - (intOf i).toNat)
  case atStart => exact ⟨0, by omega, rfl, by simp [numsTail], Below.refl _ _⟩
  case round =>
    obtain ⟨k, hk, rfl, rfl, hb⟩ := hrel
    have hl4 := numsTail_len (l.take k) (fun y hy => HB.out y (List.mem_of_mem_take hy))
    have hl5 : (l.take k).length ≤ 5 := by rw [List.length_take]; omega
    have hl6 : (numsTail (l.take k)).length ≤ 110 := by omega
    clear hl4 hl5
    by_cases hlt : k < l.length
    case neg =>
      obtain rfl : k = l.length := by omega
      rw [List.take_length] at hl6 ⊢
      rw [hp0]
      have hb0r := hb03.trans (hb.mono hb03.size)
      have hbr := hb3.trans (hb.mono hb3.size)
      have k5 := (CS.out _ (hb0r.drew)).2.2.2.2.2.1
      have hsl := sumOf_lt body
      have hw6 : IntKind.u64.wrap ((sumOf body : Nat) : Int) = (sumOf body : Nat) := by rw [IntKind.wrap_u64]; omega
      have hbrd := hbr.drew
      have hsm := fun W => sum_any body W (by omega)
      generalize sumOf body = sb at *
      have HSm := Lib.hid hsm; clear hsm
      have hsl2 := itoa_len sb (by omega) (by omega)
      obtain ⟨tx, htx⟩ : ∃ tx, Lib.itoa sb = tx := ⟨_, rfl⟩
      obtain ⟨hd, hhd⟩ : ∃ hd, kSnap ++ numsTail l = hd := ⟨_, rfl⟩
      have hhl : hd.length ≤ 120 := by rw [← hhd, List.length_append]; simp; omega
      rw [htx] at hsl2
      have r1 := cat_run ⟨hd.toArray⟩ ⟨#[32]⟩ hd.length 1 rfl rfl (by omega)
      have r2 := cat_run (⟨hd.toArray⟩ ++ ⟨#[32]⟩) ⟨s.op.toArray⟩ (hd.length + 1) s.op.length (by simp only [ByteArray.size_append]; rfl) rfl (by omega)
      have r3 := cat_run (⟨hd.toArray⟩ ++ ⟨#[32]⟩ ++ ⟨s.op.toArray⟩) ⟨#[32]⟩ (hd.length + 1 + s.op.length) 1 (by simp only [ByteArray.size_append]; rfl) rfl (by omega)
      have r4 := cat_run (⟨hd.toArray⟩ ++ ⟨#[32]⟩ ++ ⟨s.op.toArray⟩ ++ ⟨#[32]⟩) ⟨tx.toArray⟩ (hd.length + 1 + s.op.length + 1) tx.length (by simp only [ByteArray.size_append]; rfl) rfl (by omega)
      have r5 := cat_run (⟨hd.toArray⟩ ++ ⟨#[32]⟩ ++ ⟨s.op.toArray⟩ ++ ⟨#[32]⟩ ++ ⟨tx.toArray⟩) ⟨#[10]⟩ (hd.length + 1 + s.op.length + 1 + tx.length) 1 (by simp only [ByteArray.size_append]; rfl) rfl (by omega)
      have r6 := cat_run (⟨hd.toArray⟩ ++ ⟨#[32]⟩ ++ ⟨s.op.toArray⟩ ++ ⟨#[32]⟩ ++ ⟨tx.toArray⟩ ++ ⟨#[10]⟩) ⟨body.toArray⟩ (hd.length + 1 + s.op.length + 1 + tx.length + 1) body.length (by simp only [ByteArray.size_append]; rfl) rfl (by omega)
      have HS6 : Hid ((⟨hd.toArray⟩ : ByteArray) ++ ⟨#[32]⟩ ++ ⟨s.op.toArray⟩ ++ ⟨#[32]⟩ ++ ⟨tx.toArray⟩ ++ ⟨#[10]⟩ ++ ⟨body.toArray⟩ = ⟨(kSnap ++ (numsTail l ++ 32 :: (s.op ++ 32 :: Lib.itoa sb)) ++ 10 :: body).toArray⟩) := Lib.hid (by rw [← htx]; rw [← List.append_assoc kSnap, hhd]; apply ByteArray.ext; simp)
      have HTx := Lib.hid htx
      rw [hhd]
      clear htx hhd
      go_wp2_with fail
      go_region_held3 (fun w' => w'.cell? ⟨w.heap.size, 5, none⟩ = some (S s.op)) (exact k5) (first | (go_at_call 116; refine (HSm.out _).mono ?_; rintro e w6 ⟨rfl, hb6⟩; have k5' := (hb6.cell (World.block_lt_of_cell? _ _ k5)).trans k5; clear k5; have k5 := k5'; clear k5') | (go_at_call 115; refine (formatUint_any B sb (by omega) _ (hT.below' (hbrd.trans (hb6.mono hbrd.size)) hBw)).mono ?_; rintro e w7 ⟨rfl, hb7⟩; rw [HTx.out]; have k5' := (hb7.cell (World.block_lt_of_cell? _ _ k5)).trans k5; clear k5; have k5 := k5'; clear k5'))
      go_wp2_with fail
      go_ret2
      exact ⟨_, by rw [HF.out, HX.out]; show Ending.returned (.tuple #[.string ((⟨hd.toArray⟩ : ByteArray) ++ ⟨#[32]⟩ ++ ⟨s.op.toArray⟩ ++ ⟨#[32]⟩ ++ ⟨tx.toArray⟩ ++ ⟨#[10]⟩ ++ ⟨body.toArray⟩), _]) = _; rw [HS6.out], by rw [HCk.out]; rfl, hbrd.trans ((hb6.trans (hb7.mono hb6.size)).mono hbrd.size)⟩
    obtain ⟨x, hxk⟩ := get_ex hlt
    have c1 := hx k x hxk 0 _ rfl
    have c1 := (hb.cell (World.block_lt_of_cell? w3 _ c1)).trans c1
    have i1 := idx_at (c := 5) 1 Tryz.underlying33 szInt ha k hlt
    have hk1 : (k : Int) < (l.length : Int) := by omega
    simp only [Nat.mul_one, Nat.add_zero, Nat.zero_add] at c1 i1
    rw [hp0] at hk1 i1
    obtain ⟨h1, h2⟩ := HB.out x (List.mem_of_getElem? hxk)
    have hsn := take_snoc' hxk
    have hl1 := itoa_len x h1 h2
    have Hx := Lib.hid hsn; clear hsn hxk
    go_wp2_with fail
    refine (itoa_any B x h1 h2 _ (hT3.below' hb hT3.le)).mono ?_
    rintro e w4 ⟨rfl, hb4⟩
    go_wp2_with fail
    go_roundw
    case rel => exact ⟨k + 1, by omega, by go_num, by rw [Hx.out, numsTail_snoc]; simp; apply ByteArray.ext; simp, hb.trans (hb4.mono hb.size)⟩
    case measure => simp [intOf]; omega
end Go.Proofs.YtikboodjfanjkaaGreatDoor
namespace Go.Proofs.YtikboodjfanjkaaGreatDoor
open Go.RowKit

theorem own_empty {α : Type} (enc : α → List Value) (e : TypeId) (sz B g : Nat) (w : World) (hB : B ≤ g) (hg : w.heap[g]? = some (.cells #[] e (0, 0))) : Own enc e sz B w (.slice (some ⟨g, 0, none⟩) 0 0) [] :=
  ⟨by simp, .inr ⟨g, 0, #[], rfl, hB, hg, Nat.le_refl _, Nat.zero_le _, by simp, by simp⟩⟩
theorem At.form' {α : Type} {enc : α → List Value} {sz : Nat} {w : World} {v : Value} {l : List α} (h : At enc sz w v l) : ∃ a c, v = .slice a l.length c ∧ (a = none → l = []) ∧ c ≤ maxLen := by
  obtain ⟨a, c, b, o, hv, ha, _, hm, _⟩ := h
  exact ⟨a, c, hv, fun h => List.eq_nil_of_length_eq_zero (by
    rcases Nat.eq_zero_or_pos l.length with h0 | h0
    · exact h0
    · have := ha h0; rw [h] at this; cases this), hm⟩

set_option maxRecDepth 20000 in
theorem cloneF_any (v : Value) (l : List Fl) (w : World) (hl : FilesAt w v l) (hn : l.length ≤ 100000) :
    Calls Tryz.prog 106 #[v] w fun e w' => ∃ v', e = .returned v' ∧ Own encF 50 6 w.heap.size w' v' l ∧ Below w.heap.size w w' := by
  obtain ⟨a, c, rfl, hnil, hcm⟩ := hl.form'
  have hq := fun w' => Lib.run_eql_slice_nil (P := Tryz.prog) w' 28 50 a l.length c 0 0 Tryz.underlying28
  cases a with
  | none =>
    obtain rfl := hnil rfl
    simp only [Option.isNone_none, List.length_nil] at hq
    go_enter Tryz.func106, Tryz.ntmps106
    go_wp2_with fail
    go_ret
    exact ⟨_, rfl, Own.nil _ _ _ _ _, Below.refl _ _⟩
  | some ad =>
    simp only [Option.isNone_some] at hq
    have hba : Below w.heap.size w (w.alloc (.cells #[] 50)) := (Below.refl _ _).alloc (Nat.le_refl _) _
    have hs := (hl.below hba).src encF_enc (by decide)
    have ho : Own encF 50 6 w.heap.size (w.alloc (.cells #[] 50)) (.slice (some ⟨w.heap.size, 0, none⟩) 0 0) [] := own_empty encF _ 6 _ _ _ (Nat.le_refl _) (heap_alloc_new w _)
    go_enter Tryz.func106, Tryz.ntmps106
    go_wp2_with (at_builtin; refine wpList_app rfl _ _ _ rfl w.heap.size elFl (.slice (some ⟨w.heap.size, 0, none⟩) 0 0) 0 [] rfl ho _ _ _ rfl hs (by unfold maxLen; omega) (by omega) (by simp) ?_; intro v' w1 hown hg _)
    go_ret
    exact ⟨_, rfl, by simpa [Own] using hown, hba.grown hg (by simp) (fun k hk => by cases hk; exact Nat.le_refl _)⟩

theorem flZero : (Tryz.prog.info? 50).bind (·.zero) = some (.agg #[.string ByteArray.empty, .string ByteArray.empty, .int .i64 0, .int .i64 0, .int .i64 0, .int .i64 0]) := by kernel_rfl
theorem flZero1 : ∀ z, (Tryz.prog.info? 50).bind (·.zero) = some z → ∀ u ∈ z.cells.toList, u.oneCell' = true := by
  intro z hz u hu
  rw [flZero] at hz
  cases hz
  simp [Value.cells] at hu
  rcases hu with rfl | rfl <;> rfl
set_option maxRecDepth 20000 in
set_option maxHeartbeats 1000000 in
theorem deleteF_any (base : Nat) (v : Value) (l : List Fl) (k : Nat) (w : World) (hl : Own encF 50 6 base w v l) (hk : k < l.length) (hn : l.length ≤ 100000) (hB : base ≤ w.heap.size) :
    Calls Tryz.prog 108 #[v, .int .i64 k, .int .i64 ((k : Int) + 1)] w fun e w' => ∃ v', e = .returned v' ∧ Own encF 50 6 base w' v' (l.take k ++ l.drop (k + 1)) ∧ Below base w w' := by
  obtain ⟨g, cap, cur, rfl, hBg, hg, hcap, hm, hs, ht⟩ := hl.open (by omega)
  unfold maxLen at hm
  obtain ⟨r, hr⟩ : ∃ r, k + (l.length - (k + 1)) = r := ⟨_, rfl⟩
  have hct := hl.cut' encF_enc (k := k) (by omega)
  have hfr := hl.from encF_enc (k + 1)
  have hr1 : r + 1 ≤ l.length := by omega
  have hr2 : l.length ≤ r + 1 := by omega
  have HCT := Lib.hid hct
  have HFR := Lib.hid hfr
  have HR := Lib.hid hr
  have hlt : (l.take k).length = k := by rw [List.length_take]; omega
  have hld : ((l.drop (k + 1)).flatMap encF).length = (l.length - (k + 1)) * 6 := by rw [flat_length encF_enc, List.length_drop]
  have h1c : ∀ u ∈ (l.drop (k + 1)).flatMap encF, u.oneCell' = true := fun u hu => by
    obtain ⟨x, _, hux⟩ := List.mem_flatMap.1 hu
    exact (encF_enc x).2 u hux
  have HLT := Lib.hid hlt
  have HLD := Lib.hid hld
  have H1C := Lib.hid h1c
  have b1 : ((k : Int) == (k : Int) + 1) = false := beq_eq_false_iff_ne.2 (by omega)
  have b8 : (0 : Int) ≤ (k : Int) + 1 := by omega
  have b9 : (k : Int) ≤ (k : Int) + 1 := by omega
  have b2 : (k : Int) + 1 ≤ l.length := by omega
  have b3 : (l.length : Int) ≤ cap := by omega
  have b4 : ¬ (l.length = k) := by omega
  have b5 : (k : Int) + 1 ≤ cap := by omega
  have b6 : (k : Int) ≤ cap := by omega
  have b7 : (k : Int) ≤ l.length := by omega
  clear hct hfr hr hlt hld h1c hs ht hg
  go_enter Tryz.func108, Tryz.ntmps108
  by_cases hcj : cap = k + 1
  · subst hcj
    have hlk : l.length = k + 1 := by omega
    have hdn : l.drop (k + 1) = [] := List.drop_eq_nil_of_le (by omega)
    have HLK := Lib.hid hlk
    have HDN := Lib.hid hdn
    clear hlk hdn
    go_wp2_with fail
    go_region
    have ho1 : Own encF 50 6 base w.drew (.slice (some ⟨g, 0, none⟩) k (k + 1)) (l.take k ++ l.drop (k + 1)) := by
      rw [HDN.out, List.append_nil]
      exact HCT.out
    have hb1 : Below base w w.drew := (Below.refl base w).drew
    obtain ⟨cs, hrun, ho2⟩ := run_clear_behind (c := 1) elFl encF_enc flZero1 ho1 (m := l.length - k) (by have := HLK.out; omega) (by have := HLK.out; omega)
    have Ho2 := Lib.hid ho2
    have hcr : ¬ (k + 1 = k) := by omega
    clear ho2 ho1
    go_wp2_with fail
    go_ret
    exact ⟨_, rfl, Ho2.out, Bset hb1 hBg _⟩
  · go_wp2_with fail
    go_region_law ((refine step_fits rfl (.tmp 22) (.tmp 25) 28 rfl elFl base g k cap _ (by simp [Act.eval, Act.put]) (by have := HCT.out; unfold Own at this; rw [HLT.out] at this; exact this) ⟨g, (k + 1) * 6, none⟩ (l.length - (k + 1)) (cap - (k + 1)) r ((l.drop (k + 1)).flatMap encF) (by simp [Act.eval, Act.put]) HLD.out (by intro j u hu; rw [add_lit]; exact HFR.out j u hu) H1C.out (by omega) HR.out ?_; intro w1 h1 hg1))
    have ho1 : Own encF 50 6 base w1 (.slice (some ⟨g, 0, none⟩) r cap) (l.take k ++ l.drop (k + 1)) := by
      unfold Own
      have e : (l.take k ++ l.drop (k + 1)).length = r := by rw [List.length_append, HLT.out, List.length_drop]; exact HR.out
      rw [e, List.flatMap_append]
      exact h1
    have hb1 : Below base w w1 := (Below.refl base w).drew.grown hg1 hB (fun k' hk' => by cases hk'; exact hBg)
    obtain ⟨cs, hrun, ho2⟩ := run_clear_behind (c := cap - r) elFl encF_enc flZero1 ho1 (m := l.length - r) (by omega) (by omega)
    have Ho2 := Lib.hid ho2
    have hcr : ¬ (cap = r) := by omega
    have b10 : (r : Int) ≤ l.length := by omega
    clear ho2 ho1 h1 hg1
    go_wp2_with fail
    go_ret
    exact ⟨_, rfl, Ho2.out, Bset hb1 hBg _⟩

theorem overlapsF (w : World) (vb g off la ca lb cb : Nat) (hne : vb ≠ g) (tA tB : TypeId) (kA kB : Nat) (hsa : w.shape? vb = some (tA, kA)) (hsb : w.shape? g = some (tB, kB)) (hkB : kB ≠ 0) (hfa : w.frozen? ⟨vb, 0, none⟩ = false) (hfe : w.frozen? ⟨vb, kA, none⟩ = false) :
    (callFunc 148 #[.slice (some ⟨vb, 0, none⟩) la ca, .slice (some ⟨g, off, none⟩) lb cb]).run Tryz.prog w = .ok (.value (.bool false)) w := by
  rw [run_callFunc_extern Tryz.func148 (by kernel_rfl) (by kernel_rfl) (by kernel_rfl) (e := Extern.SlicesOverlaps.overlaps #[28, 28] #[4]) (by kernel_rfl),
    Lib.run_overlaps_apart w 28 4 50 Tryz.underlying28 6 szFl ⟨vb, 0, none⟩ ⟨g, off, none⟩ la ca lb cb hne tA tB kA kB hsa hsb hkB hfa hfe]
  rfl
set_option maxRecDepth 20000 in
set_option maxHeartbeats 2000000 in
theorem insertF_any (base : Nat) (v : Value) (l : List Fl) (f : Fl) (k vb : Nat) (w : World) (hl : Own encF 50 6 base w v l) (hk : k ≤ l.length) (hn : l.length ≤ 10000) (hB : base ≤ w.heap.size)
    (hvb : w.heap[vb]? = some (.cells #[S f.path, S f.part, .int .i64 f.n, .int .i64 f.lo, .int .i64 f.hi, .int .i64 f.seq] 50 (0, 0))) (hne : v.ownBlock ≠ some vb) :
    Calls Tryz.prog 105 #[v, .int .i64 k, .slice (some ⟨vb, 0, none⟩) 1 1] w fun e w' => ∃ v', e = .returned v' ∧ Own encF 50 6 base w' v' (l.take k ++ f :: l.drop k) ∧ Below base w w' := by
  have hsrc : SrcAt w 6 (.slice (some ⟨vb, 0, none⟩) 1 1) 1 (encF f) := ⟨_, 1, rfl, rfl, by simp [Value.oneCell'], fun _ => ⟨vb, 0, rfl, fun j u hu => by
    rw [cell_of_row w vb _ _ _ (0, 0) hvb]; simpa using hu⟩⟩
  by_cases hkn : k = l.length
  · obtain ⟨a, c, rfl, hnil, hcm⟩ := (hl.at encF_enc).form'
    have b1 : ((k : Int) == (l.length : Int)) = true := by rw [hkn]; simp
    have b2 : (k : Int) ≤ l.length := by omega
    have HKN := Lib.hid hkn
    clear hkn
    go_enter Tryz.func105, Tryz.ntmps105
    go_wp2_with (at_builtin; refine wpList_app rfl (.tmp 23) (.tmp 24) _ rfl base elFl _ l.length _ rfl hl _ _ _ rfl hsrc (by unfold maxLen; omega) (by omega) hB ?_; intro v' w1 hown hg _)
    all_goals
      go_ret
      refine ⟨_, rfl, ?_, Bapp (Below.refl base w) hl hg (Nat.le_refl _) hB⟩
      rw [HKN.out, List.take_length, List.drop_length]
      exact Own.snoc hown
  obtain ⟨g, cap, cur, rfl, hBg, hg, hcap, hm, hs, ht⟩ := hl.open (by omega)
  unfold maxLen at hm
  have hvg : vb ≠ g := fun e => hne (by rw [e]; rfl)
  have HG := Lib.hid hg
  have HT := Lib.hid ht
  have HS := Lib.hid hs
  have HVB := Lib.hid hvb
  have b1 : ((k : Int) == (l.length : Int)) = false := beq_eq_false_iff_ne.2 (by omega)
  have b2 : (k : Int) ≤ l.length := by omega
  have b3 : (l.length : Int) ≤ cap := by omega
  have b4 : ¬ cap = k := by omega
  have b5 : (k : Int) ≤ cap := by omega
  have HCT := Lib.hid (hl.cut' encF_enc (k := k) (by omega))
  have hfr := hl.from encF_enc k
  have HFR := Lib.hid hfr
  have hlt : (l.take k).length = k := by rw [List.length_take]; omega
  have HLT := Lib.hid hlt
  have hld : ((l.drop k).flatMap encF).length = (l.length - k) * 6 := by rw [flat_length encF_enc, List.length_drop]
  have h1c : ∀ u ∈ (l.drop k).flatMap encF, u.oneCell' = true := fun u hu => by
    obtain ⟨x, _, hux⟩ := List.mem_flatMap.1 hu
    exact (encF_enc x).2 u hux
  have HLD := Lib.hid hld
  have H1C := Lib.hid h1c
  have hgl : g < w.heap.size := (Array.getElem?_eq_some_iff.1 hg).1
  have hvl : vb < w.heap.size := (Array.getElem?_eq_some_iff.1 hvb).1
  have h1f : ∀ u ∈ encF f, u.oneCell' = true := by simp [Value.oneCell']
  have H1F := Lib.hid h1f
  have b7 : (k : Int) + 1 ≤ (l.length : Int) + 1 := by omega
  have b8 : (0 : Int) ≤ (k : Int) + 1 := by omega
  have b9 : (k : Int) ≤ (l.length : Int) + 1 := by omega
  clear hg ht hs hvb hfr hlt hld h1c h1f hne hsrc
  by_cases hroom : cap < l.length + 1
  · have b6 : (cap : Int) < (l.length : Int) + 1 := by omega
    go_enter Tryz.func105, Tryz.ntmps105
    go_wp2_with (at_builtin; refine wpList_stop ?_)
    refine ⟨?_, trivial⟩
    refine wpList_app_zeros rfl (.tmp 34) (.tmp 39) _ _ rfl elFl .i64 Tryz.underlying3 base g k cap (l.length + 1 - k) _ ((l.length : Int) + 1 - k) (by omega) (by rfl) (by rfl) (by have := HCT.out; unfold Own at this; rw [HLT.out] at this; exact this) (by omega) (by omega) (by omega) (by omega) (l.length + 1) (by omega) ?_
    intro cap2 cur2 h1 h2 h3 h4 w1 hw1 hg1 hs1
    have hc2 : ¬ cap2 = k := by omega
    have hc3 : (k : Int) ≤ cap2 := by omega
    have hc4 : ¬ cap2 = k + 1 := by omega
    have hc5 : (k : Int) + 1 ≤ cap2 := by omega
    have H3 := Lib.hid h3
    have H4 := Lib.hid h4
    clear h3 h4
    obtain ⟨w2, hr2, hw2, hg2⟩ := run_copyN_ex 28 elFl w.heap.size (k * 6) (l.length + 1 - k) (cap2 - k) 1 1 1 ⟨vb, 0, none⟩ cur2 w1 hw1.out (encF f) (by simp only [Nat.min_def]; split <;> omega) rfl
      (fun j u hu => by rw [add_lit, Nat.zero_add, cell_of_row w1 vb _ _ _ (0, 0) ((hg1.block vb hvl (by simp)).trans HVB.out)]; simpa using hu) (by simp only [List.length_cons, List.length_nil]; have := H3.out; omega) H1F.out
    have hg2' : w2.heap[g]? = w.heap[g]? := (hg2.block g (by omega) (by simp; omega)).trans (hg1.block g hgl (by simp))
    have hcells : ∀ j u, ((l.drop k).flatMap encF)[j]? = some u → w2.drew.cell? ((⟨g, k * 6, none⟩ : Addr).add j) = some u := fun j u hu => by
      rw [add_lit]
      exact (World.cell?_of_block (w := w) (w' := w2.drew) (a := ⟨g, k * 6 + j, none⟩) hg2').trans (HFR.out j u hu)
    have hsz2 : (splice cur2.toList (k * 6) (encF f)).length = cap2 * 6 := by
      rw [splice_len _ _ _ (by simp only [List.length_cons, List.length_nil, Array.length_toList]; have := H3.out; omega), Array.length_toList, H3.out]
    obtain ⟨w3, hr3, hw3, hg3⟩ := run_copyN_ex 28 elFl w.heap.size ((k + 1) * 6) (l.length - k) (cap2 - (k + 1)) (l.length - k) (cap - k) (l.length - k) ⟨g, k * 6, none⟩ _ w2.drew hw2.out ((l.drop k).flatMap encF) (by simp) HLD.out
      hcells (by rw [HLD.out, List.size_toArray, hsz2]; omega) H1C.out
    have Hsz2 := Lib.hid hsz2
    clear hcells hg2' hsz2
    have hbw : Below base w w3 := ((((Below.refl base w).grown hg1 hB (fun k hk => by cases hk)).grown hg2 (by omega) (fun k hk => by cases hk; exact hB)).drew).grown hg3 (by have := hg2.size; simp; omega) (fun k hk => by cases hk; exact hB)
    have HOW := Lib.hid (own_insNew (f := f) encF_enc hB hk h1 h2 H3.out H4.out w3 hw3.out)
    go_wp2_with fail
    go_region
    go_wp2_with fail
    go_ret
    exact ⟨_, rfl, HOW.out, hbw⟩
  · have b6 : decide ((cap : Int) < (l.length : Int) + 1) = false := by simp; omega
    have hov := fun lb cb => overlapsF w vb g ((k + 1) * 6) 1 1 lb cb hvg 50 50 6 (cap * 6) (by simp [World.shape?, HVB.out]) (by simp [World.shape?, HG.out, HS.out]) (by omega) (frozen_row HVB.out) (frozen_row HVB.out)
    obtain ⟨w2, hr2, hw2, hg2⟩ := run_copyN_ex 28 elFl g ((k + 1) * 6) (l.length - k) (cap - (k + 1)) (l.length + 1 - k) (cap - k) (l.length - k) ⟨g, k * 6, none⟩ cur w.drew HG.out ((l.drop k).flatMap encF) (by simp only [Nat.min_def]; split <;> omega) HLD.out
      (fun j u hu => by rw [add_lit]; exact HFR.out j u hu) (by rw [HLD.out, HS.out]; omega) H1C.out
    obtain ⟨w3, hr3, hw3, hg3⟩ := run_copyN_ex 28 elFl g (k * 6) (l.length + 1 - k) (cap - k) 1 1 1 ⟨vb, 0, none⟩ _ w2 hw2.out (encF f) (by simp only [Nat.min_def]; split <;> omega) rfl
      (fun j u hu => by rw [add_lit, Nat.zero_add, cell_of_row w2 vb _ _ _ (0, 0) ((hg2.block vb hvl (by simp; omega)).trans HVB.out)]; simpa using hu) (by rw [List.size_toArray, splice_len _ _ _ (by rw [HLD.out, Array.length_toList (xs := cur), HS.out]; omega), Array.length_toList (xs := cur), HS.out]; simp only [List.length_cons, List.length_nil]; omega) H1F.out
    have hbw : Below base w w3 := (((Below.refl base w).drew).grown hg2 hB (fun k hk => by cases hk; exact hBg)).grown hg3 (by have := hg2.size; simp at this; omega) (fun k hk => by cases hk; exact hBg)
    have HOW := Lib.hid (own_insShift (f := f) encF_enc hBg hk (by omega) (by unfold maxLen; omega) HS.out (by
      have h0 := HCT.out
      obtain ⟨cur', _, hg', _, _, _, _, ht'⟩ := h0.row
      rw [HG.out] at hg'
      cases hg'
      exact ht') w3 hw3.out)
    have bk0 : (k : Int) + 1 ≤ cap := by omega
    have bk1 : ¬ cap = k + 1 := by omega
    have bk2 : (l.length : Int) + 1 ≤ cap := by omega
    have bk3 : ¬ cap = l.length + 1 ∨ True := .inr trivial
    go_enter Tryz.func105, Tryz.ntmps105
    go_wp2_with (simp only [hov])
    go_region
    go_wp2_with fail
    go_ret
    exact ⟨_, rfl, HOW.out, hbw⟩
end Go.Proofs.YtikboodjfanjkaaGreatDoor
namespace Go.Proofs
open Go.Shelf
def Tryz.growS_ren : Go.Shelf.Ren := ⟨fun | 4 => 155 | n => n, fun | 22 => 24 | 25 => 9 | 3 => 3 | 4 => 4 | 9 => 9 | 20 => 20 | 0 => 0 | n => n, fun | n => n⟩
theorem Tryz.growS : Go.Proofs.Lays8.n4 Tryz.prog Tryz.growS_ren := {
  mixed := by kernel_rfl
  f4 := ⟨Tryz.f155.name, by decide, Tryz.func155.trans (congrArg some (by kernel_rfl))⟩
  t0 := Tryz.underlying0
  a0 := Tryz.isAgg0
  z0 := Tryz.sizeOf0
  v0 := Tryz.zeroValue0
  t3 := Tryz.underlying3
  a3 := Tryz.isAgg3
  z3 := Tryz.sizeOf3
  v3 := Tryz.zeroValue3
  t4 := Tryz.underlying4
  a4 := Tryz.isAgg4
  z4 := Tryz.sizeOf4
  v4 := Tryz.zeroValue4
  t9 := Tryz.underlying9
  a9 := Tryz.isAgg9
  z9 := Tryz.sizeOf9
  v9 := Tryz.zeroValue9
  t20 := Tryz.underlying20
  a20 := Tryz.isAgg20
  z20 := Tryz.sizeOf20
  v20 := Tryz.zeroValue20
  t22 := Tryz.underlying24
  a22 := Tryz.isAgg24
  z22 := Tryz.sizeOf24
  v22 := Tryz.zeroValue24 }
end Go.Proofs
namespace Go.Proofs.YtikboodjfanjkaaGreatDoor
open Go.RowKit

theorem cut1_any (c : UInt8) (B : Nat) (s : Str) (w : World) (hM : LMax B w) (hs : s.length ≤ 100000) :
    Calls Tryz.prog 119 #[S s, .string ⟨#[c]⟩] w fun e w' => e = .returned (.tuple #[S (Lib.cut s [c]).1, S (Lib.cut s [c]).2.1, .bool (Lib.cut s [c]).2.2]) ∧ Below w.heap.size w w' := by
  obtain ⟨m, hm⟩ := hM.max
  refine (Tryz.strings_Cut ⟨s.toArray⟩ ⟨#[c]⟩ m w (by show s.toArray.size < _; simp; omega) hm).mono ?_
  rintro e w' ⟨rfl, n, rfl⟩
  exact ⟨rfl, Bdn (Below.refl _ _) n⟩
theorem growS_any (n : Nat) (hn0 : 0 < n) (hn : n ≤ 10000) (w : World) :
    Calls Tryz.prog 155 #[.slice none 0 0, .int .i64 n] w fun e w' => ∃ cap, e = .returned (.slice (some ⟨w.heap.size, 0, none⟩) 0 cap) ∧ n ≤ cap ∧ Own encS 9 1 w.heap.size w' (.slice (some ⟨w.heap.size, 0, none⟩) 0 cap) [] ∧ Below w.heap.size w w' := by
  obtain ⟨i0, z, hu, hi, hz, hsz, hby, hzs, hpos⟩ := elStr
  have h := Any8.slices_Grow_grow Tryz.growS i0 z hi hz (by omega) none 0 0 n [] w (Nat.le_refl _) (by omega) (by rw [hby]; omega) (by omega) (by simp) (fun _ => rfl) (fun a h => by cases h)
  rw [show (Tryz.growS_ren).t 25 = 9 from rfl] at h
  have hge := grownCap_ge w (0 + n) 0 9
  have hle : grownCap w (0 + n) 0 9 ≤ maxLen := grownCap_le_maxLen w (0 + n) 0 9 (by unfold maxLen; omega)
  refine h.mono ?_
  rintro e w' ⟨rfl, rfl⟩
  refine ⟨_, rfl, by have := hge; omega, ?_, (Below.refl _ _).drew.alloc (Nat.le_refl _) _⟩
  refine Own.put encS_enc rfl (Nat.le_refl _) (heap_alloc_new w.drew _) (Nat.zero_le _) hle ?_ rfl
  simp only [Array.size_append, List.size_toArray, size_zeroCells, hzs, List.length_nil]
  omega
set_option maxRecDepth 20000 in
theorem concat2_any (v1 v2 : Value) (l1 l2 : List Str) (g c : Nat) (w : World) (h1 : StrsAt w v1 l1) (h2 : StrsAt w v2 l2) (c1 : w.cell? ⟨g, 0, none⟩ = some v1) (c2 : w.cell? ⟨g, 1, none⟩ = some v2) (_hc : 2 ≤ c) (_hcm : c ≤ maxLen) (hpos : 0 < l1.length + l2.length) (hn : l1.length + l2.length ≤ 10000) :
    Calls Tryz.prog 121 #[.slice (some ⟨g, 0, none⟩) 2 c] w fun e w' => ∃ v', e = .returned v' ∧ Own encS 9 1 w.heap.size w' v' (l1 ++ l2) ∧ Below w.heap.size w w' := by
  obtain ⟨a1, n1, hv1, -, -⟩ := h1.form'
  obtain ⟨a2, n2, hv2, -, -⟩ := h2.form'
  have sz2 : ∀ w, (sizeOf 24).run Tryz.prog w = .ok 1 w := fun w => by kernel_rfl
  have ix := fun (k : Nat) (hk : k < 2) => idx_at (P := Tryz.prog) (c := c) (o := 0) (b := g) (n := 2) 1 Tryz.underlying193 sz2 (fun _ => rfl) k hk
  have i0 := ix 0 (by omega); have i1 := ix 1 (by omega)
  simp only [Nat.mul_one, Nat.zero_add] at i0 i1
  have e0 : ((0 : Nat) : Int) = 0 := rfl
  have e1 : ((1 : Nat) : Int) = 1 := rfl
  rw [e0] at i0; rw [e1] at i1
  clear ix e0 e1
  unfold maxLen at _hcm
  have H1 := Lib.hid h1; have H2 := Lib.hid h2
  obtain ⟨m1, hm1⟩ : ∃ m, l1.length = m := ⟨_, rfl⟩
  obtain ⟨m2, hm2⟩ : ∃ m, l2.length = m := ⟨_, rfl⟩
  rw [hm1] at hv1 hpos hn; rw [hm2] at hv2 hpos hn
  subst hv1 hv2
  clear h1 h2
  have HM1 := Lib.hid hm1; have HM2 := Lib.hid hm2
  clear hm1 hm2
  have g0 : decide ((0 : Int) < 0) = false := rfl
  go_enter Tryz.func121, Tryz.ntmps121
  go_wp2_with fail
  go_loop [3, 11] (fun s i => (s = .int .i64 0 ∧ i = .int .i64 0) ∨ (s = .int .i64 m1 ∧ i = .int .i64 1) ∨ (s = .int .i64 ((m1 + m2 : Nat) : Int) ∧ i = .int .i64 2)) (fun _ i => 2 - (intOf i).toNat)
  case atStart => exact .inl ⟨rfl, rfl⟩
  case round =>
    rcases hrel with ⟨rfl, rfl⟩ | ⟨rfl, rfl⟩ | ⟨rfl, rfl⟩
    · go_wp2_with fail
      exact ⟨.inr (.inl ⟨rfl, rfl⟩), by decide⟩
    · go_wp2_with fail
      exact ⟨.inr (.inr ⟨by go_num, rfl⟩), by decide⟩
    · go_wp2_with fail
      refine (growS_any (m1 + m2) hpos hn w).mono ?_
      rintro e w1 ⟨cap, rfl, hcap, hown, hb1⟩
      go_wp2_with fail
      have HC := Lib.hid (fun W (h : Below w.heap.size w W) => (⟨(h.cell (World.block_lt_of_cell? w _ c1)).trans c1, (h.cell (World.block_lt_of_cell? w _ c2)).trans c2⟩ : W.cell? ⟨g, 0, none⟩ = _ ∧ W.cell? ⟨g, 1, none⟩ = _))
      have hs1 := fun W (h : Below w.heap.size w W) => (H1.out.below h).src encS_enc (by decide)
      have hs2 := fun W (h : Below w.heap.size w W) => (H2.out.below h).src encS_enc (by decide)
      rw [HM1.out] at hs1; rw [HM2.out] at hs2
      have HS1 := Lib.hid hs1; have HS2 := Lib.hid hs2
      clear hs1 hs2 c1 c2
      go_loopw [6, 27] (fun v i wr => Below w.heap.size w wr ∧ ((i = .int .i64 0 ∧ Own encS 9 1 w.heap.size wr v []) ∨ (i = .int .i64 1 ∧ Own encS 9 1 w.heap.size wr v l1) ∨ (i = .int .i64 2 ∧ Own encS 9 1 w.heap.size wr v (l1 ++ l2)))) (fun _ i _ => 2 - (intOf i).toNat)
      case atStart => exact ⟨hb1, .inl ⟨rfl, hown⟩⟩
      case round =>
        obtain ⟨hb, ⟨rfl, ho⟩ | ⟨rfl, ho⟩ | ⟨rfl, ho⟩⟩ := hrel
        · obtain ⟨c1, c2⟩ := HC.out _ hb
          have hs1 := HS1.out _ hb
          clear hown hb1
          go_wp2_with (at_builtin; refine wpList_app rfl _ _ _ rfl w.heap.size elStr _ 0 [] rfl ho _ m1 _ rfl hs1 (by unfold maxLen; omega) (by omega) hb.size ?_; intro v' w2 hown hg _)
          have hown' : Own encS 9 1 w.heap.size w2 v' l1 := by unfold Own; rw [HM1.out]; simpa using hown
          go_roundw
          case rel => exact ⟨Bapp hb ho hg (Nat.le_refl _) hb.size, .inr (.inl ⟨rfl, hown'⟩)⟩
          case measure => simp [intOf]
        · obtain ⟨c1, c2⟩ := HC.out _ hb
          have hs2 := HS2.out _ hb
          have ho' := ho
          unfold Own at ho'
          rw [HM1.out] at ho'
          clear hown hb1
          go_wp2_with (at_builtin; refine wpList_app rfl _ _ _ rfl w.heap.size elStr _ m1 _ rfl ho' _ m2 _ rfl hs2 (by unfold maxLen; omega) (by omega) hb.size ?_; intro v' w2 hown hg _)
          have hown' : Own encS 9 1 w.heap.size w2 v' (l1 ++ l2) := by unfold Own; rw [List.length_append, HM1.out, HM2.out, List.flatMap_append]; exact hown
          go_roundw
          case rel => exact ⟨Bapp hb ho hg (Nat.le_refl _) hb.size, .inr (.inr ⟨rfl, hown'⟩)⟩
          case measure => simp [intOf]
        · clear hown hb1
          go_wp2_with fail
          go_ret
          exact ⟨_, rfl, ho, hb⟩
end Go.Proofs.YtikboodjfanjkaaGreatDoor
