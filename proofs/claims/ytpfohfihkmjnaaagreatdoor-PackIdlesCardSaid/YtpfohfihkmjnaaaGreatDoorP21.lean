/- pack.Idle: the walk. Worlds in which nothing has turned but rows of one type. A stable sort in place, by merges: what its steps do to a list. In plain words, of no program. Fewer files: groups of files, in plain words. Of no program. Groups of files in memory: each in a block of its own, its paths in a row of its own. pack.Plan's closures; slices.IndexFunc at groups. The library's insertion sort is stable: plain. Of no program. DERIVED: THE SHELF's CONTRACTS AT THIS DUMP, IN PLAIN WORDS (tools/lay-plain.mjs out of 'TryzInsG.lean', which tools/lay-shelf.mjs wrote): THE SAME DECLARATIONS UNDER THE SAME NAMES: 'import', 'namespace', 'open', 'def', 'theorem' AND NOTHING ELSE: no command of the shelf's: FOR A HAND-IN. Each laying: the table of numbers ('.._ren') and one theorem, a field a fact of the dump's own or the kernel's comparison; each contract: ONE APPLICATION. -/
import Derived.Test.YtpfohfihkmjnaaaGreatDoorP20
import Derived.Test.YtpfohfihkmjnaaaGreatDoorP8
import Derived.Test.YtpfohfihkmjnaaaGreatDoorP13
import Derived.OwnWalk
import Derived.Test.YtpfohfihkmjnaaaGreatDoorP2
import Derived.Test.YtpfohfihkmjnaaaGreatDoorP1
import Derived.Test.YtpfohfihkmjnaaaGreatDoorP14
import Derived.Test.YtpfohfihkmjnaaaGreatDoorP5
import Derived.Test.YtpfohfihkmjnaaaGreatDoorP12
import Derived.Deep.RegionHeld3
import Derived.BigQuiet
import Derived.Sort.Defs
import Derived.Shelf.SlSortCmp.Insertion1
import Derived.Test.YtpfohfihkmjnaaaGreatDoorProg
namespace Go.Proofs.YtpfohfihkmjnaaaGreatDoor
open Go.RowKit

set_option maxRecDepth 20000 in
theorem idle1_any (x g : Fl) (gb : Nat) (w : World) (h5 : w.cell? ⟨gb, 5, none⟩ = some (.int .i64 g.seq)) :
    Calls Tryz.prog 61 #[fileV x, .pointer (some ⟨gb, 0, none⟩)] w fun e w' => e = .returned (.bool (!isG x && decide (x.seq < g.seq))) ∧ Below w.heap.size w w' := by
  have hb : Below w.heap.size w (w.alloc (fileO x)) := (Below.refl _ _).alloc (Nat.le_refl _) _
  have h5' : (w.alloc (fileO x)).cell? ⟨gb, 5, none⟩ = some (.int .i64 g.seq) := (hb.cell (World.block_lt_of_cell? w _ h5)).trans h5
  obtain ⟨c0, c1, c2, c3, c4, c5⟩ := fileCells (f := x) (w := w) rfl (Below.refl _ (w.alloc (fileO x)))
  clear h5
  cases hg : isG x with
  | true =>
    have g1 : (x.part == [45]) = true := hg
    have g2 : (x.part != [45]) = false := by unfold isG at hg; simpa using hg
    clear hg
    go_enter Tryz.func61, Tryz.ntmps61
    go_wp2_with fail
    go_ret
    exact ⟨rfl, hb⟩
  | false =>
    have g1 : (x.part == [45]) = false := hg
    have g2 : (x.part != [45]) = true := by unfold isG at hg; simpa using hg
    clear hg
    obtain ⟨d, hd⟩ : ∃ d, decide (x.seq < g.seq) = d := ⟨_, rfl⟩
    rw [hd]
    cases d with
    | true =>
      have g3 : x.seq < g.seq := of_decide_eq_true hd
      clear hd
      go_enter Tryz.func61, Tryz.ntmps61
      go_wp2_with fail
      go_ret
      exact ⟨rfl, hb⟩
    | false =>
      go_enter Tryz.func61, Tryz.ntmps61
      go_wp2_with fail
      go_ret
      exact ⟨rfl, hb⟩
theorem clo_idle1 : Clo Tryz.prog 61 := fun _ _ => by kernel_rfl
/-- What is told of a list's idle files. -/
def idleA (l : List Fl) : List Str := if listCheck l = .nil then idleL l else []
theorem idle_step {l : List Fl} {k : Nat} {x : Fl} (h : l[k]? = some x) {b : Bool} (hb : idleF l x = b) : ((l.take (k + 1)).filter (idleF l)).map (·.path) = ((l.take k).filter (idleF l)).map (·.path) ++ (if b = true then [x.path] else []) := by
  rw [take_snoc' h, List.filter_append, List.map_append]
  congr 1
  rw [List.filter_cons]
  rw [hb]
  cases b <;> rfl
set_option maxHeartbeats 1000000 in
set_option maxRecDepth 20000 in
theorem packIdle_any (E : Nat → Addr) (B : Nat) (v : Value) (l : List Fl) (w : World) (hE : Errs [2, 4, 5, 8, 9] E B w) (hT : LNum B w) (hM : LMax B w) (hl : FilesAt w v l) (hs : ∀ f ∈ l, midF f) :
    Calls Tryz.prog 18 #[v] w fun e w' => ∃ u ev, e = .returned (.tuple #[u, ev]) ∧ ErV E w' ev (listCheck l) ∧ StrsAt w' u (idleA l) ∧ Below w.heap.size w w' := by
  have hif := isIfaceE
  have HCk := Lib.hid (listCheck_any E B v l w hE hT hM hl hs)
  have XL := Lib.hid (fun W (h : Below w.heap.size w W) => hl.below h)
  obtain ⟨a, c, b, o, rfl, ha, hc, hcm, hx⟩ := hl
  unfold maxLen at hcm
  have HX := Lib.hid hx
  clear hE hT hM hs hx
  go_enter Tryz.func18, Tryz.ntmps18
  go_wp2_with fail
  refine HCk.out.mono ?_
  rintro e w1 ⟨ev, rfl, hev, hb1⟩
  clear HCk
  by_cases hck : listCheck l = .nil
  case neg =>
    obtain ⟨t1, x1, rfl⟩ := hev.iface hck
    have HEv := Lib.hid hev
    have HN : Hid (idleA l = []) := Lib.hid (if_neg hck)
    clear hev hck
    go_wp2_with fail
    go_ret2
    exact ⟨_, _, rfl, HEv.out, by rw [HN.out]; exact At.nil _ _ _, hb1⟩
  rw [hck] at hev
  obtain rfl : ev = .nilIface := hev
  have hn60 := ((right_iff l).1 hck).len
  have HN : Hid (idleA l = idleL l ∧ listCheck l = .nil) := Lib.hid ⟨if_pos hck, hck⟩
  clear hck
  go_wp2_with fail
  go_loopw [5, 15] (fun u i wr => ∃ (k : Nat) (Q : List Str) (vo : Value), k ≤ l.length ∧ i = .int .i64 k ∧ vo = u ∧ Q.length ≤ k ∧ Hid (Q = ((l.take k).filter (idleF l)).map (·.path)) ∧ Hid (Own encS 9 1 w1.heap.size wr vo Q) ∧ Below w1.heap.size w1 wr) (fun _ i _ => l.length - (intOf i).toNat)
  case atStart => exact ⟨0, [], _, by omega, rfl, rfl, Nat.zero_le _, Lib.hid (by rw [List.take_zero]; rfl), Lib.hid (Own.nil _ _ _ _ _), Below.refl _ _⟩
  case round =>
    obtain ⟨k, Q, vo, hk, rfl, rfl, hQl, hQ, ho, hb⟩ := hrel
    obtain ⟨wo, rfl⟩ : ∃ wo, wo = wr := ⟨wr, rfl⟩
    have hbwo := hb1.trans (hb.mono hb1.size)
    by_cases hlt : k < l.length
    case neg =>
      obtain rfl : k = l.length := by omega
      have f1 : decide ((l.length : Int) < (l.length : Int)) = false := by simp
      have HQe : Hid (Q = idleL l) := Lib.hid (by rw [hQ.out, List.take_length]; rfl)
      go_wp2_with fail
      go_ret2
      exact ⟨_, _, rfl, by rw [HN.out.2]; rfl, by rw [HN.out.1, ← HQe.out]; exact ho.out.at encS_enc, hbwo⟩
    have f1 : (k : Int) < (l.length : Int) := by omega
    obtain ⟨x, hxk⟩ := get_ex hlt
    obtain ⟨c0, c1, c2, c3, c4, c5⟩ := flCells HX.out hbwo hxk
    have i1 := idx_at (c := c) 6 Tryz.underlying23 szFl ha k hlt
    have HStep := Lib.hid (fun b => @idle_step l k x hxk b)
    have hA : Below wo.heap.size wo (wo.alloc (fileO x)) := (Below.refl _ _).alloc (Nat.le_refl _) _
    have hgA := heap_alloc_new wo (fileO x)
    have HoA := Lib.hid (ho.out.below hA)
    have hbA := hb.trans (hA.mono hb.size)
    have hbwA := hbwo.trans (hA.mono hbwo.size)
    clear hxk ho
    go_upto_region 8 with fail
    clear c0 c1 c2 c3 c4 c5 i1
    generalize wo.alloc (fileO x) = wA at *
    obtain ⟨P, hP⟩ : ∃ P, wo.heap.size = P := ⟨_, rfl⟩
    rw [hP] at hgA ⊢
    clear hP
    have HgA := Lib.hid hgA
    obtain ⟨c0, c1, c2, c3, c4, c5⟩ := rowF6 hgA
    clear hgA
    cases hg : isG x with
    | false =>
      have g1 : (x.part == [45]) = false := hg
      have hst := HStep.out false (by unfold idleF; rw [hg]; rfl)
      rw [if_neg (by decide), List.append_nil] at hst
      have HSt := Lib.hid hst
      clear hg hst
      go_wp2_with fail
      go_roundw
      case rel => exact ⟨k + 1, Q, vo, by omega, by go_num, rfl, by omega, Lib.hid (by rw [HSt.out]; exact hQ.out), HoA, hbA⟩
      case measure => simp [intOf]; omega
    | true =>
    have g1 : (x.part == [45]) = true := hg
    have hct := containsFuncF_any 61 #[.pointer (some ⟨P, 0, none⟩)] (fun y => !isG y && decide (y.seq < x.seq)) wA.heap.size wA (.slice a l.length c) l wA clo_idle1 (fun W y _ hbW _ => idle1_any y x P W (rowF6 (f := x) (rowKept HgA.out hbW)).2.2.2.2.2) (XL.out _ hbwA) (Below.refl _ _) (Nat.le_refl _)
    cases han : l.any (fun y => !isG y && decide (y.seq < x.seq)) with
    | true =>
      rw [han] at hct
      have hst := HStep.out false (by unfold idleF; rw [hg, han]; rfl)
      rw [if_neg (by decide), List.append_nil] at hst
      have HSt := Lib.hid hst
      have HCt := Lib.hid hct
      clear hg hst han hct
      go_wp2_with fail
      refine HCt.out.mono ?_
      rintro e w2 ⟨rfl, hb2⟩
      go_wp2_with fail
      go_roundw
      case rel => exact ⟨k + 1, Q, vo, by omega, by go_num, rfl, by omega, Lib.hid (by rw [HSt.out]; exact hQ.out), Lib.hid (HoA.out.below hb2), hbA.trans (hb2.mono hbA.size)⟩
      case measure => simp [intOf]; omega
    | false =>
      rw [han] at hct
      have hst := HStep.out true (by unfold idleF; rw [hg, han]; rfl)
      rw [if_pos rfl] at hst
      have HSt := Lib.hid hst
      have HCt := Lib.hid hct
      clear hg hst han hct
      go_wp2_with fail
      refine HCt.out.mono ?_
      rintro e w2 ⟨rfl, hb2⟩
      have hb2' := hbA.trans (hb2.mono hbA.size)
      have Ho2 := Lib.hid (HoA.out.below hb2)
      clear c0 c1 c2 c3 c4 c5
      obtain ⟨c0, -, -, -, -, -⟩ := rowF6 (f := x) (rowKept HgA.out hb2)
      go_wp2_with (at_builtin; refine wpList_app rfl _ _ _ rfl w1.heap.size elStr vo Q.length _ rfl (Ho2.out.alloc _) (.slice (some ⟨w2.heap.size, 0, none⟩) 1 1) 1 (encS x.path) rfl (src_one rfl rfl (by simp [Value.oneCell'])) (by unfold maxLen; omega) (by omega) (by have h2 := hb2'.size; simp; omega) ?_; intro v3 w3 hown hg3 _)
      have ho3 := Own.snoc hown
      go_roundw
      case rel => exact ⟨k + 1, Q ++ [x.path], v3, by omega, by go_num, rfl, by simp; omega, Lib.hid (by rw [HSt.out, ← hQ.out]), Lib.hid ho3, Bapp (hb2'.alloc hb2'.size _) (Ho2.out.alloc _) hg3 (Nat.le_refl _) (by have := hb2'.size; simp; omega)⟩
      case measure => simp [intOf]; omega
end Go.Proofs.YtpfohfihkmjnaaaGreatDoor
namespace Go.Proofs.YtpfohfihkmjnaaaGreatDoor
open Go.RowKit Go.Maps

/-- Nothing that was there has turned, but rows of type e. -/
def KeptBut (e : TypeId) (w w' : World) : Prop := w.heap.size ≤ w'.heap.size ∧ ∀ (k : Nat) (o : Obj), w.heap[k]? = some o → (∀ cs, o ≠ .cells cs e (0, 0)) → w'.heap[k]? = some o
theorem KeptBut.refl (e : TypeId) (w : World) : KeptBut e w w := ⟨Nat.le_refl _, fun _ _ h _ => h⟩
theorem KeptBut.below {e : TypeId} {w0 w w' : World} (h : KeptBut e w0 w) (hb : Below w.heap.size w w') : KeptBut e w0 w' := ⟨Nat.le_trans h.1 hb.size, fun k o hk ho => rowKept (h.2 k o hk ho) hb⟩
theorem KeptBut.grown {α : Type} {enc : α → List Value} {e : TypeId} {sz B : Nat} {w0 w w' : World} {v : Value} {l : List α} (h : KeptBut e w0 w) (ho : Own enc e sz B w v l) (hg : w.grownBy w' v.ownBlock) : KeptBut e w0 w' :=
  ⟨Nat.le_trans h.1 hg.size, fun k o hk hne => by
    have h1 := h.2 k o hk hne
    exact (hg.block k (Array.getElem?_eq_some_iff.1 h1).1 (fun e1 => own_ne ho h1 hne e1.symm)).trans h1⟩
theorem KeptBut.own {α : Type} {enc : α → List Value} {e e' : TypeId} {sz B : Nat} {w w' : World} {v : Value} {l : List α} (hk : KeptBut e w w') (hne : e' ≠ e) (h : Own enc e' sz B w v l) : Own enc e' sz B w' v l := by
  obtain ⟨h0, h3⟩ := h
  refine ⟨h0, ?_⟩
  rcases h3 with h4 | ⟨g, cap, cur, rfl, hB, hg, rest⟩
  · exact .inl h4
  · exact .inr ⟨g, cap, cur, rfl, hB, hk.2 g _ hg (fun cs hc => by cases hc; exact hne rfl), rest⟩
theorem KeptBut.of {e : TypeId} {w w' : World} (hb : Below w.heap.size w w') : KeptBut e w w' := (KeptBut.refl e w).below hb
/-- A row of the call's own stays, when another one has grown. -/
theorem own_grown {α : Type} {enc : α → List Value} {e : TypeId} {sz B : Nat} {w w' : World} {v : Value} {l : List α} {row : Option Nat} (h : Own enc e sz B w v l) (hg : w.grownBy w' row) (hne : ∀ b, row = some b → v.ownBlock = some b → False) : Own enc e sz B w' v l := by
  obtain ⟨h0, h3⟩ := h
  refine ⟨h0, ?_⟩
  rcases h3 with h4 | ⟨g, cap, cur, rfl, hB, hgk, rest⟩
  · exact .inl h4
  · exact .inr ⟨g, cap, cur, rfl, hB, (hg.block g (Array.getElem?_eq_some_iff.1 hgk).1 (fun e1 => hne g e1.symm rfl)).trans hgk, rest⟩
end Go.Proofs.YtpfohfihkmjnaaaGreatDoor
namespace Go.Proofs.YtpfohfihkmjnaaaGreatDoor

namespace Stb
variable {α : Type}

/-- The order of a stable sort: by lt, and among equals by where they stood. -/
structure Way (lt : α → α → Bool) (ix : α → Nat) : Prop where
  irr : ∀ x, lt x x = false
  tra : ∀ x y z, lt x y = true → lt y z = true → lt x z = true
  ntr : ∀ x y z, lt x y = false → lt y z = false → lt x z = false
def R (lt : α → α → Bool) (ix : α → Nat) (x y : α) : Prop := lt x y = true ∨ (lt y x = false ∧ ix x < ix y)
variable {lt : α → α → Bool} {ix : α → Nat}
theorem Way.asym (h : Way lt ix) {x y : α} (hxy : lt x y = true) : lt y x = false := by
  cases hyx : lt y x with
  | false => rfl
  | true => have := h.tra x y x hxy hyx; rw [h.irr] at this; cases this
theorem Way.le (h : Way lt ix) {x y : α} (hr : R lt ix x y) : lt y x = false := by
  rcases hr with hr | hr
  · exact h.asym hr
  · exact hr.1
theorem Way.le_lt (h : Way lt ix) {x y z : α} (h1 : lt y x = false) (h2 : lt y z = true) : lt x z = true := by
  cases hxz : lt x z with
  | true => rfl
  | false => have := h.ntr y x z h1 hxz; rw [h2] at this; cases this
theorem Way.lt_le (h : Way lt ix) {x y z : α} (h1 : lt x y = true) (h2 : lt z y = false) : lt x z = true := by
  cases hxz : lt x z with
  | true => rfl
  | false => have := h.ntr x z y hxz h2; rw [h1] at this; cases this

/-- From place a to place b the list is in order. -/
def Ord (lt : α → α → Bool) (ix : α → Nat) (l : List α) (a b : Nat) : Prop := ∀ i j x y, a ≤ i → i < j → j < b → l[i]? = some x → l[j]? = some y → R lt ix x y
/-- What lies from a to m stood ahead of what lies from m to b. -/
def Low (ix : α → Nat) (l : List α) (a m b : Nat) : Prop := ∀ i j x y, a ≤ i → i < m → m ≤ j → j < b → l[i]? = some x → l[j]? = some y → ix x < ix y
theorem Ord.sub {l : List α} {a b a' b' : Nat} (h : Ord lt ix l a b) (h1 : a ≤ a') (h2 : b' ≤ b) : Ord lt ix l a' b' := fun i j x y hi hij hj hx hy => h i j x y (by omega) hij (by omega) hx hy
theorem Ord.one {l : List α} {a b : Nat} (h : b ≤ a + 1) : Ord lt ix l a b := fun i j x y hi hij hj _ _ => by omega
/-- Only what lies from a to b has turned. -/
structure Seg (l l' : List α) (a b : Nat) : Prop where
  perm : l'.Perm l
  out : ∀ i, i < a ∨ b ≤ i → l'[i]? = l[i]?
  inn : ∀ i x, a ≤ i → i < b → l'[i]? = some x → ∃ j, a ≤ j ∧ j < b ∧ l[j]? = some x
theorem Seg.refl (l : List α) (a b : Nat) : Seg l l a b := ⟨.refl _, fun _ _ => rfl, fun i _ h1 h2 h3 => ⟨i, h1, h2, h3⟩⟩
theorem Seg.trans {l m n : List α} {a b : Nat} (h : Seg l m a b) (k : Seg m n a b) : Seg l n a b :=
  ⟨k.perm.trans h.perm, fun i hi => (k.out i hi).trans (h.out i hi), fun i x h1 h2 h3 => by
    obtain ⟨j, h4, h5, h6⟩ := k.inn i x h1 h2 h3
    exact h.inn j x h4 h5 h6⟩
theorem Seg.mono {l m : List α} {a b a' b' : Nat} (h : Seg l m a b) (h1 : a' ≤ a) (h2 : b ≤ b') : Seg l m a' b' := by
  refine ⟨h.perm, fun i hi => h.out i (by omega), fun i x h3 h4 h5 => ?_⟩
  by_cases hin : a ≤ i ∧ i < b
  · obtain ⟨j, h6, h7, h8⟩ := h.inn i x hin.1 hin.2 h5
    exact ⟨j, by omega, by omega, h8⟩
  · exact ⟨i, h3, h4, by rw [← h.out i (by omega)]; exact h5⟩
theorem Seg.len {l m : List α} {a b : Nat} (h : Seg l m a b) : m.length = l.length := h.perm.length_eq
theorem Ord.seg {l m : List α} {a b c d : Nat} (h : Ord lt ix l a b) (hs : Seg l m c d) (hd : b ≤ c ∨ d ≤ a) : Ord lt ix m a b := fun i j x y h1 h2 h3 hx hy =>
  h i j x y h1 h2 h3 (by rw [← hs.out i (by omega)]; exact hx) (by rw [← hs.out j (by omega)]; exact hy)
theorem Low.seg {l m : List α} {a p b c d : Nat} (h : Low ix l a p b) (hs : Seg l m c d) (hd : (b ≤ c ∨ d ≤ a) ∨ (a ≤ c ∧ d ≤ p) ∨ (p ≤ c ∧ d ≤ b)) : Low ix m a p b := by
  intro i j x y h1 h2 h3 h4 hx hy
  have hx' : ∃ i', a ≤ i' ∧ i' < p ∧ l[i']? = some x := by
    by_cases hin : c ≤ i ∧ i < d
    · rcases hd with hd | hd | hd
      · omega
      · obtain ⟨i', h5, h6, h7⟩ := hs.inn i x hin.1 hin.2 hx
        exact ⟨i', by omega, by omega, h7⟩
      · omega
    · exact ⟨i, h1, h2, by rw [← hs.out i (by omega)]; exact hx⟩
  have hy' : ∃ j', p ≤ j' ∧ j' < b ∧ l[j']? = some y := by
    by_cases hin : c ≤ j ∧ j < d
    · rcases hd with hd | hd | hd
      · omega
      · omega
      · obtain ⟨j', h5, h6, h7⟩ := hs.inn j y hin.1 hin.2 hy
        exact ⟨j', by omega, by omega, h7⟩
    · exact ⟨j, h3, h4, by rw [← hs.out j (by omega)]; exact hy⟩
  obtain ⟨i', h5, h6, h7⟩ := hx'
  obtain ⟨j', h8, h9, h10⟩ := hy'
  exact h i' j' x y h5 h6 h8 h9 h7 h10

/-- What lies from s to m, and what lies from m to e, change places. -/
def rot (l : List α) (s m e : Nat) : List α := l.take s ++ ((l.drop m).take (e - m) ++ ((l.drop s).take (m - s) ++ l.drop e))
theorem four_parts (l : List α) {s m e : Nat} (h1 : s ≤ m) (h2 : m ≤ e) : l = l.take s ++ ((l.drop s).take (m - s) ++ ((l.drop m).take (e - m) ++ l.drop e)) := by
  have e1 : l.drop m = (l.drop m).take (e - m) ++ l.drop e := by
    have := (List.take_append_drop (e - m) (l.drop m)).symm
    rwa [List.drop_drop, show m + (e - m) = e by omega] at this
  have e2 : l.drop s = (l.drop s).take (m - s) ++ l.drop m := by
    have := (List.take_append_drop (m - s) (l.drop s)).symm
    rwa [List.drop_drop, show s + (m - s) = m by omega] at this
  rw [← e1, ← e2, List.take_append_drop]
theorem rot_perm (l : List α) {s m e : Nat} (h1 : s ≤ m) (h2 : m ≤ e) : (rot l s m e).Perm l := by
  conv => rhs; rw [four_parts l h1 h2]
  unfold rot
  refine List.Perm.append_left _ ?_
  rw [← List.append_assoc, ← List.append_assoc]
  exact (List.perm_append_comm).append_right _
theorem rot_get (l : List α) {s m e : Nat} (h1 : s ≤ m) (h2 : m ≤ e) (h3 : e ≤ l.length) (i : Nat) :
    (rot l s m e)[i]? = if i < s then l[i]? else if i < s + (e - m) then l[m + (i - s)]? else if i < e then l[s + (i - (s + (e - m)))]? else l[i]? := by
  unfold rot
  by_cases c1 : i < s
  · rw [if_pos c1, List.getElem?_append_left (by rw [List.length_take]; omega), List.getElem?_take_of_lt c1]
  rw [if_neg c1, List.getElem?_append_right (by rw [List.length_take]; omega), List.length_take, Nat.min_eq_left (by omega)]
  by_cases c2 : i < s + (e - m)
  · rw [if_pos c2, List.getElem?_append_left (by rw [List.length_take, List.length_drop]; omega), List.getElem?_take_of_lt (by omega), List.getElem?_drop]
  rw [if_neg c2, List.getElem?_append_right (by rw [List.length_take, List.length_drop]; omega), List.length_take, List.length_drop, Nat.min_eq_left (by omega)]
  by_cases c3 : i < e
  · rw [if_pos c3, List.getElem?_append_left (by rw [List.length_take, List.length_drop]; omega), List.getElem?_take_of_lt (by omega), List.getElem?_drop]
    congr 1
    omega
  · rw [if_neg c3, List.getElem?_append_right (by rw [List.length_take, List.length_drop]; omega), List.length_take, List.length_drop, Nat.min_eq_left (by omega), List.getElem?_drop]
    congr 1
    omega
theorem rot_left (l : List α) {s m : Nat} (h : s ≤ m) (hl : m ≤ l.length) : rot l s m m = l := by
  apply List.ext_getElem?
  intro i
  rw [rot_get l h (Nat.le_refl _) hl]
  split
  · rfl
  · split
    · omega
    · split
      · congr 1; omega
      · rfl
theorem rot_right (l : List α) {m e : Nat} (h : m ≤ e) (hl : e ≤ l.length) : rot l m m e = l := by
  apply List.ext_getElem?
  intro i
  rw [rot_get l (Nat.le_refl _) h hl]
  split
  · rfl
  · split
    · congr 1; omega
    · split
      · omega
      · rfl
theorem rot_seg (l : List α) {s m e a b : Nat} (h1 : s ≤ m) (h2 : m ≤ e) (h3 : e ≤ l.length) (ha : a ≤ s) (hb : e ≤ b) : Seg l (rot l s m e) a b := by
  refine Seg.mono (a := s) (b := e) ⟨rot_perm l h1 h2, fun i hi => ?_, fun i x hi1 hi2 hx => ?_⟩ ha hb
  · rw [rot_get l h1 h2 h3]
    rcases hi with hi | hi
    · rw [if_pos hi]
    · rw [if_neg (by omega), if_neg (by omega), if_neg (by omega)]
  · rw [rot_get l h1 h2 h3, if_neg (by omega)] at hx
    split at hx
    · exact ⟨_, by omega, by omega, hx⟩
    · exact ⟨_, by omega, by omega, hx⟩

/-- One element ahead is placed among those behind it. -/
theorem one_ahead (_hw : Way lt ix) {l : List α} {a b i : Nat} {x : α} (hb : b ≤ l.length) (hx : l[a]? = some x) (ho : Ord lt ix l (a + 1) b) (hlo : Low ix l a (a + 1) b) (hi1 : a + 1 ≤ i) (hi2 : i ≤ b)
    (h1 : ∀ k y, a + 1 ≤ k → k < i → l[k]? = some y → lt y x = true) (h2 : ∀ k y, i ≤ k → k < b → l[k]? = some y → lt y x = false) : Seg l (rot l a (a + 1) i) a b ∧ Ord lt ix (rot l a (a + 1) i) a b := by
  refine ⟨rot_seg l (by omega) hi1 (by omega) (Nat.le_refl _) hi2, fun p q u v hp hpq hq hu hv => ?_⟩
  rw [rot_get l (by omega) hi1 (by omega), if_neg (by omega)] at hu hv
  by_cases c1 : p < a + (i - (a + 1))
  · rw [if_pos c1] at hu
    by_cases c2 : q < a + (i - (a + 1))
    · rw [if_pos c2] at hv
      exact ho _ _ u v (by omega) (by omega) (by omega) hu hv
    · rw [if_neg c2] at hv
      by_cases c3 : q < i
      · rw [if_pos c3, show a + (q - (a + (i - (a + 1)))) = a by omega, hx] at hv
        obtain rfl : x = v := Option.some.inj hv
        exact .inl (h1 _ u (by omega) (by omega) hu)
      · rw [if_neg c3] at hv
        exact ho _ _ u v (by omega) (by omega) (by omega) hu hv
  · rw [if_neg c1] at hu
    rw [if_neg (by omega)] at hv
    by_cases c3 : p < i
    · rw [if_pos c3, show a + (p - (a + (i - (a + 1)))) = a by omega, hx] at hu
      obtain rfl : x = u := Option.some.inj hu
      rw [if_neg (by omega)] at hv
      exact .inr ⟨h2 q v (by omega) hq hv, hlo a q x v (by omega) (by omega) (by omega) hq hx hv⟩
    · rw [if_neg c3] at hu
      rw [if_neg (by omega)] at hv
      exact ho _ _ u v (by omega) hpq hq hu hv
/-- One element behind is placed among those ahead of it. -/
theorem one_behind (_hw : Way lt ix) {l : List α} {a m i : Nat} {x : α} (hb : m + 1 ≤ l.length) (hx : l[m]? = some x) (ho : Ord lt ix l a m) (hlo : Low ix l a m (m + 1)) (hi1 : a ≤ i) (hi2 : i ≤ m)
    (h1 : ∀ k y, a ≤ k → k < i → l[k]? = some y → lt x y = false) (h2 : ∀ k y, i ≤ k → k < m → l[k]? = some y → lt x y = true) : Seg l (rot l i m (m + 1)) a (m + 1) ∧ Ord lt ix (rot l i m (m + 1)) a (m + 1) := by
  refine ⟨rot_seg l hi2 (by omega) hb hi1 (Nat.le_refl _), fun p q u v hp hpq hq hu hv => ?_⟩
  rw [rot_get l hi2 (by omega) hb] at hu hv
  by_cases c1 : q < i
  · rw [if_pos c1] at hv
    rw [if_pos (by omega)] at hu
    exact ho p q u v hp hpq (by omega) hu hv
  rw [if_neg c1] at hv
  by_cases c2 : q < i + (m + 1 - m)
  · rw [if_pos c2, show m + (q - i) = m by omega, hx] at hv
    obtain rfl : x = v := Option.some.inj hv
    rw [if_pos (by omega)] at hu
    exact .inr ⟨h1 p u hp (by omega) hu, hlo p m u x hp (by omega) (by omega) (by omega) hu hx⟩
  rw [if_neg c2, if_pos hq] at hv
  by_cases c3 : p < i
  · rw [if_pos c3] at hu
    exact ho p _ u v hp (by omega) (by omega) hu hv
  rw [if_neg c3] at hu
  by_cases c4 : p < i + (m + 1 - m)
  · rw [if_pos c4, show m + (p - i) = m by omega, hx] at hu
    obtain rfl : x = u := Option.some.inj hu
    exact .inl (h2 _ v (by omega) (by omega) hv)
  rw [if_neg c4, if_pos (by omega)] at hu
  exact ho _ _ u v (by omega) (by omega) (by omega) hu hv

/-- Where both parts are cut: what is ahead of the middle then comes ahead of what is behind it. -/
structure Cut (lt : α → α → Bool) (l : List α) (a m b s e mid : Nat) : Prop where
  alo : a ≤ s
  sm : s ≤ m
  me : m ≤ e
  eb : e ≤ b
  bl : b ≤ l.length
  mid : s + e = mid + m
  c1 : ∀ x y, a < s → e < b → l[s - 1]? = some x → l[e]? = some y → lt y x = false
  c2 : ∀ x y, s < m → m < e → l[s]? = some x → l[e - 1]? = some y → lt y x = true
theorem Cut.parts (hw : Way lt ix) {l : List α} {a m b s e mid : Nat} (c : Cut lt l a m b s e mid) (h1 : Ord lt ix l a m) (h2 : Ord lt ix l m b) (hlo : Low ix l a m b) :
    (∀ i j x y, a ≤ i → i < mid → mid ≤ j → j < b → (rot l s m e)[i]? = some x → (rot l s m e)[j]? = some y → R lt ix x y) ∧
    Ord lt ix (rot l s m e) a s ∧ Ord lt ix (rot l s m e) s mid ∧ Low ix (rot l s m e) a s mid ∧ Ord lt ix (rot l s m e) mid e ∧ Ord lt ix (rot l s m e) e b ∧ Low ix (rot l s m e) mid e b := by
  have g := rot_get l c.sm c.me (Nat.le_trans c.eb c.bl)
  have hmid : s + (e - m) = mid := by have := c.mid; have := c.me; omega
  rw [hmid] at g
  have hms : s ≤ mid := by omega
  have hme : mid ≤ e := by have := c.sm; have := c.me; omega
  have bnd := c.alo; have := c.sm; have := c.me; have := c.eb; have := c.bl
  have le_last : ∀ i x y, a ≤ i → i < s → l[i]? = some x → l[s - 1]? = some y → lt y x = false := fun i x y hi1 hi2 hx hy => by
    rcases Nat.lt_or_ge i (s - 1) with h | h
    · exact hw.le (h1 i (s - 1) x y hi1 h (by omega) hx hy)
    · obtain rfl : i = s - 1 := by omega
      rw [hx] at hy; cases hy
      exact hw.irr _
  have first_le : ∀ j x y, e ≤ j → j < b → l[e]? = some x → l[j]? = some y → lt y x = false := fun j x y hj1 hj2 hx hy => by
    rcases Nat.lt_or_ge e j with h | h
    · exact hw.le (h2 e j x y (by omega) h hj2 hx hy)
    · obtain rfl : j = e := by omega
      rw [hx] at hy; cases hy
      exact hw.irr _
  have a1b2 : ∀ i j x y, a ≤ i → i < s → e ≤ j → j < b → l[i]? = some x → l[j]? = some y → R lt ix x y := fun i j x y hi1 hi2 hj1 hj2 hx hy => by
    obtain ⟨u, hu⟩ : ∃ u, l[s - 1]? = some u := ⟨l[s - 1], List.getElem?_eq_getElem (by omega)⟩
    obtain ⟨v, hv⟩ : ∃ v, l[e]? = some v := ⟨l[e], List.getElem?_eq_getElem (by omega)⟩
    have k1 := le_last i x u hi1 hi2 hx hu
    have k2 := c.c1 u v (by omega) (by omega) hu hv
    have k3 := first_le j v y hj1 hj2 hv hy
    exact .inr ⟨hw.ntr y v x k3 (hw.ntr v u x k2 k1), hlo i j x y hi1 (by omega) (by omega) hj2 hx hy⟩
  have b1a2 : ∀ i j x y, m ≤ i → i < e → s ≤ j → j < m → l[i]? = some x → l[j]? = some y → R lt ix x y := fun i j x y hi1 hi2 hj1 hj2 hx hy => by
    obtain ⟨u, hu⟩ : ∃ u, l[e - 1]? = some u := ⟨l[e - 1], List.getElem?_eq_getElem (by omega)⟩
    obtain ⟨v, hv⟩ : ∃ v, l[s]? = some v := ⟨l[s], List.getElem?_eq_getElem (by omega)⟩
    have k2 := c.c2 v u (by omega) (by omega) hv hu
    have k1 : lt u x = false := by
      rcases Nat.lt_or_ge i (e - 1) with h | h
      · exact hw.le (h2 i (e - 1) x u hi1 h (by omega) hx hu)
      · obtain rfl : i = e - 1 := by omega
        rw [hx] at hu; cases hu
        exact hw.irr _
    have k3 : lt y v = false := by
      rcases Nat.lt_or_ge s j with h | h
      · exact hw.le (h1 s j v y (by omega) h hj2 hv hy)
      · obtain rfl : j = s := by omega
        rw [hv] at hy; cases hy
        exact hw.irr _
    exact .inl (hw.lt_le (hw.le_lt k1 k2) k3)
  refine ⟨fun i j x y hi1 hi2 hj1 hj2 hx hy => ?_, fun i j x y hi1 hij hj hx hy => ?_, fun i j x y hi1 hij hj hx hy => ?_, fun i j x y hi1 hi2 hj1 hj2 hx hy => ?_, fun i j x y hi1 hij hj hx hy => ?_, fun i j x y hi1 hij hj hx hy => ?_, fun i j x y hi1 hi2 hj1 hj2 hx hy => ?_⟩
  · rw [g] at hx hy
    rw [if_neg (show ¬ j < s by omega), if_neg (show ¬ j < mid by omega)] at hy
    by_cases k1 : i < s
    · rw [if_pos k1] at hx
      by_cases k2 : j < e
      · rw [if_pos k2] at hy
        exact h1 i _ x y hi1 (by omega) (by omega) hx hy
      · rw [if_neg k2] at hy
        exact a1b2 i j x y hi1 k1 (by omega) hj2 hx hy
    · rw [if_neg k1, if_pos hi2] at hx
      by_cases k2 : j < e
      · rw [if_pos k2] at hy
        exact b1a2 _ _ x y (by omega) (by omega) (by omega) (by omega) hx hy
      · rw [if_neg k2] at hy
        exact h2 _ j x y (by omega) (by omega) hj2 hx hy
  · rw [g, if_pos (show i < s by omega)] at hx
    rw [g, if_pos (show j < s by omega)] at hy
    exact h1 i j x y hi1 hij (by omega) hx hy
  · rw [g, if_neg (show ¬ i < s by omega), if_pos (show i < mid by omega)] at hx
    rw [g, if_neg (show ¬ j < s by omega), if_pos (show j < mid by omega)] at hy
    exact h2 _ _ x y (by omega) (by omega) (by omega) hx hy
  · rw [g, if_pos hi2] at hx
    rw [g, if_neg (show ¬ j < s by omega), if_pos hj2] at hy
    exact hlo _ _ x y hi1 (by omega) (by omega) (by omega) hx hy
  · rw [g, if_neg (show ¬ i < s by omega), if_neg (show ¬ i < mid by omega), if_pos (show i < e by omega)] at hx
    rw [g, if_neg (show ¬ j < s by omega), if_neg (show ¬ j < mid by omega), if_pos hj] at hy
    exact h1 _ _ x y (by omega) (by omega) (by omega) hx hy
  · rw [g, if_neg (show ¬ i < s by omega), if_neg (show ¬ i < mid by omega), if_neg (show ¬ i < e by omega)] at hx
    rw [g, if_neg (show ¬ j < s by omega), if_neg (show ¬ j < mid by omega), if_neg (show ¬ j < e by omega)] at hy
    exact h2 _ _ x y (by omega) hij hj hx hy
  · rw [g, if_neg (show ¬ i < s by omega), if_neg (show ¬ i < mid by omega), if_pos hi2] at hx
    rw [g, if_neg (show ¬ j < s by omega), if_neg (show ¬ j < mid by omega), if_neg (show ¬ j < e by omega)] at hy
    exact hlo _ _ x y (by omega) (by omega) (by omega) hj2 hx hy
/-- Both halves put in order: the whole is. -/
theorem whole {l l1 l2 l3 : List α} {a mid b : Nat} (hx : ∀ i j x y, a ≤ i → i < mid → mid ≤ j → j < b → l1[i]? = some x → l1[j]? = some y → R lt ix x y) (ham : a ≤ mid) (hmb : mid ≤ b)
    (s1 : Seg l l1 a b) (s2 : Seg l1 l2 a mid) (o2 : Ord lt ix l2 a mid) (s3 : Seg l2 l3 mid b) (o3 : Ord lt ix l3 mid b) : Seg l l3 a b ∧ Ord lt ix l3 a b := by
  refine ⟨s1.trans ((s2.mono (Nat.le_refl _) hmb).trans (s3.mono ham (Nat.le_refl _))), fun i j x y h1 h2 h3 hxi hyj => ?_⟩
  by_cases k1 : j < mid
  · exact o2 i j x y h1 h2 k1 (by rw [← s3.out i (by omega)]; exact hxi) (by rw [← s3.out j (by omega)]; exact hyj)
  by_cases k2 : mid ≤ i
  · exact o3 i j x y k2 h2 h3 hxi hyj
  rw [s3.out i (by omega)] at hxi
  obtain ⟨i', p1, p2, p3⟩ := s2.inn i x h1 (by omega) hxi
  obtain ⟨j', q1, q2, q3⟩ := s3.inn j y (by omega) h3 hyj
  rw [s2.out j' (by omega)] at q3
  exact hx i' j' x y p1 p2 q1 q2 p3 q3

/-- Two parts of one length change places: what swapRange does. -/
theorem Ord.le_of (hw : Way lt ix) {l : List α} {a b : Nat} (h : Ord lt ix l a b) {i j : Nat} {x y : α} (h1 : a ≤ i) (h2 : i < j) (h3 : j < b) (hx : l[i]? = some x) (hy : l[j]? = some y) : lt y x = false := hw.le (h i j x y h1 h2 h3 hx hy)
end Stb
end Go.Proofs.YtpfohfihkmjnaaaGreatDoor
namespace Go.Proofs.YtpfohfihkmjnaaaGreatDoor
open Go.RowKit

/-- A group of files. -/
structure Gp where
  part : Str
  n : Int
  paths : List Str
def fitsG (f : Fl) (g : Gp) : Bool := g.part == f.part && decide (g.n + f.n ≤ 40)
def growG (f : Fl) (g : Gp) : Gp := ⟨g.part, g.n + f.n, g.paths ++ [f.path]⟩
def putG (f : Fl) : List Gp → List Gp
  | [] => [growG f ⟨f.part, 0, []⟩]
  | g :: r => if fitsG f g then growG f g :: r else g :: putG f r
def smallF (least : Int) (f : Fl) : Bool := !isG f && decide (f.n < least)
def groupsG (least : Int) (l : List Fl) : List Gp := (l.filter (smallF least)).foldl (fun gs f => putG f gs) []
def partsF (l : List Fl) : List Str := (l.filter fun f => !isG f).foldl (fun ps f => withL ps f.part) []
def manyG (g : Gp) : Bool := decide (1 < g.paths.length)
def ofPart (p : Str) (gs : List Gp) : List Gp := gs.filter fun g => g.part == p
def planE (l : List Fl) (least : Int) : Er := if listCheck l ≠ .nil then listCheck l else if least < 0 ∨ 41 < least then .bare 2 else .nil
def planAll (l : List Fl) (least : Int) : List (List Str) := (partsF l).flatMap fun p => ((ofPart p (groupsG least l)).filter manyG).map (·.paths)
def planL (l : List Fl) (least : Int) : List (List Str) := if planE l least = .nil then planAll l least else []

theorem putG_hit {f : Fl} : ∀ {gs : List Gp} {k : Nat} {g : Gp}, gs[k]? = some g → fitsG f g = true → (∀ j < k, ∀ x, gs[j]? = some x → fitsG f x = false) → putG f gs = gs.take k ++ growG f g :: gs.drop (k + 1)
  | [], k, g, h, _, _ => by simp at h
  | x :: r, 0, g, h, h1, _ => by
    obtain rfl : x = g := by simpa using h
    unfold putG
    rw [if_pos h1]; rfl
  | x :: r, k + 1, g, h, h1, h2 => by
    have hx := h2 0 (by omega) x rfl
    unfold putG
    rw [if_neg (by rw [hx]; decide), putG_hit (k := k) (by simpa using h) h1 (fun j hj y hy => h2 (j + 1) (by omega) y (by simpa using hy))]
    rfl
theorem putG_miss {f : Fl} : ∀ {gs : List Gp}, (∀ x ∈ gs, fitsG f x = false) → putG f gs = gs ++ [growG f ⟨f.part, 0, []⟩]
  | [], _ => rfl
  | x :: r, h => by
    unfold putG
    rw [if_neg (by rw [h x (by simp)]; decide), putG_miss fun y hy => h y (by simp [hy])]
    rfl
theorem ofPart_put (p : Str) (f : Fl) : ∀ gs : List Gp, ofPart p (putG f gs) = if f.part = p then putG f (ofPart p gs) else ofPart p gs
  | [] => by
    by_cases h : f.part = p
    · simp [putG, ofPart, growG, h]
    · simp [putG, ofPart, growG, h]
  | g :: r => by
    have ih := ofPart_put p f r
    by_cases hf : fitsG f g = true
    · have hgp : g.part = f.part := by unfold fitsG at hf; simp at hf; exact hf.1
      unfold putG
      rw [if_pos hf]
      by_cases h : f.part = p
      · rw [if_pos h]
        have e1 : ofPart p (growG f g :: r) = growG f g :: ofPart p r := List.filter_cons_of_pos (by simp [growG, hgp, h])
        have e2 : ofPart p (g :: r) = g :: ofPart p r := List.filter_cons_of_pos (by simp [hgp, h])
        rw [e1, e2]
        show _ = (if fitsG f g = true then growG f g :: ofPart p r else g :: putG f (ofPart p r))
        rw [if_pos hf]
      · rw [if_neg h]
        have e1 : ofPart p (growG f g :: r) = ofPart p r := List.filter_cons_of_neg (by simp [growG, hgp, h])
        have e2 : ofPart p (g :: r) = ofPart p r := List.filter_cons_of_neg (by simp [hgp, h])
        rw [e1, e2]
    · have hpg : putG f (g :: r) = g :: putG f r := if_neg hf
      rw [hpg]
      by_cases hg : g.part = p
      · have e1 : ∀ r : List Gp, ofPart p (g :: r) = g :: ofPart p r := fun r => List.filter_cons_of_pos (by simp [hg])
        rw [e1, e1, ih]
        by_cases h : f.part = p
        · rw [if_pos h, if_pos h]
          show _ = (if fitsG f g = true then growG f g :: ofPart p r else g :: putG f (ofPart p r))
          rw [if_neg hf]
        · rw [if_neg h, if_neg h]
      · have e1 : ∀ r : List Gp, ofPart p (g :: r) = ofPart p r := fun r => List.filter_cons_of_neg (by simp [hg])
        rw [e1, e1, ih]
/-- The groups of a part alone. -/
def groupsOf (p : Str) (least : Int) (l : List Fl) : List Gp := (l.filter fun f => f.part == p && smallF least f).foldl (fun gs f => putG f gs) []
theorem ofPart_fold (p : Str) : ∀ (l : List Fl) (gs : List Gp), ofPart p (l.foldl (fun gs f => putG f gs) gs) = (l.filter fun f => f.part == p).foldl (fun gs f => putG f gs) (ofPart p gs)
  | [], _ => rfl
  | f :: l, gs => by
    rw [List.foldl_cons, ofPart_fold p l, ofPart_put]
    by_cases h : f.part = p
    · rw [if_pos h, List.filter_cons_of_pos (by simp [h]), List.foldl_cons]
    · rw [if_neg h, List.filter_cons_of_neg (by simp [h])]
theorem ofPart_groups (p : Str) (least : Int) (l : List Fl) : ofPart p (groupsG least l) = groupsOf p least l := by
  unfold groupsG groupsOf
  rw [ofPart_fold, List.filter_filter]
  rfl
theorem mem_putG {f : Fl} {g : Gp} : ∀ {gs : List Gp}, g ∈ putG f gs → g ∈ gs ∨ ∃ h : Gp, (h ∈ gs ∨ h = ⟨f.part, 0, []⟩) ∧ h.part = f.part ∧ h.n + f.n ≤ max 40 f.n ∧ g = growG f h
  | [], h => by
    obtain rfl : g = _ := by simpa [putG] using h
    exact .inr ⟨_, .inr rfl, rfl, by simp; omega, rfl⟩
  | x :: r, h => by
    unfold putG at h
    split at h
    · rename_i hf
      unfold fitsG at hf
      simp only [Bool.and_eq_true, beq_iff_eq, decide_eq_true_eq] at hf
      rcases List.mem_cons.1 h with rfl | h
      · exact .inr ⟨x, .inl (by simp), hf.1, by omega, rfl⟩
      · exact .inl (by simp [h])
    · rcases List.mem_cons.1 h with rfl | h
      · exact .inl (by simp)
      · rcases mem_putG h with h | ⟨y, h1, h2, h3, h4⟩
        · exact .inl (by simp [h])
        · exact .inr ⟨y, h1.imp (fun h => by simp [h]) id, h2, h3, h4⟩
theorem putG_parts {f : Fl} {gs : List Gp} {ps : List Str} (h : ∀ g ∈ gs, g.part ∈ ps) (hf : f.part ∈ ps) : ∀ g ∈ putG f gs, g.part ∈ ps := fun g hg => by
  rcases mem_putG hg with hg | ⟨y, -, h2, -, rfl⟩
  · exact h g hg
  · show y.part ∈ ps
    rw [h2]; exact hf
theorem mem_fold_with : ∀ (l : List Fl) (ps : List Str) (p : Str), p ∈ l.foldl (fun ps f => withL ps f.part) ps ↔ p ∈ ps ∨ ∃ f ∈ l, f.part = p
  | [], ps, p => by simp
  | f :: l, ps, p => by
    rw [List.foldl_cons, mem_fold_with l, mem_withL]
    constructor
    · rintro ((rfl | h) | ⟨g, hg, e⟩)
      · exact .inr ⟨f, by simp, rfl⟩
      · exact .inl h
      · exact .inr ⟨g, by simp [hg], e⟩
    · rintro (h | ⟨g, hg, e⟩)
      · exact .inl (.inr h)
      · rcases List.mem_cons.1 hg with rfl | hg
        · exact .inl (.inl e.symm)
        · exact .inr ⟨g, hg, e⟩
theorem up_fold_with : ∀ (l : List Fl) (ps : List Str), upS ps → upS (l.foldl (fun ps f => withL ps f.part) ps)
  | [], _, h => h
  | _ :: l, _, h => up_fold_with l _ (up_withL h)
theorem mem_partsF {l : List Fl} {p : Str} : p ∈ partsF l ↔ ∃ f ∈ l, isG f = false ∧ f.part = p := by
  unfold partsF
  rw [mem_fold_with]
  simp only [List.mem_filter, Bool.not_eq_true', List.not_mem_nil, false_or]
  constructor
  · rintro ⟨f, ⟨h1, h2⟩, h3⟩; exact ⟨f, h1, h2, h3⟩
  · rintro ⟨f, h1, h2, h3⟩; exact ⟨f, ⟨h1, h2⟩, h3⟩
theorem partsF_up (l : List Fl) : upS (partsF l) := up_fold_with _ _ List.Pairwise.nil
theorem fold_parts : ∀ (l : List Fl) (gs : List Gp) (ps : List Str), (∀ g ∈ gs, g.part ∈ ps) → (∀ f ∈ l, f.part ∈ ps) → ∀ g ∈ l.foldl (fun gs f => putG f gs) gs, g.part ∈ ps
  | [], _, _, h, _ => h
  | f :: l, gs, ps, h, hl => fold_parts l _ ps (putG_parts h (hl f (by simp))) fun x hx => hl x (by simp [hx])
theorem groups_parts (least : Int) (l : List Fl) : ∀ g ∈ groupsG least l, g.part ∈ partsF l := by
  refine fold_parts _ _ _ (fun _ h => (by cases h)) fun f hf => ?_
  obtain ⟨h1, h2⟩ := List.mem_filter.1 hf
  unfold smallF at h2
  simp only [Bool.and_eq_true, Bool.not_eq_true'] at h2
  exact mem_partsF.2 ⟨f, h1, h2.1, rfl⟩

/-- A strict order's sorted list is one. -/
theorem strict_unique {α : Type} {r : α → α → Prop} (irr : ∀ x, ¬ r x x) (asy : ∀ x y, r x y → ¬ r y x) : ∀ {a b : List α}, a.Perm b → a.Pairwise r → b.Pairwise r → a = b
  | [], b, h, _, _ => h.nil_eq.symm ▸ rfl
  | x :: a, [], h, _, _ => absurd h.length_eq (by simp)
  | x :: a, y :: b, h, ha, hb => by
    obtain ⟨a1, a2⟩ := List.pairwise_cons.1 ha
    obtain ⟨b1, b2⟩ := List.pairwise_cons.1 hb
    have hx : x ∈ y :: b := h.mem_iff.1 (by simp)
    have hy : y ∈ x :: a := h.mem_iff.2 (by simp)
    have e : x = y := by
      rcases List.mem_cons.1 hx with e | hx
      · exact e
      · rcases List.mem_cons.1 hy with e | hy
        · exact e.symm
        · exact absurd (a1 y hy) (asy _ _ (b1 x hx))
    subst e
    rw [strict_unique irr asy (List.Perm.cons_inv h) a2 b2]
/-- What is sorted by parts, and among equals as it stood, is part by part. -/
theorem by_parts {α : Type} {part : α → Str} {ix : α → Nat} {gl m : List α} {ps : List Str} (hup : upS ps) (hin : ∀ g ∈ gl, part g ∈ ps) (hix : gl.Pairwise (fun a b => ix a < ix b)) (hp : m.Perm gl)
    (hm : m.Pairwise (Stb.R (fun a b => bef (part a) (part b)) ix)) : m = ps.flatMap fun p => gl.filter fun g => part g == p := by
  have hnd : ∀ {l : List α}, l.Pairwise (fun a b => ix a < ix b) → l.Nodup := fun h => h.imp fun hlt e => by rw [e] at hlt; omega
  refine strict_unique (r := Stb.R (fun a b => bef (part a) (part b)) ix) (fun x h => ?_) (fun x y h k => ?_) (hp.trans ?_) hm ?_
  · rcases h with h | h
    · simp only [bef_irr] at h; cases h
    · omega
  · rcases h with h | h <;> rcases k with k | k
    · simp only at h k
      have := bef_trans h k
      rw [bef_irr] at this; cases this
    · simp only at h k; rw [h] at k; cases k.1
    · simp only at h k; rw [k] at h; cases h.1
    · omega
  · refine (List.perm_ext_iff_of_nodup (hnd hix) ?_).2 fun g => ?_
    · rw [List.Nodup, List.pairwise_flatMap]
      refine ⟨fun p _ => (hnd hix).sublist List.filter_sublist, ?_⟩
      refine hup.imp fun {a b} hab => ?_
      intro x hx y hy e
      subst e
      have h1 := (List.mem_filter.1 hx).2
      have h2 := (List.mem_filter.1 hy).2
      simp only [beq_iff_eq] at h1 h2
      rw [← h1, ← h2, bef_irr] at hab
      cases hab
    · rw [List.mem_flatMap]
      constructor
      · intro hg
        exact ⟨part g, hin g hg, List.mem_filter.2 ⟨hg, by simp⟩⟩
      · rintro ⟨p, -, hg⟩
        exact (List.mem_filter.1 hg).1
  · rw [List.pairwise_flatMap]
    refine ⟨fun p _ => ?_, ?_⟩
    · refine (hix.filter _).imp_of_mem fun {a b} ha hb hlt => ?_
      have h1 := (List.mem_filter.1 ha).2
      have h2 := (List.mem_filter.1 hb).2
      simp only [beq_iff_eq] at h1 h2
      refine .inr ⟨?_, hlt⟩
      simp only [h1, h2, bef_irr]
    · refine hup.imp fun {a b} hab => ?_
      intro x hx y hy
      have h1 := (List.mem_filter.1 hx).2
      have h2 := (List.mem_filter.1 hy).2
      simp only [beq_iff_eq] at h1 h2
      refine .inl ?_
      simp only [h1, h2]
      exact hab
theorem way_part {α : Type} {part : α → Str} {ix : α → Nat} : Stb.Way (fun a b : α => bef (part a) (part b)) ix where
  irr x := bef_irr _
  tra x y z h1 h2 := bef_trans h1 h2
  ntr x y z h1 h2 := by
    cases h : bef (part x) (part z) with
    | false => rfl
    | true =>
      by_cases e : part y = part x
      · simp only [e] at h2; rw [h] at h2; cases h2
      · have hyx := bef_tri (fun e' => e e'.symm) h1
        have := bef_trans hyx h
        rw [this] at h2; cases h2
end Go.Proofs.YtpfohfihkmjnaaaGreatDoor
namespace Go.Proofs.YtpfohfihkmjnaaaGreatDoor
open Go.RowKit Go.Maps

abbrev encP (b : Nat) : List Value := [.pointer (some ⟨b, 0, none⟩)]
theorem encP_enc : Enc encP 1 := fun x => ⟨rfl, by simp [Value.oneCell']⟩
abbrev gpObj (tG : TypeId) (g : Gp) (v : Value) : Obj := .cells #[S g.part, .int .i64 g.n, v] tG (0, 0)
structure GpAt (tG : TypeId) (w : World) (B b : Nat) (v : Value) (g : Gp) : Prop where
  blk : w.heap[b]? = some (gpObj tG g v)
  own : Own encS 9 1 B w v g.paths
  le : B ≤ b
structure GpsAt (tG : TypeId) (w : World) (B : Nat) (bs : List Nat) (vs : List Value) (gs : List Gp) : Prop where
  lb : bs.length = gs.length
  lv : vs.length = gs.length
  each : ∀ (k b : Nat) (v : Value) (g : Gp), bs[k]? = some b → vs[k]? = some v → gs[k]? = some g → GpAt tG w B b v g
  nd : ∀ i j b : Nat, bs[i]? = some b → bs[j]? = some b → i = j
  ap : ∀ (i j : Nat) (u v : Value) (b : Nat), vs[i]? = some u → vs[j]? = some v → u.ownBlock = some b → v.ownBlock = some b → i = j
section
variable {tG : TypeId} {w w' : World} {B b k : Nat} {v : Value} {g : Gp} {bs : List Nat} {vs : List Value} {gs : List Gp}
theorem GpAt.lt (h : GpAt tG w B b v g) : b < w.heap.size := (Array.getElem?_eq_some_iff.1 h.blk).1
theorem GpAt.cells (h : GpAt tG w B b v g) : w.cell? ⟨b, 0, none⟩ = some (S g.part) ∧ w.cell? ⟨b, 1, none⟩ = some (.int .i64 g.n) ∧ w.cell? ⟨b, 2, none⟩ = some v ∧ ∀ i, w.frozen? ⟨b, i, none⟩ = false := by
  refine ⟨?_, ?_, ?_, fun i => frozen_row h.blk⟩ <;> (rw [cell_of_row w _ _ _ _ (0, 0) h.blk]; rfl)
theorem GpAt.below (h : GpAt tG w B b v g) (hb : Below w.heap.size w w') : GpAt tG w' B b v g := ⟨rowKept h.blk hb, h.own.below hb, h.le⟩
theorem GpsAt.nil (tG : TypeId) (w : World) (B : Nat) : GpsAt tG w B [] [] [] := ⟨rfl, rfl, fun _ _ _ _ h => (by simp at h), fun _ _ _ h => (by simp at h), fun _ _ _ _ _ h => (by simp at h)⟩
theorem GpsAt.below (h : GpsAt tG w B bs vs gs) (hb : Below w.heap.size w w') : GpsAt tG w' B bs vs gs := { h with each := fun k b v g h1 h2 h3 => (h.each k b v g h1 h2 h3).below hb }
theorem GpsAt.kept {e : TypeId} (h : GpsAt tG w B bs vs gs) (hk : KeptBut e w w') (h1 : tG ≠ e) (h2 : 9 ≠ e) : GpsAt tG w' B bs vs gs :=
  { h with each := fun k b v g a1 a2 a3 => ⟨hk.2 b _ (h.each k b v g a1 a2 a3).blk (fun cs hc => by cases hc; exact h1 rfl), hk.own h2 (h.each k b v g a1 a2 a3).own, (h.each k b v g a1 a2 a3).le⟩ }
theorem GpsAt.get (h : GpsAt tG w B bs vs gs) (hg : gs[k]? = some g) : ∃ b v, bs[k]? = some b ∧ vs[k]? = some v ∧ GpAt tG w B b v g := by
  have hk := (List.getElem?_eq_some_iff.1 hg).1
  have h1 : ∃ b, bs[k]? = some b := ⟨_, List.getElem?_eq_getElem (by rw [h.lb]; exact hk)⟩
  obtain ⟨b, h1⟩ := h1
  have h2 : ∃ v, vs[k]? = some v := ⟨_, List.getElem?_eq_getElem (by rw [h.lv]; exact hk)⟩
  obtain ⟨v, h2⟩ := h2
  exact ⟨_, v, h1, h2, h.each k _ v g h1 h2 hg⟩
/-- A group more, made anew. -/
theorem GpsAt.push (h : GpsAt tG w B bs vs gs) (hB : B ≤ w.heap.size) (p : Str) : GpsAt tG (w.alloc (.cells #[S p, .int .i64 0, .slice none 0 0] tG)) B (bs ++ [w.heap.size]) (vs ++ [.slice none 0 0]) (gs ++ [⟨p, 0, []⟩]) := by
  have hb : Below w.heap.size w (w.alloc (.cells #[S p, .int .i64 0, .slice none 0 0] tG)) := (Below.refl _ _).alloc (Nat.le_refl _) _
  have hlt : ∀ i b : Nat, bs[i]? = some b → b < w.heap.size := fun i b hi => by
    obtain ⟨hi1, -⟩ := List.getElem?_eq_some_iff.1 hi
    obtain ⟨g, hg⟩ : ∃ g, gs[i]? = some g := ⟨_, List.getElem?_eq_getElem (by rw [← h.lb]; exact hi1)⟩
    obtain ⟨v, hv⟩ : ∃ v, vs[i]? = some v := ⟨_, List.getElem?_eq_getElem (by rw [h.lv, ← h.lb]; exact hi1)⟩
    exact (h.each i b v g hi hv hg).lt
  have hs : ∀ {α : Type} {l : List α} {x y : α} {i : Nat}, (l ++ [x])[i]? = some y → l[i]? = some y ∨ (i = l.length ∧ y = x) := fun {α l x y i} hi => by
    rcases Nat.lt_or_ge i l.length with hl | hl
    · rw [List.getElem?_append_left hl] at hi; exact .inl hi
    · rw [List.getElem?_append_right hl] at hi
      have h0 : i - l.length = 0 := by
        have := (List.getElem?_eq_some_iff.1 hi).1
        simp at this; omega
      rw [h0] at hi
      exact .inr ⟨by omega, (Option.some.inj hi).symm⟩
  refine ⟨by simp [h.lb], by simp [h.lv], fun k b v g h1 h2 h3 => ?_, fun i j b h1 h2 => ?_, fun i j u v b h1 h2 h3 h4 => ?_⟩
  · rcases hs h3 with h3 | ⟨e3, rfl⟩
    · have hk := (List.getElem?_eq_some_iff.1 h3).1
      rw [List.getElem?_append_left (by rw [h.lb]; exact hk)] at h1
      rw [List.getElem?_append_left (by rw [h.lv]; exact hk)] at h2
      exact (h.each k b v g h1 h2 h3).below hb
    · rcases hs h1 with h1 | ⟨-, rfl⟩
      · have := (List.getElem?_eq_some_iff.1 h1).1; rw [h.lb] at this; omega
      rcases hs h2 with h2 | ⟨-, rfl⟩
      · have := (List.getElem?_eq_some_iff.1 h2).1; rw [h.lv] at this; omega
      exact ⟨heap_alloc_new w _, Own.nil _ _ _ _ _, hB⟩
  · rcases hs h1 with h1 | ⟨e1, rfl⟩ <;> rcases hs h2 with h2 | ⟨e2, e3⟩
    · exact h.nd i j b h1 h2
    · have := hlt i b h1; omega
    · have := hlt j _ h2; omega
    · omega
  · rcases hs h1 with h1 | ⟨e1, rfl⟩
    · rcases hs h2 with h2 | ⟨e2, rfl⟩
      · exact h.ap i j u v b h1 h2 h3 h4
      · simp [Value.ownBlock] at h4
    · simp [Value.ownBlock] at h3
theorem own_set {α : Type} {enc : α → List Value} {e : TypeId} {sz : Nat} {l : List α} {u x : Value} {c i : Nat} {o : Obj} (h : Own enc e sz B w u l) (ho : w.heap[c]? = some o) (hne : ∀ cs, o ≠ .cells cs e (0, 0)) : Own enc e sz B (w.setCell ⟨c, i, none⟩ x) u l :=
  own_but h (own_ne h ho hne) (own_ne h ho hne) (But2.set (mb := c) w i x)
/-- A group's number is written. -/
theorem GpsAt.setN (h : GpsAt tG w B bs vs gs) (hb : bs[k]? = some b) (hg : gs[k]? = some g) (hs : 9 ≠ tG) (n : Int) : GpsAt tG (w.setCell ⟨b, 1, none⟩ (.int .i64 n)) B bs vs (gs.set k ⟨g.part, n, g.paths⟩) := by
  obtain ⟨b', v, hb', hv, hat⟩ := h.get hg
  rw [hb] at hb'
  obtain rfl := Option.some.inj hb'
  have hk := (List.getElem?_eq_some_iff.1 hg).1
  refine ⟨by rw [List.length_set]; exact h.lb, by rw [List.length_set]; exact h.lv, fun j c u x h1 h2 h3 => ?_, h.nd, h.ap⟩
  by_cases hj : j = k
  · subst hj
    rw [hb] at h1
    obtain rfl := Option.some.inj h1
    rw [hv] at h2
    obtain rfl := Option.some.inj h2
    rw [List.getElem?_set_self hk] at h3
    obtain rfl := Option.some.inj h3
    exact ⟨heap_setCell_same w b 1 _ tG _ hat.blk, own_set hat.own hat.blk (fun cs hc => by cases hc; exact hs rfl), hat.le⟩
  · rw [List.getElem?_set_ne (by omega)] at h3
    have hx := h.each j c u x h1 h2 h3
    have hne : b ≠ c := fun e => hj (h.nd j k b (by rw [h1, e]) hb)
    exact ⟨(set_other hne _).trans hx.blk, own_set hx.own hat.blk (fun cs hc => by cases hc; exact hs rfl), hx.le⟩
/-- A group has one path more. -/
theorem GpsAt.setP {w1 w2 : World} {v' : Value} {p : Str} (h : GpsAt tG w B bs vs gs) (h1w : Below w.heap.size w w1) (hb : bs[k]? = some b) (hv : vs[k]? = some v) (hg : gs[k]? = some g) (hs : 9 ≠ tG)
    (ho : Own encS 9 1 B w2 v' (g.paths ++ [p])) (hgr : w1.grownBy w2 v.ownBlock) (hfr : v'.ownBlock = v.ownBlock ∨ v'.ownBlock = some w1.heap.size) :
    GpsAt tG (w2.setCell ⟨b, 2, none⟩ v') B bs (vs.set k v') (gs.set k ⟨g.part, g.n, g.paths ++ [p]⟩) := by
  have hat := h.each k b v g hb hv hg
  have hk := (List.getElem?_eq_some_iff.1 hg).1
  have hkv := (List.getElem?_eq_some_iff.1 hv).1
  have hlt : ∀ (j : Nat) (u : Value), vs[j]? = some u → ∀ c, u.ownBlock = some c → c < w.heap.size := fun j u hj c hc => by
    obtain ⟨hj1, -⟩ := List.getElem?_eq_some_iff.1 hj
    obtain ⟨x, hx⟩ : ∃ x, gs[j]? = some x := ⟨_, List.getElem?_eq_getElem (by rw [← h.lv]; exact hj1)⟩
    obtain ⟨c', u', h1', h2', h3'⟩ := h.get hx
    rw [hj] at h2'
    obtain rfl := Option.some.inj h2'
    exact (World.ownsRow.lt h3'.own c hc).2
  have hblk : ∀ (j c : Nat) (u : Value) (x : Gp), bs[j]? = some c → vs[j]? = some u → gs[j]? = some x → w2.heap[c]? = some (gpObj tG x u) := fun j c u x h1 h2 h3 => by
    have hx := h.each j c u x h1 h2 h3
    have h4 := rowKept hx.blk h1w
    refine (hgr.block c (Array.getElem?_eq_some_iff.1 h4).1 fun e => ?_).trans h4
    exact own_ne hat.own hx.blk (fun cs hc => by cases hc; exact hs rfl) e.symm
  have hb2 := hblk k b v g hb hv hg
  refine ⟨by rw [List.length_set]; exact h.lb, by rw [List.length_set, List.length_set]; exact h.lv, fun j c u x h1 h2 h3 => ?_, h.nd, fun i j u x c h1 h2 h3 h4 => ?_⟩
  · by_cases hj : j = k
    · subst hj
      rw [hb] at h1
      obtain rfl := Option.some.inj h1
      rw [List.getElem?_set_self hkv] at h2
      obtain rfl := Option.some.inj h2
      rw [List.getElem?_set_self hk] at h3
      obtain rfl := Option.some.inj h3
      exact ⟨heap_setCell_same w2 b 2 _ tG _ hb2, own_set ho hb2 (fun cs hc => by cases hc; exact hs rfl), hat.le⟩
    · rw [List.getElem?_set_ne (by omega)] at h2 h3
      have hx := h.each j c u x h1 h2 h3
      have hne : b ≠ c := fun e => hj (h.nd j k b (by rw [h1, e]) hb)
      refine ⟨(set_other hne _).trans (hblk j c u x h1 h2 h3), own_set ?_ hb2 (fun cs hc => by cases hc; exact hs rfl), hx.le⟩
      have ho1 := hx.own.below h1w
      refine own_grown ho1 hgr fun c hc hc' => hj (h.ap j k u v c h2 hv hc' hc)
  · have key : ∀ (i : Nat) (u : Value), (vs.set k v')[i]? = some u → u.ownBlock = some c → (i = k ∧ u = v') ∨ (i ≠ k ∧ vs[i]? = some u) := fun i u hi _ => by
      by_cases hik : i = k
      · subst hik
        rw [List.getElem?_set_self hkv] at hi
        exact .inl ⟨rfl, (Option.some.inj hi).symm⟩
      · rw [List.getElem?_set_ne (by omega)] at hi
        exact .inr ⟨hik, hi⟩
    have one : ∀ (j : Nat) (x : Value), j ≠ k → vs[j]? = some x → x.ownBlock = some c → v'.ownBlock = some c → False := fun j x hjk hj hx hc => by
      rcases hfr with hfr | hfr
      · exact hjk (h.ap j k x v c hj hv hx (by rw [← hfr]; exact hc))
      · rw [hfr] at hc
        obtain rfl := Option.some.inj hc
        have := hlt j x hj _ hx
        have := h1w.size
        omega
    rcases key i u h1 h3 with ⟨rfl, rfl⟩ | ⟨hi, hi'⟩ <;> rcases key j x h2 h4 with ⟨rfl, rfl⟩ | ⟨hj, hj'⟩
    · rfl
    · exact (one j x hj hj' h4 h3).elim
    · exact (one i u hi hi' h3 h4).elim
    · exact h.ap i j u x c hi' hj' h3 h4
end
end Go.Proofs.YtpfohfihkmjnaaaGreatDoor
namespace Go.Proofs.YtpfohfihkmjnaaaGreatDoor
open Go.RowKit Go.Maps

abbrev ptG (x : Gp × Nat) : Value := .pointer (some ⟨x.2, 0, none⟩)
abbrev encQ (x : Gp × Nat) : List Value := [.pointer (some ⟨x.2, 0, none⟩)]
theorem encQ_enc : Enc encQ 1 := fun x => ⟨rfl, by simp [Value.oneCell']⟩
theorem szPg (w : World) : (sizeOf 86).run Tryz.prog w = .ok 1 w := by kernel_rfl
theorem indexFuncG_any (f : FuncId) (caps : Array Value) (p : Gp × Nat → Bool) (base : Nat) (w0 : World) (v : Value) (l : List (Gp × Nat)) (w : World) (hf : Clo Tryz.prog f) (hp : PredOn Tryz.prog f caps ptG l p base w0)
    (hl : At encQ 1 w v l) (hw : Below base w0 w) (hB : base ≤ w.heap.size) :
    Calls Tryz.prog 39 #[v, .func (.func f) #[] caps] w fun e w' => e = .returned (.int .i64 (idxVal p l)) ∧ Below w.heap.size w w' := by
  obtain ⟨a, c, b, o, rfl, ha, hc, hcm, hx⟩ := hl
  unfold maxLen at hcm
  have hf' := hf
  unfold Clo at hf'
  go_enter Tryz.func39, Tryz.ntmps39
  go_wp2_with fail
  go_loopw [8] (fun i wr => ∃ k : Nat, k ≤ l.length ∧ i = .int .i64 k ∧ Hid (∀ j y, j < k → l[j]? = some y → p y = false) ∧ Below w.heap.size w wr) (fun i _ => l.length - (intOf i).toNat)
  case atStart => exact ⟨0, by omega, rfl, fun j y hj => absurd hj (by omega), Below.refl _ _⟩
  case round =>
    obtain ⟨k, hk, rfl, hj, hb⟩ := hrel
    by_cases hlt : k < l.length
    · obtain ⟨x, hxk⟩ := get_ex hlt
      have c1 := hx k x hxk 0 _ rfl
      have c1 := (hb.cell (World.block_lt_of_cell? w _ c1)).trans c1
      have i1 := idx_at (c := c) 1 Tryz.underlying84 szPg ha k hlt
      have hk1 : (k : Int) < (l.length : Int) := by omega
      simp only [Nat.mul_one, Nat.add_zero] at c1 i1
      have hpx := hp wr x (List.mem_of_getElem? hxk) (hw.trans (hb.mono hB)) (Nat.le_trans hB hb.size)
      have Hp := Lib.hid hpx; clear hpx
      have Hx := Lib.hid hxk; clear hxk
      go_wp2_with fail
      refine Hp.out.mono ?_
      rintro e w1 ⟨rfl, hb1⟩
      have hb2 := hb.trans (hb1.mono hb.size)
      cases hpv : p x with
      | true =>
        have Hpv := Lib.hid hpv; clear hpv
        go_wp2_with fail
        go_ret
        refine ⟨?_, hb2⟩
        rw [idxVal_some Hx.out Hpv.out hj.out]; rfl
      | false =>
        have Hpv := Lib.hid hpv; clear hpv
        go_wp2_with fail
        go_roundw
        case rel => exact ⟨k + 1, by omega, by go_num, (fun j y hj' hy => by
          rcases Nat.lt_or_ge j k with h | h
          · exact hj.out j y h hy
          · obtain rfl : j = k := by omega
            rw [Hx.out] at hy
            obtain rfl := Option.some.inj hy
            exact Hpv.out), hb2⟩
        case measure => simp [intOf]; omega
    · obtain rfl : k = l.length := by omega
      go_wp2_with fail
      go_ret
      refine ⟨?_, hb⟩
      rw [idxVal_none fun j x hj' => hj.out j x (by
        rcases Nat.lt_or_ge j l.length with h | h
        · exact h
        · rw [List.getElem?_eq_none h] at hj'; cases hj') hj']
      rfl
set_option maxRecDepth 20000 in
/-- Does a file fit into a group? -/
theorem plan1_any (f : Fl) (fb B b : Nat) (v : Value) (g : Gp) (w : World) (h : GpAt 88 w B b v g) (h1 : w.cell? ⟨fb, 1, none⟩ = some (S f.part)) (h2 : w.cell? ⟨fb, 2, none⟩ = some (.int .i64 f.n)) (hn : 0 ≤ g.n ∧ g.n ≤ 40) (hf : 0 ≤ f.n ∧ f.n ≤ 40) :
    Calls Tryz.prog 40 #[.pointer (some ⟨b, 0, none⟩), .pointer (some ⟨fb, 0, none⟩)] w fun e w' => e = .returned (.bool (fitsG f g)) ∧ Below w.heap.size w w' := by
  obtain ⟨c0, c1, -, -⟩ := h.cells
  have hw1 : wrap64 (g.n + f.n) = g.n + f.n := IntWalk.wrap64_in _ (by omega)
  have hw2 : IntKind.i64.wrap (g.n + f.n) = g.n + f.n := IntWalk.i64_in _ (by omega)
  clear h
  unfold fitsG
  by_cases hp : g.part = f.part
  case neg =>
    have g1 : (g.part == f.part) = false := by simpa using hp
    rw [g1, Bool.false_and]
    clear hp
    go_enter Tryz.func40, Tryz.ntmps40
    go_wp2_with fail
    go_quiet (fail)
    go_wp2_with fail
    go_ret
    exact ⟨rfl, Bdn (Below.refl _ _) _⟩
  have g1 : (g.part == f.part) = true := by simpa using hp
  rw [g1, Bool.true_and]
  clear hp
  by_cases hs : g.n + f.n ≤ 40
  case neg =>
    have g2 : decide (g.n + f.n ≤ 40) = false := decide_eq_false hs
    rw [g2]
    clear hs
    go_enter Tryz.func40, Tryz.ntmps40
    go_wp2_with fail
    go_quiet (fail)
    go_wp2_with fail
    go_ret
    exact ⟨rfl, Bdn (Below.refl _ _) _⟩
  rw [decide_eq_true hs]
  go_enter Tryz.func40, Tryz.ntmps40
  go_wp2_with fail
  go_quiet (fail)
  go_wp2_with fail
  go_ret
  exact ⟨rfl, Bdn (Below.refl _ _) _⟩
theorem clo_plan1 : Clo Tryz.prog 40 := fun _ _ => by kernel_rfl
set_option maxRecDepth 20000 in
/-- How two groups stand: by their parts. -/
theorem plan2_any (x y : Nat) (p q : Str) (w : World) (hx : w.cell? ⟨x, 0, none⟩ = some (S p)) (hy : w.cell? ⟨y, 0, none⟩ = some (S q)) :
    Calls Tryz.prog 42 #[.pointer (some ⟨x, 0, none⟩), .pointer (some ⟨y, 0, none⟩)] w fun e w' => e = .returned (.int .i64 (Lib.compareBytes p q)) ∧ ∃ n, w' = w.drewN n := by
  have HC := Lib.hid (fun W => strCompare_any p q W)
  go_enter Tryz.func42, Tryz.ntmps42
  go_wp2_with fail
  go_quiet ((go_at_call 43; refine Calls.quiet_of_same ((HC.out _).mono fun e w' h => ⟨h.1, h.2.symm⟩)))
  go_wp2_with fail
  go_ret
  exact ⟨rfl, _, rfl⟩
theorem clo_plan2 : Clo Tryz.prog 42 := fun _ _ => by kernel_rfl
end Go.Proofs.YtpfohfihkmjnaaaGreatDoor
namespace Go.Proofs.YtpfohfihkmjnaaaGreatDoor

namespace Stb
variable {α : Type} {lt : α → α → Bool} {ix : α → Nat}
/-- One more, among what lies in order, the last ahead. -/
def insRev (lt : α → α → Bool) (x : α) : List α → List α
  | [] => [x]
  | y :: r => if lt x y then y :: insRev lt x r else x :: y :: r
theorem insRev_perm (x : α) : ∀ l : List α, (insRev lt x l).Perm (x :: l)
  | [] => List.Perm.refl _
  | y :: r => by
    unfold insRev
    split
    · exact ((insRev_perm x r).cons y).trans (List.Perm.swap x y r)
    · exact List.Perm.refl _
theorem insRev_ord (hw : Way lt ix) {x : α} : ∀ {l : List α}, l.Pairwise (fun a b => R lt ix b a) → (∀ y ∈ l, ix y < ix x) → (insRev lt x l).Pairwise (fun a b => R lt ix b a)
  | [], _, _ => by simp [insRev]
  | y :: r, h, hx => by
    obtain ⟨h1, h2⟩ := List.pairwise_cons.1 h
    unfold insRev
    split
    · rename_i hl
      refine List.pairwise_cons.2 ⟨fun z hz => ?_, insRev_ord hw h2 fun z hz => hx z (by simp [hz])⟩
      rcases List.mem_cons.1 ((insRev_perm x r).mem_iff.1 hz) with rfl | hz
      · exact .inl hl
      · exact h1 z hz
    · rename_i hl
      have hl' : lt x y = false := by simpa using hl
      refine List.pairwise_cons.2 ⟨fun z hz => ?_, h⟩
      rcases List.mem_cons.1 hz with rfl | hz
      · exact .inr ⟨hl', hx z (by simp)⟩
      · exact .inr ⟨hw.ntr x y z hl' (hw.le (h1 z hz)), hx z (by simp [hz])⟩
theorem fold_ord (hw : Way lt ix) : ∀ (l acc : List α), acc.Pairwise (fun a b => R lt ix b a) → (∀ y ∈ acc, ∀ x ∈ l, ix y < ix x) → l.Pairwise (fun a b => ix a < ix b) → (l.foldl (fun q x => insRev lt x q) acc).Pairwise (fun a b => R lt ix b a)
  | [], _, h, _, _ => h
  | x :: l, acc, h, hx, hl => by
    obtain ⟨h1, h2⟩ := List.pairwise_cons.1 hl
    refine fold_ord hw l _ (insRev_ord hw h fun y hy => hx y hy x (by simp)) (fun y hy z hz => ?_) h2
    rcases List.mem_cons.1 ((insRev_perm x acc).mem_iff.1 hy) with rfl | hy
    · exact h1 z hz
    · exact hx y hy z (by simp [hz])
theorem fold_perm : ∀ (l acc : List α), (l.foldl (fun q x => insRev lt x q) acc).Perm (acc ++ l)
  | [], acc => by simp
  | x :: l, acc => by
    refine (fold_perm l (insRev lt x acc)).trans ?_
    refine ((insRev_perm x acc).append_right l).trans ?_
    exact (List.perm_middle (l₁ := acc) (l₂ := l) (a := x)).symm
variable [Inhabited α]
theorem bang {d : Array α} {q r : List α} {x : α} (h : d.toList = q ++ x :: r) : d[q.length]! = x := by
  have hl : q.length < d.size := by rw [← Array.length_toList, h]; simp
  rw [getElem!_pos d q.length hl, ← Array.getElem_toList]
  simp [h]
theorem swp_list {d : Array α} {q r : List α} {x y : α} (h : d.toList = q ++ y :: x :: r) : (Sort.swp d (q.length + 1) q.length).toList = q ++ x :: y :: r := by
  have hy : d[q.length]! = y := bang h
  have hx : d[q.length + 1]! = x := by
    have := bang (d := d) (q := q ++ [y]) (r := r) (x := x) (by rw [h]; simp)
    simpa using this
  unfold Sort.swp
  rw [hx, hy, Array.toList_setIfInBounds, Array.toList_setIfInBounds, h]
  rw [List.set_append_right _ _ (by omega), List.set_append_right _ _ (by omega)]
  simp
theorem insInner_list : ∀ (j : Nat) (d : Array α) (q r : List α) (x : α), d.toList = q ++ x :: r → q.length = j → (Sort.insInner lt 0 j d).toList = (insRev lt x q.reverse).reverse ++ r
  | 0, d, q, r, x, h, hq => by
    obtain rfl := List.eq_nil_of_length_eq_zero hq
    unfold Sort.insInner
    rw [h]
    rfl
  | j + 1, d, q, r, x, h, hq => by
    obtain ⟨q', y, rfl⟩ : ∃ q' y, q = q' ++ [y] := by
      rcases List.eq_nil_or_concat q with rfl | ⟨q', y, e⟩
      · simp at hq
      · exact ⟨q', y, by simpa using e⟩
    have hq' : q'.length = j := by simpa using hq
    have hx : d[j + 1]! = x := by have := bang h; rwa [hq] at this
    have h2 : d.toList = q' ++ y :: x :: r := by rw [h]; simp
    have hy : d[j]! = y := by have := bang h2; rwa [hq'] at this
    unfold Sort.insInner
    rw [hx, hy, List.reverse_append]
    show (if (decide (j + 1 > 0) && lt x y) = true then _ else _ : Array α).toList = (insRev lt x (y :: q'.reverse)).reverse ++ r
    rw [decide_eq_true (by omega : j + 1 > 0), Bool.true_and]
    unfold insRev
    split
    · have hs := swp_list h2
      rw [hq'] at hs
      rw [insInner_list j _ q' (y :: r) x hs hq']
      simp
    · rw [h]
      simp
theorem insOuter_list : ∀ (l acc : List α) (d : Array α) (i b : Nat), d.toList = acc.reverse ++ l → acc.length = i → b = i + l.length → (Sort.insOuter lt 0 b i d).toList = (l.foldl (fun q x => insRev lt x q) acc).reverse
  | [], acc, d, i, b, h, hi, hb => by
    rw [Sort.insOuter, if_neg (by simp at hb; omega), h]
    simp
  | x :: l, acc, d, i, b, h, hi, hb => by
    rw [List.length_cons] at hb
    rw [Sort.insOuter, if_pos (by omega)]
    have h1 := insInner_list (lt := lt) i d acc.reverse l x h (by simpa using hi)
    rw [List.reverse_reverse] at h1
    rw [insOuter_list l (insRev lt x acc) _ (i + 1) b h1 (by rw [(insRev_perm x acc).length_eq]; simp [hi]) (by omega)]
    rfl
theorem insertion_list (d : Array α) : (Sort.insertionSort lt d 0 d.size).toList = (d.toList.foldl (fun q x => insRev lt x q) []).reverse := by
  unfold Sort.insertionSort
  cases h : d.toList with
  | nil =>
    have hz : d.size = 0 := by rw [← Array.length_toList, h]; rfl
    rw [Sort.insOuter, if_neg (by omega), h]
    rfl
  | cons x l =>
    have hz : d.size = 1 + l.length := by rw [← Array.length_toList, h]; simp; omega
    rw [insOuter_list l [x] d 1 d.size (by simpa using h) rfl hz]
    rfl
/-- The library's insertion sort is a stable one. -/
theorem insertion_stable (hw : Way lt ix) (d : Array α) (hd : d.toList.Pairwise (fun a b => ix a < ix b)) :
    (Sort.insertionSort lt d 0 d.size).toList.Perm d.toList ∧ (Sort.insertionSort lt d 0 d.size).toList.Pairwise (R lt ix) := by
  rw [insertion_list]
  refine ⟨(List.reverse_perm _).trans ?_, ?_⟩
  · have := fold_perm (lt := lt) d.toList []
    simpa using this
  · rw [List.pairwise_reverse]
    exact fold_ord hw d.toList [] List.Pairwise.nil (fun _ h => (by cases h)) hd
end Stb
end Go.Proofs.YtpfohfihkmjnaaaGreatDoor
namespace Go.Proofs
open Go.Shelf
def Tryz.insG_ren : Go.Shelf.Ren := ⟨fun | 20 => 129 | n => n, fun | 24 => 86 | 22 => 84 | 3 => 3 | 25 => 91 | 4 => 4 | 0 => 0 | n => n, fun | n => n⟩
theorem Tryz.insG : Go.Proofs.SlLaysF.n20 Tryz.prog Tryz.insG_ren := {
  mixed := by kernel_rfl
  f20 := ⟨Tryz.f129.name, by decide, Tryz.func129.trans (congrArg some (by kernel_rfl))⟩
  t0 := Tryz.underlying0
  a0 := Tryz.isAgg0
  z0 := Tryz.sizeOf0
  v0 := Tryz.zeroValue0
  t3 := Tryz.underlying3
  a3 := Tryz.isAgg3
  z3 := Tryz.sizeOf3
  v3 := Tryz.zeroValue3
  t4 := Tryz.underlying4
  a4 := Tryz.isAgg4
  z4 := Tryz.sizeOf4
  v4 := Tryz.zeroValue4
  t22 := Tryz.underlying84
  a22 := Tryz.isAgg84
  z22 := Tryz.sizeOf84
  v22 := Tryz.zeroValue84
  a24 := Tryz.isAgg86
  z24 := Tryz.sizeOf86
  t25 := Tryz.underlying91
  a25 := Tryz.isAgg91
  z25 := Tryz.sizeOf91
  v25 := Tryz.zeroValue91 }
end Go.Proofs
