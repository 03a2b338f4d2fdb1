/- slices.DeleteFunc at []api.File; list.Prune. The document's answer on lists: FindOf, Without, PruneOf, Placed: the walks. deedboxref1.Cut, InInts; deedboxref2.IDsText: the walks. The document's answer on rows: RowError, RowText, IsLess, SameRows, DropRows, WithinRows: the walks. slices.SortFunc at rows; row.Sort, row.Same. row.Read: the walk. slices.IndexFunc and DeleteFunc at []int, at whatever function value that answers by a plain predicate. slices.DeleteFunc at []int. slices.Clone and slices.Contains at []int, as the walks use them. -/
import Derived.Test.YtpfohfihkmjnaaaGreatDoorPk5
import Derived.Test.YtpfohfihkmjnaaaGreatDoorPk6
import Derived.Test.YtpfohfihkmjnaaaGreatDoorPk7
import Derived.Test.YtpfohfihkmjnaaaGreatDoorPk3
import Derived.Test.YtpfohfihkmjnaaaGreatDoorPk4
import Derived.Laws.StructEq
import Derived.Shelf.SlSortCmp.NoneTotal
import Derived.Test.YtpfohfihkmjnaaaGreatDoorPk1
import Derived.Outline
import Derived.Test.YtpfohfihkmjnaaaGreatDoorPk2
namespace Go.Proofs.YtpfohfihkmjnaaaGreatDoor
open Go.RowKit
theorem set_app {α : Type} {A L : List α} {o : Nat} (hA : A.length = o) (j : Nat) (v : α) : (A ++ L).set (o + j) v = A ++ L.set j v := by
  subst hA
  rw [List.set_append, if_neg (by omega)]
  congr 2
  omega
/-- An element of six cells written anew, cell by cell. -/
theorem Own.set6 {e : TypeId} {B : Nat} {w : World} {g n cap i : Nat} {l : List Fl} (h : Own encF e 6 B w (.slice (some ⟨g, 0, none⟩) n cap) l) (hi : i < l.length) (x : Fl) :
    Own encF e 6 B (six w g (i * 6) (S x.path) (S x.part) (.int .i64 x.n) (.int .i64 x.lo) (.int .i64 x.hi) (.int .i64 x.seq)) (.slice (some ⟨g, 0, none⟩) n cap) (l.set i x) := by
  obtain ⟨cur, hB, hg, hl, hc, hm, hs, ht⟩ := h.row
  have hsplit : l = l.take i ++ l[i] :: l.drop (i + 1) := by rw [← List.drop_eq_getElem_cons hi, List.take_append_drop]
  have hset : l.set i x = l.take i ++ x :: l.drop (i + 1) := List.set_eq_take_append_cons_drop.trans (if_pos hi)
  have hA : ((l.take i).flatMap encF).length = i * 6 := by rw [flat_length encF_enc, List.length_take, Nat.min_eq_left (by omega)]
  have hC : ((l.drop (i + 1)).flatMap encF).length = (n - (i + 1)) * 6 := by rw [flat_length encF_enc, List.length_drop, hl]
  have hle : n * 6 ≤ cap * 6 := Nat.mul_le_mul_right _ hc
  have hf : l.flatMap encF = (l.take i).flatMap encF ++ (encF l[i] ++ (l.drop (i + 1)).flatMap encF) := by
    have : l.flatMap encF = (l.take i ++ l[i] :: l.drop (i + 1)).flatMap encF := by rw [← hsplit]
    rw [this]; simp only [List.flatMap_append, List.flatMap_cons]
  have hcur : cur.toList = (l.take i).flatMap encF ++ (encF l[i] ++ ((l.drop (i + 1)).flatMap encF ++ cur.toList.drop (n * 6))) := by
    have h1 : cur.toList = cur.toList.take (n * 6) ++ cur.toList.drop (n * 6) := (List.take_append_drop _ _).symm
    rw [ht, hf] at h1
    simpa using h1
  generalize cur.toList.drop (n * 6) = R at hcur
  refine Own.put encF_enc (by rw [List.length_set]; exact hl) hB (six_row hg (S x.path) (S x.part) (.int .i64 x.n) (.int .i64 x.lo) (.int .i64 x.hi) (.int .i64 x.seq)) hc hm (by simpa using hs) ?_
  simp only [Array.toList_setIfInBounds]
  rw [hcur, hset]
  have s0 : ((l.take i).flatMap encF ++ (encF l[i] ++ ((l.drop (i + 1)).flatMap encF ++ R))).set (i * 6) (S x.path) = (l.take i).flatMap encF ++ (encF l[i] ++ ((l.drop (i + 1)).flatMap encF ++ R)).set 0 (S x.path) := set_app hA 0 (S x.path)
  rw [s0, set_app hA, set_app hA, set_app hA, set_app hA, set_app hA]
  simp only [List.cons_append, List.nil_append, List.set_cons_zero, List.set_cons_succ, List.flatMap_append, List.flatMap_cons]
  have e : ∀ (A C R : List Value) (a b c d f g : Value), A ++ a :: b :: c :: d :: f :: g :: (C ++ R) = (A ++ [a, b, c, d, f, g] ++ C) ++ R := fun A C R a b c d f g => by simp
  rw [e, List.take_left' (by rw [List.length_append, List.length_append, hA, hC]; simp; omega)]
  simp
set_option maxHeartbeats 1000000 in
set_option maxRecDepth 20000 in
theorem deleteFuncF_any (f : FuncId) (caps : Array Value) (p : Fl → Bool) (base : Nat) (w0 : World) (v : Value) (l : List Fl) (w : World) (hf : Clo Tryz.prog f) (hp : PredOn Tryz.prog f caps fileV l p base w0)
    (hl : Own encF 43 6 base w v l) (hw : Below base w0 w) (hB : base ≤ w.heap.size) :
    Calls Tryz.prog 56 #[v, .func (.func f) #[] caps] w fun e w' => ∃ v', e = .returned v' ∧ Own encF 43 6 base w' v' (l.filter fun x => !p x) ∧ Below base w w' := by
  have hif := indexFuncF_any f caps p base w0 v l w hf hp (hl.at encF_enc) hw hB
  have Hif := Lib.hid hif; clear hif
  have Hf := Lib.hid hf; clear hf
  have Hp := Lib.hid hp; clear hp
  by_cases hall : ∀ (j : Nat) (x : Fl), l[j]? = some x → p x = false
  · have e1 : idxVal p l = -1 := idxVal_none hall
    have e2 : l.filter (fun x => !p x) = l := List.filter_eq_self.2 fun x hx => by
      obtain ⟨j, hj, he⟩ := List.getElem_of_mem hx
      simp [hall j x (by simp [hj, he])]
    have H1 := Lib.hid e1; have H2 := Lib.hid e2; clear e1 e2 hall
    go_enter Tryz.func56, Tryz.ntmps56
    go_wp2_with fail
    refine Hif.out.mono ?_
    rintro e w1 ⟨rfl, hb⟩
    rw [H1.out]
    go_wp2_with fail
    go_ret
    exact ⟨v, rfl, by rw [H2.out]; exact hl.below hb, hb.mono hB⟩
  · obtain ⟨k, x, hk, hpx, hlow⟩ : ∃ (k : Nat) (x : Fl), l[k]? = some x ∧ p x = true ∧ ∀ (j : Nat) (y : Fl), j < k → l[j]? = some y → p y = false := by
      cases hfi : l.findIdx? p with
      | none =>
        exfalso; refine hall fun j x hj => ?_
        exact List.findIdx?_eq_none_iff.1 hfi x (List.mem_of_getElem? hj)
      | some k =>
        obtain ⟨h1, h2, h3⟩ := List.findIdx?_eq_some_iff_getElem.1 hfi
        refine ⟨k, l[k], by simp, h2, fun j y hj hy => ?_⟩
        have h4 : j < l.length := by omega
        have := h3 j hj
        have hy' : l[j] = y := by rw [List.getElem?_eq_getElem h4] at hy; exact Option.some.inj hy
        rw [hy'] at this; simpa using this
    have hlt : k < l.length := by
      rcases Nat.lt_or_ge k l.length with h' | h'
      · exact h'
      · rw [List.getElem?_eq_none h'] at hk; cases hk
    have e1 : idxVal p l = k := idxVal_some hk hpx hlow
    have hst := DelRel.start hk hpx hlow
    obtain ⟨g, cap, cur, rfl, hBg, _, hcap, hm, _, _⟩ := hl.open (by omega)
    unfold maxLen at hm
    have hne : ((k : Int) == -1) = false := beq_eq_false_iff_ne.2 (by omega)
    have H1 := Lib.hid e1; have Hst := Lib.hid hst; clear e1 hst hall hlow hk
    go_enter Tryz.func56, Tryz.ntmps56
    go_wp2_with fail
    refine Hif.out.mono ?_
    rintro e w1 ⟨rfl, hb⟩
    rw [H1.out]
    have ho1 := hl.below hb
    have hb1 : Below base w w1 := hb.mono hB
    clear hl hb
    go_wp2_with fail
    go_loopw [5, 6] (fun s5 s6 wr => ∃ (i j : Nat) (ys : List Fl), s5 = .int .i64 i ∧ s6 = .int .i64 j ∧ Hid (DelRel p l i j ys) ∧ Own encF 43 6 base wr (.slice (some ⟨g, 0, none⟩) l.length cap) ys ∧ Below base w wr) (fun _ s6 _ => l.length - (intOf s6).toNat)
    case atStart => exact ⟨k, k + 1, l, rfl, by go_num, Hst.out, ho1, hb1⟩
    case round =>
      obtain ⟨i, j, ys, rfl, rfl, hd, ho, hbr⟩ := hrel
      have hij := hd.out.1
      have hjn := hd.out.2.1
      have hysl := hd.out.2.2.1
      have Hysl := Lib.hid hysl; clear hysl
      by_cases hlt' : j < l.length
      · obtain ⟨x', hxj⟩ := get_ex hlt'
        have hyj := hd.out.next hxj
        obtain ⟨_, _, b', o', hv', hga, _, _, hx'⟩ := ho.at encF_enc
        simp only [Value.slice.injEq] at hv'
        have hga' := hv'.1.trans (hga (by rw [Hysl.out]; omega))
        simp only [Option.some.injEq, Addr.mk.injEq, and_true] at hga'
        obtain ⟨rfl, rfl⟩ := hga'
        clear hv' hga
        obtain ⟨c0, c1, c2, c3, c4, c5⟩ := flCells hx' (Below.refl _ _) hyj
        have hk1 : (j : Int) < (l.length : Int) := by omega
        have hba : Below base w (wr.alloc (.cells #[S x'.path, S x'.part, .int .i64 x'.n, .int .i64 x'.lo, .int .i64 x'.hi, .int .i64 x'.seq] 43)) := hbr.alloc (Nat.le_trans hB hbr.size) _
        have hoa := ho.alloc (.cells #[S x'.path, S x'.part, .int .i64 x'.n, .int .i64 x'.lo, .int .i64 x'.hi, .int .i64 x'.seq] 43)
        have CB := Lib.hid (fun w6 (h : Below (wr.alloc (.cells #[S x'.path, S x'.part, .int .i64 x'.n, .int .i64 x'.lo, .int .i64 x'.hi, .int .i64 x'.seq] 43)).heap.size (wr.alloc (.cells #[S x'.path, S x'.part, .int .i64 x'.n, .int .i64 x'.lo, .int .i64 x'.hi, .int .i64 x'.seq] 43)) w6) => fileCells rfl h)
        have hpc := Hp.out (wr.alloc (.cells #[S x'.path, S x'.part, .int .i64 x'.n, .int .i64 x'.lo, .int .i64 x'.hi, .int .i64 x'.seq] 43)) x' (List.mem_of_getElem? hxj) (hw.trans hba) (Nat.le_trans hB hba.size)
        have Hpc := Lib.hid hpc; clear hpc hyj
        have Hxj := Lib.hid hxj; clear hxj
        have hf' := Hf.out
        unfold Clo at hf'
        simp only [Nat.zero_add] at c0 c1 c2 c3 c4 c5
        go_wp2_with fail
        generalize wr.alloc (.cells #[S x'.path, S x'.part, .int .i64 x'.n, .int .i64 x'.lo, .int .i64 x'.hi, .int .i64 x'.seq] 43) = wb at *
        refine Hpc.out.mono ?_
        rintro e w2 ⟨rfl, hb2⟩
        have ho2 := hoa.below hb2
        have hbr2 : Below base w w2 := hba.trans (hb2.mono (Nat.le_trans hB hba.size))
        clear c0 c1 c2 c3 c4 c5
        obtain ⟨c0, c1, c2, c3, c4, c5⟩ := CB.out w2 hb2
        cases hpv : p x' with
        | true =>
          have hd2 := hd.out.skip Hxj.out hpv
          have Hd2 := Lib.hid hd2; clear hd2 hpv
          go_wp2_with fail
          go_roundw
          case rel => exact ⟨i, j + 1, ys, rfl, by go_num, Hd2.out, ho2, hbr2⟩
          case measure => simp [intOf]; omega
        | false =>
          have hd2 := hd.out.keep Hxj.out hpv
          have Hd2 := Lib.hid hd2; clear hd2 hpv
          obtain ⟨y', hyi⟩ := get_ex (l := ys) (k := i) (by rw [Hysl.out]; omega)
          obtain ⟨cur2, _, hg2, _, _, _, _, _⟩ := ho2.row
          have fz : ∀ j, w2.frozen? ⟨g, j, none⟩ = false := fun j => frozen_row hg2
          obtain ⟨a', c', b', o', hv', hga, _, _, hx'⟩ := ho2.at encF_enc
          simp only [Value.slice.injEq] at hv'
          have hga' := hv'.1.trans (hga (by rw [Hysl.out]; omega))
          simp only [Option.some.injEq, Addr.mk.injEq, and_true] at hga'
          obtain ⟨rfl, rfl⟩ := hga'
          clear hv' hga
          obtain ⟨d0, d1, d2, d3, d4, d5⟩ := flCells hx' (Below.refl _ _) hyi
          simp only [Nat.zero_add] at d0 d1 d2 d3 d4 d5
          have f0 := fz (i * 6); have f1 := fz (i * 6 + 1); have f2 := fz (i * 6 + 2); have f3 := fz (i * 6 + 3); have f4 := fz (i * 6 + 4); have f5 := fz (i * 6 + 5)
          have ho3 := Own.set6 ho2 (i := i) (by rw [Hysl.out]; omega) x'
          have hk2 : (i : Int) < (l.length : Int) := by omega
          have Ho3 := Lib.hid ho3; clear ho3 hx' hyi hg2 fz
          go_wp2_with fail
          go_roundw
          case rel => exact ⟨i + 1, j + 1, ys.set i x', by go_num, by go_num, Hd2.out, Ho3.out, six_below hbr2 hBg _ _ _ _ _ _⟩
          case measure => simp [intOf]; omega
      · obtain rfl : j = l.length := by omega
        have hfin := hd.out.done
        have Hfin := Lib.hid hfin; clear hfin
        obtain ⟨cs, hrun, ho2⟩ := run_clear_own (c := cap - i) elFl encF_enc flZero1 ho (k := i) (by rw [Hysl.out]; omega)
        have hci : ¬ cap = i := by omega
        have hcap2 : (i : Int) ≤ (cap : Int) := by omega
        have hil : (i : Int) ≤ (l.length : Int) := by omega
        have Ho2 := Lib.hid ho2; clear ho2
        go_wp2_with fail
        go_ret
        refine ⟨.slice (some ⟨g, 0, none⟩) i cap, rfl, ?_, Bset hbr hBg _⟩
        have := Ho2.out
        rwa [Hfin.out] at this
/-- Is a file left out? -/
def pruneP (lo hi : Int) (f : Fl) : Bool := decide (min f.hi hi < max f.lo lo)
def pruneL (l : List Fl) (lo hi : Int) : List Fl := l.filter fun f => !pruneP lo hi f
theorem prune1_any (x : Fl) (a1 a2 : Addr) (lo hi : Int) (w : World) (h1 : w.cell? a1 = some (.int .i64 lo)) (h2 : w.cell? a2 = some (.int .i64 hi)) :
    Calls Tryz.prog 94 #[fileV x, .pointer (some a1), .pointer (some a2)] w fun e w' => e = .returned (.bool (pruneP lo hi x)) ∧ Below w.heap.size w w' := by
  have hb : Below w.heap.size w (w.alloc (fileO x)) := (Below.refl _ _).alloc (Nat.le_refl _) _
  have h1' : (w.alloc (fileO x)).cell? a1 = some (.int .i64 lo) := (hb.cell (World.block_lt_of_cell? w _ h1)).trans h1
  have h2' : (w.alloc (fileO x)).cell? a2 = some (.int .i64 hi) := (hb.cell (World.block_lt_of_cell? w _ h2)).trans h2
  go_enter Tryz.func94, Tryz.ntmps94
  go_wp2_with fail
  go_ret
  exact ⟨rfl, hb⟩
theorem clo_prune1 : Clo Tryz.prog 94 := fun _ _ => by kernel_rfl
theorem listPrune_any (v : Value) (l : List Fl) (lo hi : Int) (w : World) (hl : FilesAt w v l) (hn : l.length ≤ 100000) :
    Calls Tryz.prog 45 #[v, .int .i64 lo, .int .i64 hi] w fun e w' => ∃ v', e = .returned v' ∧ FilesAt w' v' (pruneL l lo hi) ∧ Below w.heap.size w w' := by
  obtain ⟨a, c, rfl, -, -⟩ := hl.form'
  have hba : Below w.heap.size w ((w.alloc (.cells #[.int .i64 lo] 3)).alloc (.cells #[.int .i64 hi] 3)) := ((Below.refl _ _).alloc (Nat.le_refl _) _).alloc (by simp) _
  have c0 : ((w.alloc (.cells #[.int .i64 lo] 3)).alloc (.cells #[.int .i64 hi] 3)).cell? ⟨w.heap.size, 0, none⟩ = some (.int .i64 lo) := by simp
  have c1 : ((w.alloc (.cells #[.int .i64 lo] 3)).alloc (.cells #[.int .i64 hi] 3)).cell? ⟨w.heap.size + 1, 0, none⟩ = some (.int .i64 hi) := by
    rw [World.cell?_alloc_at _ _ _ _ (by simp)]; rfl
  have Hl := Lib.hid (hl.below hba)
  go_enter Tryz.func45, Tryz.ntmps45
  go_wp2_with fail
  refine (cloneF_any _ l _ Hl.out hn).mono ?_
  rintro e w2 ⟨v2, rfl, hown, hb2⟩
  have hb2' := hba.trans (hb2.mono hba.size)
  have d0 := (hb2.cell (World.block_lt_of_cell? _ _ c0)).trans c0
  have d1 := (hb2.cell (World.block_lt_of_cell? _ _ c1)).trans c1
  go_wp2_with fail
  refine (deleteFuncF_any _ _ (pruneP lo hi) _ w2 v2 l _ clo_prune1 ?_ hown (Below.refl _ _) hb2.size).mono ?_
  · intro W x hx hbW hle
    exact prune1_any x _ _ lo hi W ((hbW.cell (Nat.lt_of_lt_of_le (World.block_lt_of_cell? _ _ c0) (by simp))).trans d0) ((hbW.cell (World.block_lt_of_cell? _ _ c1)).trans d1)
  · rintro e w3 ⟨v3, rfl, hown3, hb3⟩
    go_wp2_with fail
    go_ret
    exact ⟨_, rfl, hown3.at encF_enc, hb2'.trans (hb3.mono hba.size)⟩
end Go.Proofs.YtpfohfihkmjnaaaGreatDoor
namespace Go.Proofs.YtpfohfihkmjnaaaGreatDoor
open Go.RowKit
set_option maxRecDepth 20000 in
theorem findOf_any (v : Value) (l : List Fl) (p : Str) (w : World) (hl : FilesAt w v l) :
    Calls Tryz.prog 12 #[v, S p] w fun e w' => e = .returned (.int .i64 (findV l p)) ∧ w = w' := by
  obtain ⟨a, c, b, o, rfl, ha, hc, hcm, hx⟩ := hl
  unfold maxLen at hcm
  have hfi : findV l p = idxVal (fun f : Fl => f.path == p) l := rfl
  have HFi := Lib.hid hfi; clear hfi
  go_enter Tryz.func12, Tryz.ntmps12
  go_wp2_with fail
  go_loop [5] (fun i => ∃ k : Nat, k ≤ l.length ∧ i = .int .i64 k ∧ Hid (∀ (j : Nat) (y : Fl), j < k → l[j]? = some y → (y.path == p) = false)) (fun i => l.length - (intOf i).toNat)
  case atStart => exact ⟨0, by omega, rfl, Lib.hid fun j y hj => absurd hj (by omega)⟩
  case round =>
    obtain ⟨k, hk, rfl, hj⟩ := hrel
    by_cases hlt : k < l.length
    case neg =>
      have HN : Hid (findV l p = -1) := Lib.hid (by rw [HFi.out]; exact idxVal_none fun j y hy => hj.out j y (by have := (List.getElem?_eq_some_iff.1 hy).1; omega) hy)
      have f : decide ((k : Int) < (l.length : Int)) = false := by simp; omega
      go_wp2_with fail
      go_ret
      exact ⟨by rw [HN.out]; rfl, rfl⟩
    obtain ⟨x, hxk⟩ := get_ex hlt
    obtain ⟨c0, -⟩ := flCells hx (Below.refl _ _) hxk
    have i1 := idx_at (c := c) 6 Tryz.underlying23 szFl ha k hlt
    have hk1 : (k : Int) < (l.length : Int) := by omega
    have Hx := Lib.hid hxk; clear hxk
    by_cases he : x.path = p
    · have g : (x.path == p) = true := by simpa using he
      have HN : Hid (findV l p = k) := Lib.hid (by rw [HFi.out]; exact idxVal_some Hx.out g hj.out)
      clear he
      go_wp2_with fail
      go_ret
      exact ⟨by rw [HN.out]; rfl, rfl⟩
    · have g : (x.path == p) = false := by simpa using he
      have G := Lib.hid g
      clear he
      go_wp2_with fail
      refine ⟨⟨k + 1, by omega, by go_num, Lib.hid fun j y hj' hy => by
        rcases Nat.lt_or_ge j k with h | h
        · exact hj.out j y h hy
        · obtain rfl : j = k := by omega
          rw [Hx.out] at hy; cases hy; exact G.out⟩, ?_⟩
      simp [intOf]; omega
/-- s[:k] of a slice. -/
theorem slice_to {P : Program} {t e : TypeId} {sz c n : Nat} (a : Option Addr) (ht : P.underlying t = some (.slice e)) (hsz : ∀ w, (sizeOf e).run P w = .ok sz w) (k : Nat) (hk : k ≤ n) (hc : n ≤ c) :
    ∀ W, (Instr.slice t (.slice a n c) none (some (.int .i64 (k : Int))) none).run P W = .ok (.slice a k c) W := by
  have h2 : (k : Int) ≤ (c : Int) := by omega
  intro W
  cases a with
  | none => simp [Instr.slice, Instr.sliceBounds, run_underlying ht, hsz, go_sem, h2]
  | some ad => simp [Instr.slice, Instr.sliceBounds, run_underlying ht, hsz, go_sem, h2]
theorem placeF_first {f : Fl} : ∀ {l : List Fl} {k : Nat}, k ≤ l.length → (∀ (j : Nat) (g : Fl), j < k → l[j]? = some g → keyP g.path < keyP f.path) → (∀ g, l[k]? = some g → keyP f.path ≤ keyP g.path) → placeF f l = l.take k ++ f :: l.drop k
  | [], k, hk, _, _ => by
    obtain rfl : k = 0 := by simpa using hk
    rfl
  | g :: r, 0, _, _, h2 => by
    have := h2 g rfl
    unfold placeF
    rw [if_pos this]; rfl
  | g :: r, k + 1, hk, h1, h2 => by
    have h0 := h1 0 g (by omega) rfl
    have ih := placeF_first (f := f) (l := r) (k := k) (by simpa using hk) (fun j x hj hx => h1 (j + 1) x (by omega) hx) (fun x hx => h2 x hx)
    unfold placeF
    rw [if_neg (by omega), ih]; rfl
set_option maxHeartbeats 2000000 in
set_option maxRecDepth 20000 in
theorem placed_any (v : Value) (l : List Fl) (f : Fl) (w : World) (hl : FilesAt w v l) (hn : l.length ≤ 10000) (hs : ∀ x ∈ l, midF x) (hf : midF f) :
    Calls Tryz.prog 35 #[v, fileV f] w fun e w' => ∃ v', e = .returned v' ∧ FilesAt w' v' (placeF f l) ∧ Below w.heap.size w w' := by
  obtain ⟨a, c, b, o, rfl, ha, hc, hcm, hx⟩ := hl
  have hcmx : c ≤ maxLen := hcm
  unfold maxLen at hcm
  have hb0 : Below w.heap.size w (w.alloc (.cells #[S f.path, S f.part, .int .i64 f.n, .int .i64 f.lo, .int .i64 f.hi, .int .i64 f.seq] 43)) := (Below.refl _ _).alloc (Nat.le_refl _) _
  have CF := Lib.hid (fun w6 (h : Below (w.alloc (.cells #[S f.path, S f.part, .int .i64 f.n, .int .i64 f.lo, .int .i64 f.hi, .int .i64 f.seq] 43)).heap.size (w.alloc (.cells #[S f.path, S f.part, .int .i64 f.n, .int .i64 f.lo, .int .i64 f.hi, .int .i64 f.seq] 43)) w6) => fileCells (f := f) rfl h)
  have HS := Lib.hid hs; clear hs
  go_enter Tryz.func35, Tryz.ntmps35
  go_wp2_with fail
  generalize w.alloc (.cells #[S f.path, S f.part, .int .i64 f.n, .int .i64 f.lo, .int .i64 f.hi, .int .i64 f.seq] 43) = w0 at *
  go_loopw [5] (fun i wr => ∃ k : Nat, k ≤ l.length ∧ i = .int .i64 k ∧ Hid (∀ (j : Nat) (g : Fl), j < k → l[j]? = some g → keyP g.path < keyP f.path) ∧ Below w0.heap.size w0 wr) (fun i _ => l.length - (intOf i).toNat)
  case atStart => exact ⟨0, by omega, rfl, Lib.hid fun j y hj => absurd hj (by omega), Below.refl _ _⟩
  case round =>
    obtain ⟨k, hk, rfl, hj, hb⟩ := hrel
    have hbw := hb0.trans (hb.mono hb0.size)
    have hstop : (k = l.length ∧ True) ∨ (k < l.length ∧ ∃ x, l[k]? = some x ∧ ((decide (0 < cmpP f.path x.path) = true ∧ keyP x.path < keyP f.path) ∨ (decide (0 < cmpP f.path x.path) = false ∧ keyP f.path ≤ keyP x.path))) := by
      by_cases hlt : k < l.length
      · obtain ⟨x, hxk⟩ := get_ex hlt
        refine .inr ⟨hlt, x, hxk, ?_⟩
        have := @cmpP_le f.path x.path
        simp only [decide_eq_true_eq, decide_eq_false_iff_not]
        omega
      · exact .inl ⟨by omega, trivial⟩
    have hfirst : (k = l.length ∨ ∃ x, l[k]? = some x ∧ keyP f.path ≤ keyP x.path) → placeF f l = l.take k ++ f :: l.drop k := fun h =>
      placeF_first hk hj.out fun g hg => by
        rcases h with h | ⟨x, h1, h2⟩
        · rw [List.getElem?_eq_none (by omega)] at hg; cases hg
        · rw [h1] at hg; cases hg; exact h2
    have HFirst := Lib.hid hfirst; clear hfirst
    have hsl1 := slice_to (P := Tryz.prog) (c := c) (n := l.length) a Tryz.underlying23 szFl k hk hc
    have hlt1 : (l.take k).length = k := by rw [List.length_take]; omega
    have hld1 : (l.drop k).length = l.length - k := List.length_drop
    have hdrop : ∃ a2 c2', (∀ W, (Instr.slice 23 (.slice a l.length c) (some (.int .i64 (k : Int))) none none).run Tryz.prog W = .ok (.slice a2 (l.length - k) c2') W) ∧ FilesAt w (.slice a2 (l.length - k) c2') (l.drop k) := by
      rcases Nat.eq_zero_or_pos l.length with h0 | h0
      · have hk0 : k = 0 := by omega
        subst hk0
        refine ⟨a, c, fun W => ?_, ⟨a, c, b, o, by rw [List.length_drop], fun h => absurd h (by rw [List.length_drop]; omega), by rw [List.length_drop]; omega, hcmx, fun j y hj => absurd (List.getElem?_eq_some_iff.1 hj).1 (by rw [List.length_drop]; omega)⟩⟩
        have h3 : (0 : Int) ≤ (c : Int) := by omega
        cases a with
        | none => simp [Instr.slice, Instr.sliceBounds, run_underlying Tryz.underlying23, go_sem, h0]
        | some ad =>
          have h0' : ad.add 0 = ad := by unfold Addr.add; split <;> simp_all
          simp [Instr.slice, Instr.sliceBounds, run_underlying Tryz.underlying23, go_sem, h0, h0']
      · obtain ⟨b', o', c', h1, h2⟩ := slice_from (enc := encF) (sz := 6) Tryz.underlying23 szFl ha hc hcmx hx k hk h0
        exact ⟨_, c', h1, h2⟩
    have HDrop := Lib.hid hdrop; clear hdrop
    rcases hstop with ⟨h1, -⟩ | ⟨hlt, x, hxk, ⟨hc1, hc2⟩ | ⟨hc1, hc2⟩⟩
    · have HPl := Lib.hid (HFirst.out (.inl h1))
      have fk : decide (k < l.length) = false := by simp; omega
      have hbW := hbw; have hb0W := hb
      clear h1 hj HFirst
      have hat1 : FilesAt wr (.slice a k c) (l.take k) := ⟨a, c, b, o, by rw [hlt1], fun h => ha (by rw [hlt1] at h; omega), by rw [hlt1]; omega, hcmx, fun j y hj u z hz => by
        have hj2 : j < k := by
          rcases Nat.lt_or_ge j k with h | h
          · exact h
          · rw [List.getElem?_eq_none (by rw [hlt1]; omega)] at hj; cases hj
        rw [List.getElem?_take_of_lt hj2] at hj
        have h1 := hx j y hj u z hz
        exact (hbW.cell (World.block_lt_of_cell? w _ h1)).trans h1⟩
      have hsrc1 := hat1.src encF_enc (by decide)
      rw [hlt1] at hsrc1
      obtain ⟨a2, c2', hrun2, hat2⟩ := HDrop.out
      have Hat2 := Lib.hid hat2
      have HRun2 := Lib.hid hrun2
      have HLT := Lib.hid hlt1; have HLD := Lib.hid hld1
      clear hat1 hat2 hrun2 hlt1 hld1
      have hr2 := HRun2.out
      go_wp2_with (first
        | (at_builtin; refine wpList_app rfl _ _ _ rfl w.heap.size elFl (.slice none 0 0) 0 [] rfl (Own.nil encF _ 6 _ _) _ _ _ rfl hsrc1 (by unfold maxLen; omega) (by omega) hbW.size ?_; intro v1 w2 hown1 hg1 _; have hown1' : Own encF 43 6 w.heap.size w2 v1 (l.take k) := (by unfold Own; rw [HLT.out]; simpa using hown1); have hb2 : Below w.heap.size w w2 := hbW.grown hg1 hbW.size (fun k hk => by cases hk); have hb02 : Below w0.heap.size w0 w2 := hb0W.grown hg1 hb0W.size (fun k hk => by cases hk); obtain ⟨c0, c1, c2, c3, c4, c5⟩ := CF.out _ hb02; clear hown1 hg1 hsrc1)
        | (at_builtin; refine wpList_app rfl _ _ _ rfl w.heap.size elFl v1 (l.take k).length _ rfl (hown1'.alloc _) (.slice (some ⟨w2.heap.size, 0, none⟩) 1 1) 1 (encF f) rfl (src_one rfl rfl (by simp [Value.oneCell'])) (by rw [HLT.out]; unfold maxLen; omega) (by rw [HLT.out]; omega) (by have := hb2.size; simp; omega) ?_; intro v2 w3 hown2 hg2 _; have hown2' := Own.snoc hown2; have hb3 : Below w.heap.size w w3 := (Bapp (hb2.alloc hb2.size _) (hown1'.alloc _) hg2 (Nat.le_refl _) (by have := hb2.size; simp; omega)); have hsrc3 := (Hat2.out.below hb3).src encF_enc (by decide); rw [HLD.out] at hsrc3; have hl3 : (l.take k ++ [f]).length = k + 1 := (by rw [List.length_append, HLT.out]; rfl); have HL3 := Lib.hid hl3; clear hown2 hg2 c0 c1 c2 c3 c4 c5 hl3)
        | (at_builtin; refine wpList_app rfl _ _ _ rfl w.heap.size elFl v2 (l.take k ++ [f]).length _ rfl hown2' _ _ _ rfl hsrc3 (by rw [HL3.out]; unfold maxLen; omega) (by rw [HL3.out]; omega) hb3.size ?_; intro v3 w4 hown3 hg3 _))
      have hown3' : Own encF 43 6 w.heap.size w4 v3 (placeF f l) := by
        rw [HPl.out, show l.take k ++ f :: l.drop k = (l.take k ++ [f]) ++ l.drop k by simp]
        unfold Own
        rw [List.length_append, List.flatMap_append, HLD.out]
        exact hown3
      have hb4 := Bapp hb3 hown2' hg3 (Nat.le_refl _) hb3.size
      go_ret
      exact ⟨_, rfl, hown3'.at encF_enc, hb4⟩
    · obtain ⟨c0, -⟩ := flCells hx hbw.drew hxk
      have p0 := (CF.out _ hb.drew).1
      have i1 := idx_at (c := c) 6 Tryz.underlying23 szFl ha k hlt
      have hk1 : (k : Int) < (l.length : Int) := by omega
      have hC := fun W => isBehind_any f.path x.path W hf.1 (HS.out x (List.mem_of_getElem? hxk)).1
      simp only [hc1] at hC
      have HC := Lib.hid hC; have HX := Lib.hid hxk; have HC2 := Lib.hid hc2
      clear hC hc1 hc2 hxk HFirst HDrop hsl1
      go_wp2_with fail
      go_region_held3 (fun w' => w'.cell? ⟨w.heap.size, 0, none⟩ = some (S f.path) ∧ w'.cell? ⟨b, o + k * 6, none⟩ = some (S x.path)) (exact ⟨p0, c0⟩) (first | (go_at_call 68; (with_reducible refine (HC.out _).mono ?_); rintro e w2 ⟨rfl, rfl⟩))
      go_wp2_with fail
      go_roundw
      case rel => exact ⟨k + 1, by omega, by go_num, (Lib.hid fun j g hj' hg => by
        rcases Nat.lt_or_ge j k with h | h
        · exact hj.out j g h hg
        · obtain rfl : j = k := by omega
          rw [HX.out] at hg; cases hg; exact HC2.out), hb.drew⟩
      case measure => simp [intOf]; omega
    · have HPl := Lib.hid (HFirst.out (.inr ⟨x, hxk, hc2⟩))
      obtain ⟨c0, -⟩ := flCells hx hbw.drew hxk
      have p0 := (CF.out _ hb.drew).1
      have i1 := idx_at (c := c) 6 Tryz.underlying23 szFl ha k hlt
      have hk1 : (k : Int) < (l.length : Int) := by omega
      have hC := fun W => isBehind_any f.path x.path W hf.1 (HS.out x (List.mem_of_getElem? hxk)).1
      simp only [hc1] at hC
      have HC := Lib.hid hC
      clear hC hc1 hc2 hxk HFirst
      go_wp2_with fail
      go_region_held3 (fun w' => w'.cell? ⟨w.heap.size, 0, none⟩ = some (S f.path) ∧ w'.cell? ⟨b, o + k * 6, none⟩ = some (S x.path)) (exact ⟨p0, c0⟩) (first | (go_at_call 68; (with_reducible refine (HC.out _).mono ?_); rintro e w2 ⟨rfl, rfl⟩))
      have hbW := hbw.drew; have hb0W := hb.drew
      clear hj p0 c0 i1
      have hat1 : FilesAt wr.drew (.slice a k c) (l.take k) := ⟨a, c, b, o, by rw [hlt1], fun h => ha (by rw [hlt1] at h; omega), by rw [hlt1]; omega, hcmx, fun j y hj u z hz => by
        have hj2 : j < k := by
          rcases Nat.lt_or_ge j k with h | h
          · exact h
          · rw [List.getElem?_eq_none (by rw [hlt1]; omega)] at hj; cases hj
        rw [List.getElem?_take_of_lt hj2] at hj
        have h1 := hx j y hj u z hz
        exact (hbW.cell (World.block_lt_of_cell? w _ h1)).trans h1⟩
      have hsrc1 := hat1.src encF_enc (by decide)
      rw [hlt1] at hsrc1
      obtain ⟨a2, c2', hrun2, hat2⟩ := HDrop.out
      have Hat2 := Lib.hid hat2
      have HRun2 := Lib.hid hrun2
      have HLT := Lib.hid hlt1; have HLD := Lib.hid hld1
      clear hat1 hat2 hrun2 hlt1 hld1
      have hr2 := HRun2.out
      go_wp2_with (first
        | (at_builtin; refine wpList_app rfl _ _ _ rfl w.heap.size elFl (.slice none 0 0) 0 [] rfl (Own.nil encF _ 6 _ _) _ _ _ rfl hsrc1 (by unfold maxLen; omega) (by omega) hbW.size ?_; intro v1 w2 hown1 hg1 _; have hown1' : Own encF 43 6 w.heap.size w2 v1 (l.take k) := (by unfold Own; rw [HLT.out]; simpa using hown1); have hb2 : Below w.heap.size w w2 := hbW.grown hg1 hbW.size (fun k hk => by cases hk); have hb02 : Below w0.heap.size w0 w2 := hb0W.grown hg1 hb0W.size (fun k hk => by cases hk); obtain ⟨c0, c1, c2, c3, c4, c5⟩ := CF.out _ hb02; clear hown1 hg1 hsrc1)
        | (at_builtin; refine wpList_app rfl _ _ _ rfl w.heap.size elFl v1 (l.take k).length _ rfl (hown1'.alloc _) (.slice (some ⟨w2.heap.size, 0, none⟩) 1 1) 1 (encF f) rfl (src_one rfl rfl (by simp [Value.oneCell'])) (by rw [HLT.out]; unfold maxLen; omega) (by rw [HLT.out]; omega) (by have := hb2.size; simp; omega) ?_; intro v2 w3 hown2 hg2 _; have hown2' := Own.snoc hown2; have hb3 : Below w.heap.size w w3 := (Bapp (hb2.alloc hb2.size _) (hown1'.alloc _) hg2 (Nat.le_refl _) (by have := hb2.size; simp; omega)); have hsrc3 := (Hat2.out.below hb3).src encF_enc (by decide); rw [HLD.out] at hsrc3; have hl3 : (l.take k ++ [f]).length = k + 1 := (by rw [List.length_append, HLT.out]; rfl); have HL3 := Lib.hid hl3; clear hown2 hg2 c0 c1 c2 c3 c4 c5 hl3)
        | (at_builtin; refine wpList_app rfl _ _ _ rfl w.heap.size elFl v2 (l.take k ++ [f]).length _ rfl hown2' _ _ _ rfl hsrc3 (by rw [HL3.out]; unfold maxLen; omega) (by rw [HL3.out]; omega) hb3.size ?_; intro v3 w4 hown3 hg3 _))
      have hown3' : Own encF 43 6 w.heap.size w4 v3 (placeF f l) := by
        rw [HPl.out, show l.take k ++ f :: l.drop k = (l.take k ++ [f]) ++ l.drop k by simp]
        unfold Own
        rw [List.length_append, List.flatMap_append, HLD.out]
        exact hown3
      have hb4 := Bapp hb3 hown2' hg3 (Nat.le_refl _) hb3.size
      go_ret
      exact ⟨_, rfl, hown3'.at encF_enc, hb4⟩
end Go.Proofs.YtpfohfihkmjnaaaGreatDoor
namespace Go.Proofs.YtpfohfihkmjnaaaGreatDoor
open Go.RowKit
attribute [local go_sem] bget bapp
theorem drop_cut {s : Str} {f k : Nat} (hf : f ≤ k) (hk : k < s.length) : s.drop f = (s.drop f).take (k - f) ++ s[k] :: s.drop (k + 1) := by
  have h1 : s.drop k = s[k] :: s.drop (k + 1) := List.drop_eq_getElem_cons hk
  have h2 : (s.drop f).drop (k - f) = s.drop k := by rw [List.drop_drop]; congr 1; omega
  rw [← h1, ← h2, List.take_append_drop]
theorem take_cut {s : Str} {f k : Nat} (hf : f ≤ k) (hk : k < s.length) : (s.drop f).take (k + 1 - f) = (s.drop f).take (k - f) ++ [s[k]] := by
  rw [show k + 1 - f = (k - f) + 1 by omega]
  refine take_snoc' ?_
  rw [List.getElem?_drop, show f + (k - f) = k by omega]; simp [hk]
set_option maxRecDepth 20000 in
set_option maxHeartbeats 400000 in
theorem refCut_any (s : Str) (c : UInt8) (w : World) (hs : s.length ≤ 100000) :
    Calls Tryz.prog 158 #[S s, .int .u8 c.toNat] w fun e w' => ∃ v', e = .returned v' ∧ Own encS 9 1 w.heap.size w' v' (cutAt c s) ∧ Below w.heap.size w w' := by
  go_enter Tryz.func158, Tryz.ntmps158
  go_wp2_with fail
  go_loopw [5, 6, 7] (fun o f i wr => ∃ (k m : Nat) (out : List Str), k ≤ s.length ∧ m ≤ k ∧ i = .int .i64 k ∧ f = .int .i64 m ∧ Hid (cutAt c s = out ++ cutAt c (s.drop m)) ∧ Hid (c ∉ (s.drop m).take (k - m)) ∧ out.length ≤ k ∧ Own encS 9 1 w.heap.size wr o out ∧ Below w.heap.size w wr) (fun _ _ i _ => s.length - (intOf i).toNat)
  case atStart => exact ⟨0, 0, [], by omega, by omega, rfl, rfl, rfl, by simp [Hid], by simp, Own.nil _ _ _ _ _, Below.refl _ _⟩
  case round =>
    obtain ⟨k, m, out, hk, hm, rfl, rfl, hcut, hno, hol, ho, hb⟩ := hrel
    have hmk : (m : Int) ≤ k := by omega
    have hks : (k : Int) ≤ s.length := by omega
    by_cases hlt : k < s.length
    · have hk1 : (k : Int) < s.length := by omega
      by_cases he : s[k] = c
      · have g1 : ((s[k].toNat : Int) == c.toNat) = true := by rw [he]; simp
        have hd := drop_cut hm hlt
        have hc2 : cutAt c s = (out ++ [(s.drop m).take (k - m)]) ++ cutAt c (s.drop (k + 1)) := by
          rw [hcut.out]
          have : cutAt c (s.drop m) = (s.drop m).take (k - m) :: cutAt c (s.drop (k + 1)) := by
            conv => lhs; rw [hd, he]
            exact cutAt_app hno.out
          rw [this]; simp
        have Hc := Lib.hid hc2
        clear he hd hc2
        go_wp2_with (at_builtin; refine wpList_app rfl _ _ _ rfl w.heap.size elStr _ out.length _ rfl (ho.alloc _) (.slice (some ⟨wr.heap.size, 0, none⟩) 1 1) 1 [.string ((ByteArray.mk s.toArray).extract m k)] rfl (src_one rfl rfl (by simp [Value.oneCell'])) (by unfold maxLen; omega) (by omega) (by have := hb.size; simp; omega) ?_; intro v' w2 hown hg _)
        rw [ByteArray.extract_mk] at hown
        go_roundw
        case rel => exact ⟨k + 1, k + 1, out ++ [(s.drop m).take (k - m)], by omega, by omega, by go_num, by go_num, Hc.out, by simp [Hid], by simp; omega, Own.snoc hown, Bapp (hb.alloc hb.size _) (ho.alloc _) hg (Nat.le_refl _) (by have := hb.size; simp; omega)⟩
        case measure => simp [intOf]; omega
      · have g1 : ((s[k].toNat : Int) == c.toNat) = false := by
          simp; intro h; apply he; apply UInt8.toNat_inj.1; exact Int.ofNat.inj h
        have hn2 : c ∉ (s.drop m).take (k + 1 - m) := by
          rw [take_cut hm hlt]; intro h
          rcases List.mem_append.1 h with h | h
          · exact hno.out h
          · exact he (List.mem_singleton.1 h).symm
        have Hn := Lib.hid hn2
        clear he hn2
        go_wp2_with fail
        go_roundw
        case rel => exact ⟨k + 1, m, out, by omega, by omega, by go_num, rfl, hcut, Hn, by omega, ho, hb⟩
        case measure => simp [intOf]; omega
    · obtain rfl : k = s.length := by omega
      have hc2 : cutAt c s = out ++ [s.drop m] := by
        have h := hno.out
        rw [List.take_of_length_le (by simp)] at h
        rw [hcut.out, cutAt_none h]
      have Hc := Lib.hid hc2
      clear hc2
      go_wp2_with (at_builtin; refine wpList_app rfl _ _ _ rfl w.heap.size elStr _ out.length _ rfl (ho.alloc _) (.slice (some ⟨wr.heap.size, 0, none⟩) 1 1) 1 [.string ((ByteArray.mk s.toArray).extract m s.length)] rfl (src_one rfl rfl (by simp [Value.oneCell'])) (by unfold maxLen; omega) (by omega) (by have := hb.size; simp; omega) ?_; intro v' w2 hown hg _)
      rw [extract_from] at hown
      go_ret
      exact ⟨_, rfl, by rw [Hc.out]; exact Own.snoc hown, Bapp (hb.alloc hb.size _) (ho.alloc _) hg (Nat.le_refl _) (by have := hb.size; simp; omega)⟩
end Go.Proofs.YtpfohfihkmjnaaaGreatDoor
namespace Go.Proofs.YtpfohfihkmjnaaaGreatDoor
open Go.RowKit
theorem nameOk_eq (s : Str) : nameOk s = nameB s 8 := by
  unfold nameOk nameB
  have e : (s.all fun b => partSigns.contains b) = s.all signB := by congr 1; funext b; exact signB_eq b
  rw [e, Bool.eq_iff_iff]
  have hn : s ≠ [] ↔ 1 ≤ s.length := by cases s <;> simp
  simp only [Bool.and_eq_true, decide_eq_true_eq, hn]
  exact ⟨fun ⟨h1, h2, h3⟩ => ⟨h3, h1, by omega⟩, fun ⟨h1, h2, h3⟩ => ⟨h2, by omega, h1⟩⟩
theorem rowErr_ways (r : Rw) : (nameB r.part 8 = false ∧ rowCheck r = 5) ∨ (nameB r.part 8 = true ∧ ((decide (farN r.key) = true ∧ rowCheck r = 2) ∨ (decide (farN r.key) = false ∧ ((decide (farN r.val) = true ∧ rowCheck r = 2) ∨ (decide (farN r.val) = false ∧ rowCheck r = 0))))) := by
  rw [← nameOk_eq]
  cases h : nameOk r.part with
  | false => exact .inl ⟨rfl, rowCheck_name h⟩
  | true =>
    refine .inr ⟨rfl, ?_⟩
    by_cases h1 : farN r.key
    · exact .inl ⟨decide_eq_true h1, rowCheck_far h (.inl h1)⟩
    · refine .inr ⟨decide_eq_false h1, ?_⟩
      by_cases h2 : farN r.val
      · exact .inl ⟨decide_eq_true h2, rowCheck_far h (.inr h2)⟩
      · exact .inr ⟨decide_eq_false h2, rowCheck_right h h1 h2⟩
set_option maxHeartbeats 1000000 in
set_option maxRecDepth 20000 in
theorem rowError_any (r : Rw) (w : World) (hs : r.part.length ≤ 100000) :
    Calls Tryz.prog 71 #[rowV r] w fun e w' => e = .returned (.int .i64 (rowCheck r : Nat)) ∧ Below w.heap.size w w' := by
  have hb0 : Below w.heap.size w (w.alloc (.cells #[S r.part, .int .i64 r.key, .int .i64 r.val] 106)) := (Below.refl _ _).alloc (Nat.le_refl _) _
  obtain ⟨c0, c1, c2⟩ := rowCells (r := r) (w := w) rfl (Below.refl _ (w.alloc (.cells #[S r.part, .int .i64 r.key, .int .i64 r.val] 106)))
  have hNm := fun W => isName_any r.part 8 W hs
  have hF1 := fun W => isFar_any r.key W
  have hF2 := fun W => isFar_any r.val W
  rcases rowErr_ways r with ⟨h1, hc⟩ | ⟨h1, ⟨h2, hc⟩ | ⟨h2, ⟨h3, hc⟩ | ⟨h3, hc⟩⟩⟩
  case' inl => rw [h1] at hNm
  case' inr.inl => rw [h1] at hNm; rw [h2] at hF1; generalize decide (farN r.val) = fv at hF2
  case' inr.inr.inl => rw [h1] at hNm; rw [h2] at hF1; rw [h3] at hF2
  case' inr.inr.inr => rw [h1] at hNm; rw [h2] at hF1; rw [h3] at hF2
  all_goals
    rw [hc]
    have HNm := Lib.hid hNm; have HF1 := Lib.hid hF1; have HF2 := Lib.hid hF2
    clear hNm hF1 hF2 hc
    try clear h1
    try clear h2
    try clear h3
    go_enter Tryz.func71, Tryz.ntmps71
    go_wp2_with fail
    refine (HNm.out _).mono ?_
    rintro e w' ⟨rfl, rfl⟩
    go_wp2_with fail
    first
    | (go_ret; exact ⟨rfl, hb0⟩)
    | (refine (HF1.out _).mono ?_; rintro e w' ⟨rfl, rfl⟩; go_wp2_with fail; refine (HF2.out _).mono ?_; rintro e w' ⟨rfl, rfl⟩; go_wp2_with fail; go_ret; exact ⟨rfl, hb0⟩)
set_option maxHeartbeats 2000000 in
set_option maxRecDepth 20000 in
theorem refRowText_any (r : Rw) (w : World) (hs : r.part.length ≤ 100000) :
    Calls Tryz.prog 73 #[rowV r] w fun e w' => e = .returned (S (rowText r)) ∧ Below w.heap.size w w' := by
  have hb0 : Below w.heap.size w (w.alloc (.cells #[S r.part, .int .i64 r.key, .int .i64 r.val] 106)) := (Below.refl _ _).alloc (Nat.le_refl _) _
  have CF := Lib.hid (fun w6 (h : Below (w.alloc (.cells #[S r.part, .int .i64 r.key, .int .i64 r.val] 106)).heap.size (w.alloc (.cells #[S r.part, .int .i64 r.key, .int .i64 r.val] 106)) w6) => rowCells (r := r) rfl h)
  obtain ⟨c0, c1, c2⟩ := CF.out _ (Below.refl _ _)
  have hfe := rowError_any r (w.alloc (.cells #[S r.part, .int .i64 r.key, .int .i64 r.val] 106)) hs
  by_cases hc : rowCheck r = 0
  case neg =>
    have HF : Hid (rowText r = []) := Lib.hid (if_neg hc)
    have hpos : (0 : Int) < ((rowCheck r : Nat) : Int) := by omega
    generalize rowCheck r = k at *
    have HFe := Lib.hid hfe
    clear hfe hc
    go_enter Tryz.func73, Tryz.ntmps73
    go_wp2_with fail
    refine HFe.out.mono ?_
    rintro e w1 ⟨rfl, hb1⟩
    go_wp2_with fail
    go_ret
    exact ⟨by rw [HF.out]; rfl, hb0.trans (hb1.mono hb0.size)⟩
  rw [hc] at hfe
  have HFe := Lib.hid hfe
  have HF : Hid (rowText r = rowLine r) := Lib.hid (if_pos hc)
  obtain ⟨q0, q1, q2, q3, q4⟩ := name_len hc
  clear hfe hc
  have l1 := itoa_len r.key (by omega) (by omega)
  have l2 := itoa_len r.val (by omega) (by omega)
  have d1 := fun W => decimal_any r.key W (by omega) (by omega)
  have d2 := fun W => decimal_any r.val W (by omega) (by omega)
  have hfl : rowLine r = r.part ++ numsTail [r.key, r.val] := rfl
  have HFl := Lib.hid hfl
  clear hfl q1 q2 q3 q4
  generalize ht1 : Lib.itoa r.key = t1 at *
  generalize ht2 : Lib.itoa r.val = t2 at *
  have D1 := Lib.hid d1; have D2 := Lib.hid d2
  clear d1 d2
  have r1 := cat_run ⟨r.part.toArray⟩ ⟨#[32]⟩ (r.part.length) (1) rfl rfl (by omega)
  have r2 := cat_run (⟨r.part.toArray⟩ ++ ⟨#[32]⟩) ⟨t1.toArray⟩ (r.part.length + 1) (t1.length) (by simp only [ByteArray.size_append]; rfl) rfl (by omega)
  have r3 := cat_run (⟨r.part.toArray⟩ ++ ⟨#[32]⟩ ++ ⟨t1.toArray⟩) ⟨#[32]⟩ (r.part.length + 1 + t1.length) (1) (by simp only [ByteArray.size_append]; rfl) rfl (by omega)
  have r4 := cat_run (⟨r.part.toArray⟩ ++ ⟨#[32]⟩ ++ ⟨t1.toArray⟩ ++ ⟨#[32]⟩) ⟨t2.toArray⟩ (r.part.length + 1 + t1.length + 1) (t2.length) (by simp only [ByteArray.size_append]; rfl) rfl (by omega)
  have HAll : Hid ((⟨r.part.toArray⟩ : ByteArray) ++ ⟨#[32]⟩ ++ ⟨t1.toArray⟩ ++ ⟨#[32]⟩ ++ ⟨t2.toArray⟩ = ⟨(rowLine r).toArray⟩) := Lib.hid (by
    rw [HFl.out]
    simp only [numsTail, List.flatMap_cons, List.flatMap_nil, ht1, ht2]
    apply ByteArray.ext
    simp)
  clear ht1 ht2
  go_enter Tryz.func73, Tryz.ntmps73
  go_wp2_with fail
  generalize w.alloc (.cells #[S r.part, .int .i64 r.key, .int .i64 r.val] 106) = w0 at *
  refine HFe.out.mono ?_
  rintro e w1 ⟨rfl, hb1⟩
  have hb1d := hb1.drew
  clear c0 c1 c2
  obtain ⟨c0, c1, c2⟩ := CF.out _ hb1d
  go_wp2_with fail
  go_region_held3 (fun w' => w'.cell? ⟨w.heap.size, 0, none⟩ = some (S r.part) ∧ w'.cell? ⟨w.heap.size, 1, none⟩ = some (.int .i64 r.key) ∧ w'.cell? ⟨w.heap.size, 2, none⟩ = some (.int .i64 r.val)) (exact ⟨c0, c1, c2⟩) (first | (go_at_call 78; (with_reducible refine (D1.out _).mono ?_); rintro e v1 ⟨rfl, hd1⟩; have c0 := (hd1.cell (World.block_lt_of_cell? _ _ c0)).trans c0; have c1 := (hd1.cell (World.block_lt_of_cell? _ _ c1)).trans c1; have c2 := (hd1.cell (World.block_lt_of_cell? _ _ c2)).trans c2) | (go_at_call 78; (with_reducible refine (D2.out _).mono ?_); rintro e v2 ⟨rfl, hd2⟩; have c0 := (hd2.cell (World.block_lt_of_cell? _ _ c0)).trans c0; have c1 := (hd2.cell (World.block_lt_of_cell? _ _ c1)).trans c1; have c2 := (hd2.cell (World.block_lt_of_cell? _ _ c2)).trans c2))
  go_wp2_with fail
  go_ret
  refine ⟨?_, ?_⟩
  · show Ending.returned (.string ((⟨r.part.toArray⟩ : ByteArray) ++ ⟨#[32]⟩ ++ ⟨t1.toArray⟩ ++ ⟨#[32]⟩ ++ ⟨t2.toArray⟩)) = _
    rw [HAll.out, HF.out]
  · have hbw1 := hb0.trans (hb1d.mono hb0.size)
    have h1 := hbw1.trans (hd1.mono hbw1.size)
    exact h1.trans (hd2.mono h1.size)
theorem less_ways (a b : Rw) : ((a.part == b.part) = false ∧ Op.bytesLess a.part b.part = lessR a b) ∨ ((a.part == b.part) = true ∧ (((a.key != b.key) = true ∧ decide (a.key < b.key) = lessR a b) ∨ ((a.key != b.key) = false ∧ decide (a.val < b.val) = lessR a b))) := by
  unfold lessR
  by_cases h1 : a.part = b.part
  · refine .inr ⟨by simp [h1], ?_⟩
    rw [if_neg (fun h : a.part ≠ b.part => h h1)]
    by_cases h2 : a.key = b.key
    · refine .inr ⟨by simp [h2], ?_⟩
      rw [if_neg (fun h : a.key ≠ b.key => h h2)]
    · refine .inl ⟨by simpa using h2, ?_⟩
      rw [if_pos (show a.key ≠ b.key from h2)]
  · refine .inl ⟨by simpa using h1, ?_⟩
    rw [if_pos (show a.part ≠ b.part from h1)]
    exact less_befR a.part b.part
set_option maxHeartbeats 1000000 in
set_option maxRecDepth 20000 in
theorem isLess_any (a b : Rw) (w : World) :
    Calls Tryz.prog 116 #[rowV a, rowV b] w fun e w' => e = .returned (.bool (lessR a b)) ∧ Below w.heap.size w w' := by
  have hb0 : Below w.heap.size w (w.alloc (.cells #[S a.part, .int .i64 a.key, .int .i64 a.val] 106)) := (Below.refl _ _).alloc (Nat.le_refl _) _
  obtain ⟨w0, hw0⟩ : ∃ w0, w0 = w.alloc (.cells #[S a.part, .int .i64 a.key, .int .i64 a.val] 106) := ⟨_, rfl⟩
  have hb1 : Below w0.heap.size w0 (w0.alloc (.cells #[S b.part, .int .i64 b.key, .int .i64 b.val] 106)) := (Below.refl _ _).alloc (Nat.le_refl _) _
  obtain ⟨c0, c1, c2⟩ := rowCells (r := a) hw0 hb1
  obtain ⟨d0, d1, d2⟩ := rowCells (r := b) (w := w0) rfl (Below.refl _ _)
  have hsz : w0.heap.size = w.heap.size + 1 := by rw [hw0]; simp
  have hb2 := (hw0 ▸ hb0).trans (hb1.mono (hw0 ▸ hb0).size)
  rw [hw0] at c0 c1 c2
  rw [hsz] at d0 d1 d2
  rw [hw0] at d0 d1 d2 hb2
  have HB2 := Lib.hid hb2
  clear hb0 hb1 hb2 hsz hw0 w0
  rcases less_ways a b with ⟨g1, hl⟩ | ⟨g1, ⟨g2, hl⟩ | ⟨g2, hl⟩⟩
  all_goals
    have HL := Lib.hid hl
    clear hl
    go_enter Tryz.func116, Tryz.ntmps116
    go_wp2_with fail
    go_ret
    exact ⟨ret_bool HL.out, HB2.out⟩
theorem rw_equalIn (x y : Rw) (w : World) : (Op.equalIn 10000 106 (rowV x) (rowV y)).run Tryz.prog w = .ok (decide (x = y)) w := by
  have uS := Tryz.underlying9
  have uI := Tryz.underlying3
  have aS := Tryz.isAgg9
  have aI := Tryz.isAgg3
  have zS := Tryz.sizeOf9
  have zI := Tryz.sizeOf3
  have hS : Tryz.prog.underlying 106 = some (.struct (Tryz.prog.fieldsOf 106)) := by kernel_rfl
  have hp : Tryz.prog.stoodInHeld 106 = false := by kernel_rfl
  rw [show (10000 : Nat) = 9999 + 1 from rfl, run_equalIn_agg w 9999 106 _ _ hS hp]
  simp only [Program.fieldsOf, Tryz.underlying106]
  go_simp
  cases x with
  | mk p1 n1 a1 =>
  cases y with
  | mk p2 n2 a2 =>
  by_cases h1 : p1 = p2 <;> by_cases h3 : n1 = n2 <;> by_cases h4 : a1 = a2 <;> simp [h1, h3, h4]
theorem rw_neq (x y : Rw) (w : World) : (binOp .neq 106 (rowV x) (rowV y)).run Tryz.prog w = .ok (.bool (!decide (x = y))) w := by
  rw [run_neq_struct, rw_equalIn]; rfl
theorem rw_guard : Tryz.prog.eqGuardType Tryz.prog.depth 106 = false := by kernel_rfl
end Go.Proofs.YtpfohfihkmjnaaaGreatDoor
namespace Go.Proofs.YtpfohfihkmjnaaaGreatDoor
open Go.RowKit Go.Sort Go.Lib Go.Shelf
theorem flatK_list {α : Type} [Inhabited α] {enc : α → List Value} {k : Nat} (hen : Enc enc k) (hk : 0 < k) (l : List α) : (flatK enc k l.toArray).toList = l.flatMap enc := by
  apply List.ext_getElem?
  intro i
  by_cases hi : i < l.length * k
  · have hd : i / k < l.length := Nat.div_lt_of_lt_mul (by rw [Nat.mul_comm]; exact hi)
    have hm : i % k < (enc l[i / k]).length := by rw [(hen _).1]; exact Nat.mod_lt _ hk
    have h1 := flat_get hen l (i / k) l[i / k] (by simp [hd]) (i % k) _ (List.getElem?_eq_getElem hm)
    rw [show i / k * k + i % k = i by have := Nat.div_add_mod i k; rw [Nat.mul_comm] at this; omega] at h1
    rw [h1]
    simp [flatK, hi, hd, hm]
  · rw [List.getElem?_eq_none (by simp; omega), List.getElem?_eq_none (by rw [flat_length hen]; omega)]
theorem heap_sortedK {w : World} {g n : Nat} {os : Array Obj} {cur : Array Value} {e : TypeId} {fr : Nat × Nat} (F : Array Value) (hb : w.heap[g]? = some (.cells cur e fr)) :
    (grow (putRow id (Sort.ahead w n) g 0 F) os).heap[g]? = some (.cells (putCells id 0 F cur) e fr) := by
  have hg : g < w.heap.size := (Array.getElem?_eq_some_iff.1 hb).1
  rw [heap_grow_old _ _ (by simpa using hg)]
  simp [putRow, mapBlock, Sort.ahead, Array.getElem?_modify, hb, onCells]
theorem grownBy_sortedK {w : World} {g n : Nat} {os : Array Obj} (F : Array Value) : w.grownBy (grow (putRow id (Sort.ahead w n) g 0 F) os) (some g) := by
  refine ⟨rfl, rfl, rfl, by simp, fun k hk hne => ?_⟩
  rw [heap_grow_old _ _ (by simpa using hk)]
  have : g ≠ k := fun e => hne (by rw [e])
  simp [putRow, mapBlock, Sort.ahead, Array.getElem?_modify, this]
theorem take_putK (cur : Array Value) (ts : List Value) (h : ts.length ≤ cur.size) : (putCells id 0 ts.toArray cur).toList.take ts.length = ts := by
  apply List.ext_getElem?
  intro j
  by_cases hj : j < ts.length
  · rw [List.getElem?_take_of_lt hj, Array.getElem?_toList]
    simp [putCells, hj, show j < cur.size by omega]
  · rw [List.getElem?_take_eq_none (by omega), List.getElem?_eq_none (by omega)]
/-- What the call owns, held as the sort wants it. -/
theorem Own.holdsK {α : Type} [Inhabited α] {enc : α → List Value} {e : TypeId} {k B : Nat} {w : World} {g n cap : Nat} {l : List α} (hen : Enc enc k) (hk : 0 < k) (h : Own enc e k B w (.slice (some ⟨g, 0, none⟩) n cap) l) : HoldsK enc k w g 0 l.toArray := by
  obtain ⟨cur, hB, hg, hl, hc, hm, hs, ht⟩ := h.row
  intro j hj
  have hj' : j < l.length * k := by simpa using hj
  refine ⟨?_, by simp [World.frozen?, hg]⟩
  have hf := flatK_list hen hk l
  rw [cell_of_row w g _ cur e (0, 0) hg, Nat.zero_add]
  have h1 : (cur.toList.take (n * k))[j]? = (flatK enc k l.toArray).toList[j]? := by rw [ht, hf]
  rw [List.getElem?_take_of_lt (by rw [← hl]; exact hj')] at h1
  have h2 : (flatK enc k l.toArray).toList[j]? = some (flatK enc k l.toArray)[j]! := by
    rw [Array.getElem?_toList, getElem!_pos _ j hj]; simp
  rw [← Array.getElem?_toList, h1, h2]; rfl
/-- Behind the sort the same slice owns what was sorted. -/
theorem Own.sorted {α : Type} [Inhabited α] {enc : α → List Value} {e : TypeId} {k B n' : Nat} {os : Array Obj} {w : World} {g n cap : Nat} {l m : List α} (hen : Enc enc k) (hk : 0 < k) (h : Own enc e k B w (.slice (some ⟨g, 0, none⟩) n cap) l) (hml : m.length = l.length) :
    Own enc e k B (sortWorldK enc k w g 0 n' m.toArray os) (.slice (some ⟨g, 0, none⟩) n cap) m := by
  obtain ⟨cur, hB, hg, hl, hc, hm, hs, ht⟩ := h.row
  have hf := flatK_list hen hk m
  have hF : flatK enc k m.toArray = (m.flatMap enc).toArray := by rw [← hf]
  unfold sortWorldK putRowK
  rw [hF]
  refine Own.put hen (by omega) hB (heap_sortedK _ hg) hc hm (by simp [putCells, hs]) ?_
  have hlen : (m.flatMap enc).length = n * k := by rw [flat_length hen, hml, hl]
  have := take_putK cur (m.flatMap enc) (by rw [hlen, hs]; exact Nat.mul_le_mul_right _ hc)
  rwa [hlen] at this
theorem swo_less : SWO (ltOf cmpR) where
  irrefl x := by unfold ltOf; rw [cmpR_less]; exact less_irrefl x
  trans x y z h1 h2 := by unfold ltOf at *; rw [cmpR_less] at *; exact less_trans h1 h2
  ntrans x y z h1 h2 := by unfold ltOf at *; rw [cmpR_less] at *; exact le_trans' h2 h1
theorem clo_compare : ∀ args w, (callFunc 107 args).run Tryz.prog w = .ok (.enter 107 args) w := enters_of Tryz.func107 (by kernel_rfl) rfl
theorem sortFuncR_any (B : Nat) (v : Value) (l : List Rw) (w : World) (ho : Own encR 106 3 B w v l) (hB : B ≤ w.heap.size) (hn : l.length ≤ 100000) :
    Calls Tryz.prog 147 #[v, .func (.func 107) #[] #[]] w fun e w' => e = .returned (.tuple #[]) ∧ Own encR 106 3 B w' v (sortR l) ∧ Below B w w' := by
  have hol := ho
  rcases ho.2 with ⟨rfl, h0⟩ | ⟨g, cap, cur, rfl, hbase, hb, h1, h2, h3, h4⟩
  · obtain rfl := List.eq_nil_of_length_eq_zero h0
    have h := AnyF.slices_SortFunc_none Tryz.sortR none 0 (.func (.func 107) #[] #[]) w
    refine (show Calls Tryz.prog 147 _ w _ from h).mono ?_
    rintro e w' ⟨rfl, rfl⟩
    exact ⟨rfl, ho, Below.refl _ _⟩
  · have h := AnyQ.slices_SortFunc Tryz.sortR 3 Tryz.isAgg106 Tryz.sizeOf106 encR (fun x => (encR_enc x).1) (fun x => (encR_enc x).2) cmpR swo_less 107 #[] g 0 cap l.toArray w clo_compare (fun _ _ _ _ x y => rowCompareG_any x y _) (hol.holdsK encR_enc (by decide)) (Array.getElem?_eq_some_iff.1 hb).1 (by simp; omega)
    refine (show Calls Tryz.prog 147 #[.slice (some ⟨g, 0, none⟩) l.toArray.size cap, .func (.func 107) #[] #[]] w _ from h).mono ?_
    rintro e w' ⟨rfl, d', n, os, hp, hs, rfl⟩
    have hsz : d'.size = l.length := by simpa using hp.1
    have hd : d'.toList = sortR l := by
      refine sort_of ?_ ?_
      · refine List.pairwise_iff_getElem.2 fun i j hi hj hij => ?_
        have := hs i j (Nat.zero_le _) hij (by simpa [hsz] using hj)
        unfold ltOf at this
        rw [cmpR_less] at this
        simpa [getElem!_pos, show i < d'.size by simpa using hi, show j < d'.size by simpa using hj] using this
      · have := hp.2.2
        simpa [hsz, Array.extract_eq_self_of_le] using this
    refine ⟨rfl, ?_, (Below.refl B w).grown (grownBy_sortedK _) hB (fun k hk => by cases hk; exact hbase)⟩
    have h5 := hol.sorted (n' := n) (os := os) encR_enc (by decide) (m := d'.toList) (by simpa using hsz)
    rw [hd] at h5
    rw [show d' = (sortR l).toArray by rw [← hd]]
    exact h5
theorem valuesR_any (a : Option Addr) (len cap : Nat) (w : World) :
    Calls Tryz.prog 106 #[.slice a len cap] w fun e w' => e = .returned (.func (.func 148) #[] #[.pointer (some ⟨w.heap.size, 0, none⟩)]) ∧ w' = w.alloc (.cells #[.slice a len cap] 44) :=
  callsIn_wide.1 (valuesR_in Fence.wide 6 trivial rfl a len cap w)
theorem collectR_any (Bs : Nat) (v : Value) (l : List Rw) (w0 w : World) (hBs : Bs < w.heap.size) (hc : w.cell? ⟨Bs, 0, none⟩ = some v) (hl : RowsAt w0 v l) (hb0 : Below w0.heap.size w0 w) (hn : l.length ≤ 100000) :
    Calls Tryz.prog 146 #[.func (.func 148) #[] #[.pointer (some ⟨Bs, 0, none⟩)]] w fun e w' => ∃ u, e = .returned u ∧ Own encR 106 3 w.heap.size w' u l ∧ Below w.heap.size w w' :=
  callsIn_wide.1 (collectR_in Fence.wide 6 trivial trivial rfl (by omega) 148 #[.pointer (some ⟨Bs, 0, none⟩)] trivial (enters_of Tryz.func148 (by kernel_rfl) rfl) l hn w.heap.size w (Nat.le_refl _)
    (valuesR_stops Fence.wide 4 trivial rfl (by omega) Bs w.heap.size v l w0 w hBs (Nat.le_refl _) hc hl hb0.size hb0))
theorem sortedFuncR_any (Bs : Nat) (v : Value) (l : List Rw) (w0 w : World) (hBs : Bs < w.heap.size) (hc : w.cell? ⟨Bs, 0, none⟩ = some v) (hl : RowsAt w0 v l) (hb0 : Below w0.heap.size w0 w) (hn : l.length ≤ 100000) :
    Calls Tryz.prog 105 #[.func (.func 148) #[] #[.pointer (some ⟨Bs, 0, none⟩)], .func (.func 107) #[] #[]] w fun e w' => ∃ u, e = .returned u ∧ Own encR 106 3 w.heap.size w' u (sortR l) ∧ Below w.heap.size w w' := by
  have HC := Lib.hid (collectR_any Bs v l w0 w hBs hc hl hb0 hn)
  clear hc
  go_enter Tryz.func105, Tryz.ntmps105
  go_wp2_with fail
  refine HC.out.mono ?_
  rintro e w1 ⟨u, rfl, hown, hb1⟩
  have HS := Lib.hid (sortFuncR_any w.heap.size u l w1 hown hb1.size hn)
  go_wp2_with fail
  refine HS.out.mono ?_
  rintro e w2 ⟨rfl, hown2, hb2⟩
  go_wp2_with fail
  go_ret
  exact ⟨_, rfl, hown2, hb1.trans hb2⟩
theorem rowSort_any (v : Value) (l : List Rw) (w : World) (hl : RowsAt w v l) (hn : l.length ≤ 100000) :
    Calls Tryz.prog 55 #[v] w fun e w' => ∃ u, e = .returned u ∧ Own encR 106 3 w.heap.size w' u (sortR l) ∧ Below w.heap.size w w' := by
  obtain ⟨a, c, rfl, -, -⟩ := hl.form'
  have hba : Below w.heap.size w (w.alloc (.cells #[.slice a l.length c] 44)) := (Below.refl _ _).alloc (Nat.le_refl _) _
  have c0 : (w.alloc (.cells #[.slice a l.length c] 44)).cell? ⟨w.heap.size, 0, none⟩ = some (.slice a l.length c) := by simp
  have HS := Lib.hid (sortedFuncR_any w.heap.size _ l w _ (by simp) c0 hl hba hn)
  clear c0
  go_enter Tryz.func55, Tryz.ntmps55
  go_wp2_with fail
  refine (valuesR_any a l.length c w).mono ?_
  rintro e w1 ⟨rfl, rfl⟩
  go_wp2_with fail
  refine HS.out.mono ?_
  rintro e w2 ⟨u, rfl, hown, hb2⟩
  go_wp2_with fail
  go_ret
  exact ⟨_, rfl, hown.base (by simp), hba.trans (hb2.mono hba.size)⟩
set_option maxRecDepth 20000 in
theorem equalR_any (v u : Value) (l m : List Rw) (w : World) (hl : RowsAt w v l) (hm : RowsAt w u m) :
    Calls Tryz.prog 60 #[v, u] w fun e w' => e = .returned (.bool (decide (l = m))) ∧ Below w.heap.size w w' := by
  obtain ⟨a, c, b, o, rfl, ha, hc, hcm, hx⟩ := hl
  obtain ⟨a', c', b', o', rfl, ha', hc', hcm', hx'⟩ := hm
  unfold maxLen at hcm hcm'
  by_cases hlen : l.length = m.length
  case neg =>
    have hne : ((l.length : Int) != (m.length : Int)) = true := by simp; omega
    go_enter Tryz.func60, Tryz.ntmps60
    go_wp2_with fail
    go_ret
    exact ⟨ret_bool (decide_eq_false fun e => hlen (by rw [e])).symm, Below.refl _ _⟩
  have hne : ((l.length : Int) != (m.length : Int)) = false := by simp [hlen]
  have Hl := Lib.hid hlen; clear hlen
  go_enter Tryz.func60, Tryz.ntmps60
  go_wp2_with fail
  go_loopw [13] (fun i wr => ∃ k : Nat, k ≤ l.length ∧ i = .int .i64 k ∧ Hid (∀ j < k, l[j]? = m[j]?) ∧ Below w.heap.size w wr) (fun i _ => l.length - (intOf i).toNat)
  case atStart => exact ⟨0, by omega, rfl, Lib.hid fun j hj => absurd hj (by omega), Below.refl _ _⟩
  case round =>
    obtain ⟨k, hk, rfl, hj, hb⟩ := hrel
    by_cases hlt : k < l.length
    case neg =>
      obtain rfl : k = l.length := by omega
      go_wp2_with fail
      go_ret
      exact ⟨ret_bool (decide_eq_true (list_ext_upto Hl.out hj.out)).symm, hb⟩
    obtain ⟨x, hxk⟩ := get_ex hlt
    obtain ⟨y, hyk⟩ := get_ex (l := m) (k := k) (by rw [← Hl.out]; exact hlt)
    obtain ⟨c0, c1, c2⟩ := rwCells hx hb hxk
    obtain ⟨d0, d1, d2⟩ := rwCells hx' hb hyk
    have i1 := idx_at (c := c) 3 Tryz.underlying44 szRw ha k hlt
    have i2 := idx_at (c := c') 3 Tryz.underlying44 szRw ha' k (by rw [← Hl.out]; exact hlt)
    have hk1 : (k : Int) < (l.length : Int) := by omega
    have hn := rw_neq x y
    have hgd := rw_guard
    have Hx := Lib.hid hxk; clear hxk
    have Hy := Lib.hid hyk; clear hyk
    go_wp2_with fail
    go_quiet (fail)
    by_cases he : x = y
    · rw [decide_eq_true he]
      have He := Lib.hid he; clear he
      go_wp2_with fail
      go_roundw
      case rel => exact ⟨k + 1, by omega, by go_num, (Lib.hid fun j hj' => by
        rcases Nat.lt_or_ge j k with h | h
        · exact hj.out j h
        · obtain rfl : j = k := by omega
          rw [Hx.out, Hy.out, He.out]), Bdn hb _⟩
      case measure => simp [intOf]; omega
    · rw [decide_eq_false he]
      have He := Lib.hid he; clear he
      go_wp2_with fail
      go_ret
      refine ⟨ret_bool (decide_eq_false fun e => He.out ?_).symm, Bdn hb _⟩
      have := Hx.out; rw [e, Hy.out] at this; exact (Option.some.inj this).symm
theorem rowSame_any (v u : Value) (l m : List Rw) (w : World) (hl : RowsAt w v l) (hm : RowsAt w u m) (hn : l.length ≤ 100000) (hn2 : m.length ≤ 100000) :
    Calls Tryz.prog 17 #[v, u] w fun e w' => e = .returned (.bool (decide (sortR l = sortR m))) ∧ Below w.heap.size w w' := by
  obtain ⟨a, c, rfl, -, -⟩ := hl.form'
  obtain ⟨a', c', rfl, -, -⟩ := hm.form'
  have H1 := Lib.hid (rowSort_any _ l w hl hn)
  have HM := Lib.hid hm
  clear hm hl
  go_enter Tryz.func17, Tryz.ntmps17
  go_wp2_with fail
  refine H1.out.mono ?_
  rintro e w1 ⟨v1, rfl, hown1, hb1⟩
  have H2 := Lib.hid (rowSort_any _ m w1 (HM.out.below hb1) hn2)
  go_wp2_with fail
  refine H2.out.mono ?_
  rintro e w2 ⟨v2, rfl, hown2, hb2⟩
  have H3 := Lib.hid (equalR_any v1 v2 (sortR l) (sortR m) w2 ((hown1.below hb2).at encR_enc) (hown2.at encR_enc))
  go_wp2_with fail
  refine H3.out.mono ?_
  rintro e w3 ⟨rfl, hb3⟩
  have hb12 := hb1.trans (hb2.mono hb1.size)
  go_wp2_with fail
  go_ret
  exact ⟨rfl, hb12.trans (hb3.mono hb12.size)⟩
end Go.Proofs.YtpfohfihkmjnaaaGreatDoor
namespace Go.Proofs.YtpfohfihkmjnaaaGreatDoor
open Go.RowKit
set_option maxHeartbeats 1000000 in
set_option maxRecDepth 20000 in
theorem rowRead_any (E : Nat → Addr) (B : Nat) (s : Str) (w : World) (hE : Errs [1, 2, 5] E B w) (hT : LNum B w) (hM : LMax B w) (hs : s.length ≤ 10000) :
    Calls Tryz.prog 141 #[S s] w fun e w' => ∃ ev, e = .returned (.tuple #[rowV (rowRead s).1, ev]) ∧ ErV E w' ev (erOf (rowRead s).2) ∧ Below w.heap.size w w' := by
  have hBw := hE.le
  have hif := isIfaceE
  have hwl : (cutAt 32 s).length ≤ 10001 := by
    have := cutAt_length 32 s
    have h2 : s.count 32 ≤ s.length := List.count_le_length
    omega
  have hws : ∀ p ∈ cutAt 32 s, p.length ≤ 10000 := fun p hp => by
    have := cutAt_mem_len (c := 32) hp; omega
  have V0 := fun w6 (h : Below w.heap.size w w6) => (hE.below' h hBw).var 1 (by decide)
  simp only [errG] at V0
  have V := Lib.hid V0
  clear V0
  have hba : Below w.heap.size w (w.alloc (.cells #[S [], .int .i64 0, .int .i64 0] 106)) := (Below.refl _ _).alloc (Nat.le_refl _) _
  have hsp := split1_any B s 32 (w.alloc (.cells #[S [], .int .i64 0, .int .i64 0] 106)) (hM.below' hba hBw) (by omega)
  have hcs := fun w6 (h : Below (w.alloc (.cells #[S [], .int .i64 0, .int .i64 0] 106)).heap.size (w.alloc (.cells #[S [], .int .i64 0, .int .i64 0] 106)) w6) => rowCells (r := zeroR) rfl h
  have CZ := Lib.hid hcs; clear hcs
  have hhg := fun w6 (h : Below (w.alloc (.cells #[S [], .int .i64 0, .int .i64 0] 106)).heap.size (w.alloc (.cells #[S [], .int .i64 0, .int .i64 0] 106)) w6) => (h.block w.heap.size (by simp)).trans (heap_alloc_new w (.cells #[S [], .int .i64 0, .int .i64 0] 106))
  have HG := Lib.hid hhg; clear hhg
  have hgE : (¬ (9 = w.heap.size)) ∧ ¬ (w.heap.size = 9) := by
    have h := (hE.lt 1 (by decide)).2
    have h1 : errG 1 = 9 := rfl
    rw [h1] at h
    omega
  by_cases h6 : (cutAt 32 s).length = 3
  case neg =>
    have HF := Lib.hid (rowRead_none (rowOf_len h6))
    have g6 : (((cutAt 32 s).length : Int) != 3) = true := by simp; omega
    clear hws
    go_enter Tryz.func141, Tryz.ntmps141
    go_wp2_with fail
    generalize w.alloc (.cells #[S [], .int .i64 0, .int .i64 0] 106) = w1 at *
    refine hsp.mono ?_
    rintro e w2 ⟨rfl, hown, hb2⟩
    have hb2' := hba.trans (hb2.mono hba.size)
    have v1 := V.out _ hb2'
    obtain ⟨c0, c1, c2⟩ := CZ.out _ hb2
    generalize cutAt 32 s = W at *
    go_wp2_with fail
    have hg2 := HG.out _ hb2
    have fz : ∀ j, w2.frozen? ⟨w.heap.size, j, none⟩ = false := fun j => frozen_row hg2
    have f0 := fz 0; have f1 := fz 1; have f2 := fz 2
    have hn1 : ¬ (9 = w.heap.size) := hgE.1
    have hn2 : ¬ (w.heap.size = 9) := hgE.2
    go_region_law (fail)
    all_goals
      go_wp2_with fail
      refine bodyPost_ret (ret_row rfl _ _ w.heap.size 106 #[.string ⟨#[]⟩, .int .i64 0, .int .i64 0] (0, 0) _ rfl ?_ Tryz.underlying106 rfl (by kernel_rfl)) rfl ⟨.iface 320 (.pointer (some (E 1))), ?_, ?_, ?_⟩
      · rw [World.heap_drew]; exact thr_new hg2 _ _ _
      · rw [HF.out]; rfl
      · rw [HF.out]; exact ⟨by decide, rfl⟩
      · exact Below.drew (thr_below hb2' (Nat.le_refl _) _ _ _)
  obtain ⟨p, n1, n2, hW⟩ := three_strs h6
  rw [hW] at hsp hws
  have hfo : rowOf (cutAt 32 s) = match numsOf [n1, n2] with | some [n, lo] => some ⟨p, n, lo⟩ | _ => none := by rw [hW]; rfl
  have HFO := Lib.hid hfo; have HWS := Lib.hid hws
  clear hfo hws hW h6 hwl
  go_enter Tryz.func141, Tryz.ntmps141
  go_wp2_with fail
  generalize w.alloc (.cells #[S [], .int .i64 0, .int .i64 0] 106) = w1 at *
  refine hsp.mono ?_
  rintro e w2 ⟨rfl, hown, hb2⟩
  have hb2' := hba.trans (hb2.mono hba.size)
  have v1 := V.out _ hb2'
  obtain ⟨a', c', b', o', hv', ha', hc', hcm', hx'⟩ := hown.at encS_enc
  obtain ⟨rfl, rfl⟩ : a' = some ⟨w1.heap.size, 0, none⟩ ∧ c' = 3 := by cases hv'; exact ⟨rfl, rfl⟩
  obtain ⟨rfl, rfl⟩ : b' = w1.heap.size ∧ o' = 0 := by have := ha' (by simp); cases this; exact ⟨rfl, rfl⟩
  obtain ⟨b3, o3, c3, hrun, hat3⟩ := slice_from (enc := encS) (sz := 1) Tryz.underlying39 szStr ha' hc' hcm' hx' 1 (by simp) (by simp)
  have x0 := hx' 0 _ rfl 0 _ rfl
  simp only [List.length_cons, List.length_nil, Nat.zero_add, Nat.reduceAdd, Nat.reduceSub, Nat.mul_one, Nat.add_zero, List.drop_succ_cons, List.drop_zero] at hrun hat3 x0
  have e2 : ((1 : Nat) : Int) = 1 := rfl
  rw [e2] at hrun
  clear hv' ha' hx' hown hcm' hc' e2 hsp
  have hl6 : [p, n1, n2].length = 3 := rfl
  rw [hl6]
  go_wp2_with fail
  refine (numbers_any B _ [n1, n2] _ (hT.below' hb2' hBw) hat3 (by simp) (fun x hx => by have := HWS.out x (by simp at hx ⊢; rcases hx with h | h <;> simp [h]); omega)).mono ?_
  rintro e w3 ⟨v', rfl, hv1, hv2, hb3⟩
  have hb31 := hb2.trans (hb3.mono hb2.size)
  have hb3' := hb2'.trans (hb3.mono hb2'.size)
  have v1' := V.out _ hb3'
  have y0 := (hb3.cell (World.block_lt_of_cell? w2 _ x0)).trans x0
  clear v1 hrun hat3 x0
  cases hn : numsOf [n1, n2] with
  | none =>
    rw [hn] at hv2
    obtain rfl := hv2 rfl
    have HF := Lib.hid (rowRead_none (s := s) (by rw [HFO.out, hn]))
    clear hn hv1
    simp only [Option.isSome_none]
    obtain ⟨c0, c1, c2⟩ := CZ.out _ hb31
    have hg2 := HG.out _ hb31
    have fz : ∀ j, w3.frozen? ⟨w.heap.size, j, none⟩ = false := fun j => frozen_row hg2
    have f0 := fz 0; have f1 := fz 1; have f2 := fz 2
    have hn1 : ¬ (9 = w.heap.size) := hgE.1
    have hn2 : ¬ (w.heap.size = 9) := hgE.2
    go_wp2_with fail
    go_region_law (fail)
    all_goals
      go_wp2_with fail
      refine bodyPost_ret (ret_row rfl _ _ w.heap.size 106 #[.string ⟨#[]⟩, .int .i64 0, .int .i64 0] (0, 0) _ rfl ?_ Tryz.underlying106 rfl (by kernel_rfl)) rfl ⟨.iface 320 (.pointer (some (E 1))), ?_, ?_, ?_⟩
      · rw [World.heap_drew]; exact thr_new hg2 _ _ _
      · rw [HF.out]; rfl
      · rw [HF.out]; exact ⟨by decide, rfl⟩
      · exact Below.drew (thr_below hb3' (Nat.le_refl _) _ _ _)
  | some ns =>
    have hown := hv1 ns hn
    have hnl := mapM_len _ hn
    obtain ⟨m1, m2, rfl⟩ := two_ints (l := ns) (by simpa using hnl)
    have HF := Lib.hid (rowRead_some (s := s) (r := ⟨p, m1, m2⟩) (by rw [HFO.out, hn]))
    clear hn hv1 hv2 hnl
    simp only [Option.isSome_some]
    obtain ⟨a4, c4, b4, o4, hv4, ha4, hc4, hcm4, hx4⟩ := hown.at encI_enc
    subst hv4
    obtain rfl := ha4 (by simp)
    have z0 := hx4 0 _ rfl 0 _ rfl
    have z1 := hx4 1 _ rfl 0 _ rfl
    simp only [Nat.mul_one, Nat.add_zero] at z0 z1
    have hl4 : [m1, m2].length = 2 := rfl
    rw [hl4]
    clear hx4 hown ha4 hc4 hcm4 hl4
    have hks := fun w6 (h : Below w3.heap.size w3 w6) => (⟨(h.cell (World.block_lt_of_cell? w3 _ y0)).trans y0, (h.cell (World.block_lt_of_cell? w3 _ z0)).trans z0, (h.cell (World.block_lt_of_cell? w3 _ z1)).trans z1⟩ : _ ∧ _ ∧ _)
    have KS := Lib.hid hks; clear hks
    go_wp2_with fail
    go_region_held3 (fun w' => w'.cell? ⟨w1.heap.size, 0, none⟩ = some (S p) ∧ w'.cell? ⟨b4, o4, none⟩ = some (.int .i64 m1) ∧ w'.cell? ⟨b4, o4 + 1, none⟩ = some (.int .i64 m2)) (first | exact ⟨y0, z0, z1⟩ | exact KS.out _ (((Below.refl _ _).alloc (Nat.le_refl _) _).drew) | exact KS.out _ ((Below.refl _ _).drew.alloc (Nat.le_refl _) _)) (fail)
    have hb4 : Below w3.heap.size w3 (w3.alloc (.cells #[S p, .int .i64 m1, .int .i64 m2] 106)).drew := ((Below.refl _ _).alloc (Nat.le_refl _) _).drew
    have CF := Lib.hid (fun w6 (h : Below (w3.alloc (.cells #[S p, .int .i64 m1, .int .i64 m2] 106)).heap.size (w3.alloc (.cells #[S p, .int .i64 m1, .int .i64 m2] 106)).drew w6) => rowCells (r := ⟨p, m1, m2⟩) rfl (((Below.refl _ _).drew).trans h))
    have hsz : (w3.alloc (.cells #[S p, .int .i64 m1, .int .i64 m2] 106)).heap.size = (w3.alloc (.cells #[S p, .int .i64 m1, .int .i64 m2] 106)).drew.heap.size := rfl
    rw [hsz] at CF
    generalize (w3.alloc (.cells #[S p, .int .i64 m1, .int .i64 m2] 106)).drew = w4 at *
    have hb4' := hb3'.trans (hb4.mono hb3'.size)
    have hb41 := hb31.trans (hb4.mono hb31.size)
    obtain ⟨c0, c1, c2⟩ := CF.out w4 (Below.refl _ _)
    clear y0 z0 z1 v1' hsz
    go_wp2_with fail
    refine (rowCheck_any E B ⟨p, m1, m2⟩ _ ((hE.sub (by decide)).below' hb4' hBw) (by have := HWS.out p (by simp); show p.length ≤ _; omega)).mono ?_
    rintro e w5 ⟨ev, rfl, hev, hb5⟩
    have hb5' := hb4'.trans (hb5.mono hb4'.size)
    have hb51 := hb41.trans (hb5.mono hb41.size)
    have hg2 := HG.out _ hb51
    have fz : ∀ j, w5.frozen? ⟨w.heap.size, j, none⟩ = false := fun j => frozen_row hg2
    have f0 := fz 0; have f1 := fz 1; have f2 := fz 2
    obtain ⟨d0, d1, d2⟩ := CZ.out _ hb51
    clear c0 c1 c2
    obtain ⟨c0, c1, c2⟩ := CF.out w5 hb5
    by_cases hck : rowCheck ⟨p, m1, m2⟩ = 0
    case neg =>
      rw [rowEr_bad hck] at hev
      obtain ⟨hcr, rfl⟩ := hev
      have HR : Hid (rowRead s = (zeroR, rowCheck ⟨p, m1, m2⟩)) := Lib.hid (by rw [HF.out, if_neg hck])
      have HER : Hid (erOf (rowCheck ⟨p, m1, m2⟩) = .bare (rowCheck ⟨p, m1, m2⟩)) := Lib.hid (if_neg hck)
      clear hck
      generalize rowCheck ⟨p, m1, m2⟩ = ce at *
      go_wp2_with fail
      refine bodyPost_ret (ret_row rfl _ _ w.heap.size 106 #[.string ⟨#[]⟩, .int .i64 0, .int .i64 0] (0, 0) _ rfl (thr_new hg2 _ _ _) Tryz.underlying106 rfl (by kernel_rfl)) rfl ⟨.iface 320 (.pointer (some (E ce))), ?_, ?_, ?_⟩
      · rw [HR.out]; rfl
      · rw [HR.out]; show ErV E _ _ (erOf ce); rw [HER.out]; exact ⟨hcr, rfl⟩
      · exact thr_below hb5' (Nat.le_refl _) _ _ _
    rw [rowEr_nil hck] at hev
    obtain rfl : ev = .nilIface := hev
    have HR : Hid (rowRead s = (⟨p, m1, m2⟩, 0)) := Lib.hid (by rw [HF.out, if_pos hck])
    clear hck
    go_wp2_with fail
    refine bodyPost_ret (ret_row rfl _ _ w.heap.size 106 #[S p, .int .i64 m1, .int .i64 m2] (0, 0) _ rfl (thr_new hg2 _ _ _) Tryz.underlying106 rfl (by kernel_rfl)) rfl ⟨.nilIface, ?_, ?_, ?_⟩
    · rw [HR.out]; rfl
    · rw [HR.out]; rfl
    · exact thr_below hb5' (Nat.le_refl _) _ _ _
end Go.Proofs.YtpfohfihkmjnaaaGreatDoor
namespace Go.Proofs.YtpfohfihkmjnaaaGreatDoor
open Go.RowKit
end Go.Proofs.YtpfohfihkmjnaaaGreatDoor
namespace Go.Proofs.YtpfohfihkmjnaaaGreatDoor
open Go.RowKit
end Go.Proofs.YtpfohfihkmjnaaaGreatDoor
namespace Go.Proofs.YtpfohfihkmjnaaaGreatDoor
open Go.RowKit
end Go.Proofs.YtpfohfihkmjnaaaGreatDoor
