/- slices.DeleteFunc at []api.File; list.Prune. file.Read: the walk. list.Read: the walk. The reference's numbers in plain words: they are the program's. Of no program. -/
import Derived.Test.YtikboodjfanjkaaGreatDoorP5
import Derived.Test.YtikboodjfanjkaaGreatDoorP4
import Derived.Test.YtikboodjfanjkaaGreatDoorP6
import Derived.Test.YtikboodjfanjkaaGreatDoorP3
namespace Go.Proofs.YtikboodjfanjkaaGreatDoor
open Go.RowKit

theorem set_app {α : Type} {A L : List α} {o : Nat} (hA : A.length = o) (j : Nat) (v : α) : (A ++ L).set (o + j) v = A ++ L.set j v := by
  subst hA
  rw [List.set_append, if_neg (by omega)]
  congr 2
  omega
/-- An element of six cells written anew, cell by cell. -/
theorem Own.set6 {e : TypeId} {B : Nat} {w : World} {g n cap i : Nat} {l : List Fl} (h : Own encF e 6 B w (.slice (some ⟨g, 0, none⟩) n cap) l) (hi : i < l.length) (x : Fl) :
    Own encF e 6 B (six w g (i * 6) (S x.path) (S x.part) (.int .i64 x.n) (.int .i64 x.lo) (.int .i64 x.hi) (.int .i64 x.seq)) (.slice (some ⟨g, 0, none⟩) n cap) (l.set i x) := by
  obtain ⟨cur, hB, hg, hl, hc, hm, hs, ht⟩ := h.row
  have hsplit : l = l.take i ++ l[i] :: l.drop (i + 1) := by rw [← List.drop_eq_getElem_cons hi, List.take_append_drop]
  have hset : l.set i x = l.take i ++ x :: l.drop (i + 1) := List.set_eq_take_append_cons_drop.trans (if_pos hi)
  have hA : ((l.take i).flatMap encF).length = i * 6 := by rw [flat_length encF_enc, List.length_take, Nat.min_eq_left (by omega)]
  have hC : ((l.drop (i + 1)).flatMap encF).length = (n - (i + 1)) * 6 := by rw [flat_length encF_enc, List.length_drop, hl]
  have hle : n * 6 ≤ cap * 6 := Nat.mul_le_mul_right _ hc
  have hf : l.flatMap encF = (l.take i).flatMap encF ++ (encF l[i] ++ (l.drop (i + 1)).flatMap encF) := by
    have : l.flatMap encF = (l.take i ++ l[i] :: l.drop (i + 1)).flatMap encF := by rw [← hsplit]
    rw [this]; simp only [List.flatMap_append, List.flatMap_cons]
  have hcur : cur.toList = (l.take i).flatMap encF ++ (encF l[i] ++ ((l.drop (i + 1)).flatMap encF ++ cur.toList.drop (n * 6))) := by
    have h1 : cur.toList = cur.toList.take (n * 6) ++ cur.toList.drop (n * 6) := (List.take_append_drop _ _).symm
    rw [ht, hf] at h1
    simpa using h1
  generalize cur.toList.drop (n * 6) = R at hcur
  refine Own.put encF_enc (by rw [List.length_set]; exact hl) hB (six_row hg (S x.path) (S x.part) (.int .i64 x.n) (.int .i64 x.lo) (.int .i64 x.hi) (.int .i64 x.seq)) hc hm (by simpa using hs) ?_
  simp only [Array.toList_setIfInBounds]
  rw [hcur, hset]
  have s0 : ((l.take i).flatMap encF ++ (encF l[i] ++ ((l.drop (i + 1)).flatMap encF ++ R))).set (i * 6) (S x.path) = (l.take i).flatMap encF ++ (encF l[i] ++ ((l.drop (i + 1)).flatMap encF ++ R)).set 0 (S x.path) := set_app hA 0 (S x.path)
  rw [s0, set_app hA, set_app hA, set_app hA, set_app hA, set_app hA]
  simp only [List.cons_append, List.nil_append, List.set_cons_zero, List.set_cons_succ, List.flatMap_append, List.flatMap_cons]
  have e : ∀ (A C R : List Value) (a b c d f g : Value), A ++ a :: b :: c :: d :: f :: g :: (C ++ R) = (A ++ [a, b, c, d, f, g] ++ C) ++ R := fun A C R a b c d f g => by simp
  rw [e, List.take_left' (by rw [List.length_append, List.length_append, hA, hC]; simp; omega)]
  simp
theorem sizeFl : (Tryz.prog.info? 50).map (·.size) = some 6 := by kernel_rfl
set_option maxHeartbeats 1000000 in
set_option maxRecDepth 20000 in
theorem deleteFuncF_any (f : FuncId) (caps : Array Value) (p : Fl → Bool) (base : Nat) (w0 : World) (v : Value) (l : List Fl) (w : World) (hf : Clo Tryz.prog f) (hp : PredOn Tryz.prog f caps fileV l p base w0)
    (hl : Own encF 50 6 base w v l) (hw : Below base w0 w) (hB : base ≤ w.heap.size) :
    Calls Tryz.prog 112 #[v, .func (.func f) #[] caps] w fun e w' => ∃ v', e = .returned v' ∧ Own encF 50 6 base w' v' (l.filter fun x => !p x) ∧ Below base w w' := by
  have hif := indexFuncF_any f caps p base w0 v l w hf hp (hl.at encF_enc) hw hB
  have Hif := Lib.hid hif; clear hif
  have Hf := Lib.hid hf; clear hf
  have Hp := Lib.hid hp; clear hp
  by_cases hall : ∀ (j : Nat) (x : Fl), l[j]? = some x → p x = false
  · have e1 : idxVal p l = -1 := idxVal_none hall
    have e2 : l.filter (fun x => !p x) = l := List.filter_eq_self.2 fun x hx => by
      obtain ⟨j, hj, he⟩ := List.getElem_of_mem hx
      simp [hall j x (by simp [hj, he])]
    have H1 := Lib.hid e1; have H2 := Lib.hid e2; clear e1 e2 hall
    go_enter Tryz.func112, Tryz.ntmps112
    go_wp2_with fail
    refine Hif.out.mono ?_
    rintro e w1 ⟨rfl, hb⟩
    rw [H1.out]
    go_wp2_with fail
    go_ret
    exact ⟨v, rfl, by rw [H2.out]; exact hl.below hb, hb.mono hB⟩
  · obtain ⟨k, x, hk, hpx, hlow⟩ : ∃ (k : Nat) (x : Fl), l[k]? = some x ∧ p x = true ∧ ∀ (j : Nat) (y : Fl), j < k → l[j]? = some y → p y = false := by
      cases hfi : l.findIdx? p with
      | none =>
        exfalso; refine hall fun j x hj => ?_
        exact List.findIdx?_eq_none_iff.1 hfi x (List.mem_of_getElem? hj)
      | some k =>
        obtain ⟨h1, h2, h3⟩ := List.findIdx?_eq_some_iff_getElem.1 hfi
        refine ⟨k, l[k], by simp, h2, fun j y hj hy => ?_⟩
        have h4 : j < l.length := by omega
        have := h3 j hj
        have hy' : l[j] = y := by rw [List.getElem?_eq_getElem h4] at hy; exact Option.some.inj hy
        rw [hy'] at this; simpa using this
    have hlt : k < l.length := by
      rcases Nat.lt_or_ge k l.length with h' | h'
      · exact h'
      · rw [List.getElem?_eq_none h'] at hk; cases hk
    have e1 : idxVal p l = k := idxVal_some hk hpx hlow
    have hst := DelRel.start hk hpx hlow
    obtain ⟨g, cap, cur, rfl, hBg, _, hcap, hm, _, _⟩ := hl.open (by omega)
    unfold maxLen at hm
    have hne : ((k : Int) == -1) = false := beq_eq_false_iff_ne.2 (by omega)
    have H1 := Lib.hid e1; have Hst := Lib.hid hst; clear e1 hst hall hlow hk
    go_enter Tryz.func112, Tryz.ntmps112
    go_wp2_with fail
    refine Hif.out.mono ?_
    rintro e w1 ⟨rfl, hb⟩
    rw [H1.out]
    have ho1 := hl.below hb
    have hb1 : Below base w w1 := hb.mono hB
    clear hl hb
    go_wp2_with fail
    go_loopw [5, 6] (fun s5 s6 wr => ∃ (i j : Nat) (ys : List Fl), s5 = .int .i64 i ∧ s6 = .int .i64 j ∧ Hid (DelRel p l i j ys) ∧ Own encF 50 6 base wr (.slice (some ⟨g, 0, none⟩) l.length cap) ys ∧ Below base w wr) (fun _ s6 _ => l.length - (intOf s6).toNat)
    case atStart => exact ⟨k, k + 1, l, rfl, by go_num, Hst.out, ho1, hb1⟩
    case round =>
      obtain ⟨i, j, ys, rfl, rfl, hd, ho, hbr⟩ := hrel
      have hij := hd.out.1
      have hjn := hd.out.2.1
      have hysl := hd.out.2.2.1
      have Hysl := Lib.hid hysl; clear hysl
      by_cases hlt' : j < l.length
      · obtain ⟨x', hxj⟩ := get_ex hlt'
        have hyj := hd.out.next hxj
        obtain ⟨_, _, b', o', hv', hga, _, _, hx'⟩ := ho.at encF_enc
        simp only [Value.slice.injEq] at hv'
        have hga' := hv'.1.trans (hga (by rw [Hysl.out]; omega))
        simp only [Option.some.injEq, Addr.mk.injEq, and_true] at hga'
        obtain ⟨rfl, rfl⟩ := hga'
        clear hv' hga
        obtain ⟨c0, c1, c2, c3, c4, c5⟩ := flCells hx' (Below.refl _ _) hyj
        have hk1 : (j : Int) < (l.length : Int) := by omega
        have hba : Below base w (wr.alloc (.cells #[S x'.path, S x'.part, .int .i64 x'.n, .int .i64 x'.lo, .int .i64 x'.hi, .int .i64 x'.seq] 50)) := hbr.alloc (Nat.le_trans hB hbr.size) _
        have hoa := ho.alloc (.cells #[S x'.path, S x'.part, .int .i64 x'.n, .int .i64 x'.lo, .int .i64 x'.hi, .int .i64 x'.seq] 50)
        have CB := Lib.hid (fun w6 (h : Below (wr.alloc (.cells #[S x'.path, S x'.part, .int .i64 x'.n, .int .i64 x'.lo, .int .i64 x'.hi, .int .i64 x'.seq] 50)).heap.size (wr.alloc (.cells #[S x'.path, S x'.part, .int .i64 x'.n, .int .i64 x'.lo, .int .i64 x'.hi, .int .i64 x'.seq] 50)) w6) => fileCells rfl h)
        have hpc := Hp.out (wr.alloc (.cells #[S x'.path, S x'.part, .int .i64 x'.n, .int .i64 x'.lo, .int .i64 x'.hi, .int .i64 x'.seq] 50)) x' (List.mem_of_getElem? hxj) (hw.trans hba) (Nat.le_trans hB hba.size)
        have Hpc := Lib.hid hpc; clear hpc hyj
        have Hxj := Lib.hid hxj; clear hxj
        have hf' := Hf.out
        unfold Clo at hf'
        simp only [Nat.zero_add] at c0 c1 c2 c3 c4 c5
        go_wp2_with fail
        generalize wr.alloc (.cells #[S x'.path, S x'.part, .int .i64 x'.n, .int .i64 x'.lo, .int .i64 x'.hi, .int .i64 x'.seq] 50) = wb at *
        refine Hpc.out.mono ?_
        rintro e w2 ⟨rfl, hb2⟩
        have ho2 := hoa.below hb2
        have hbr2 : Below base w w2 := hba.trans (hb2.mono (Nat.le_trans hB hba.size))
        clear c0 c1 c2 c3 c4 c5
        obtain ⟨c0, c1, c2, c3, c4, c5⟩ := CB.out w2 hb2
        cases hpv : p x' with
        | true =>
          have hd2 := hd.out.skip Hxj.out hpv
          have Hd2 := Lib.hid hd2; clear hd2 hpv
          go_wp2_with fail
          go_roundw
          case rel => exact ⟨i, j + 1, ys, rfl, by go_num, Hd2.out, ho2, hbr2⟩
          case measure => simp [intOf]; omega
        | false =>
          have hd2 := hd.out.keep Hxj.out hpv
          have Hd2 := Lib.hid hd2; clear hd2 hpv
          obtain ⟨y', hyi⟩ := get_ex (l := ys) (k := i) (by rw [Hysl.out]; omega)
          obtain ⟨cur2, _, hg2, _, _, _, _, _⟩ := ho2.row
          have fz : ∀ j, w2.frozen? ⟨g, j, none⟩ = false := fun j => frozen_row hg2
          obtain ⟨a', c', b', o', hv', hga, _, _, hx'⟩ := ho2.at encF_enc
          simp only [Value.slice.injEq] at hv'
          have hga' := hv'.1.trans (hga (by rw [Hysl.out]; omega))
          simp only [Option.some.injEq, Addr.mk.injEq, and_true] at hga'
          obtain ⟨rfl, rfl⟩ := hga'
          clear hv' hga
          obtain ⟨d0, d1, d2, d3, d4, d5⟩ := flCells hx' (Below.refl _ _) hyi
          simp only [Nat.zero_add] at d0 d1 d2 d3 d4 d5
          have f0 := fz (i * 6); have f1 := fz (i * 6 + 1); have f2 := fz (i * 6 + 2); have f3 := fz (i * 6 + 3); have f4 := fz (i * 6 + 4); have f5 := fz (i * 6 + 5)
          have ho3 := Own.set6 ho2 (i := i) (by rw [Hysl.out]; omega) x'
          have hk2 : (i : Int) < (l.length : Int) := by omega
          have Ho3 := Lib.hid ho3; clear ho3 hx' hyi hg2 fz
          go_wp2_with fail
          go_roundw
          case rel => exact ⟨i + 1, j + 1, ys.set i x', by go_num, by go_num, Hd2.out, Ho3.out, six_below hbr2 hBg _ _ _ _ _ _⟩
          case measure => simp [intOf]; omega
      · obtain rfl : j = l.length := by omega
        have hfin := hd.out.done
        have Hfin := Lib.hid hfin; clear hfin
        obtain ⟨cs, hrun, ho2⟩ := run_clear_own (c := cap - i) elFl encF_enc flZero1 ho (k := i) (by rw [Hysl.out]; omega)
        have hci : ¬ cap = i := by omega
        have hcap2 : (i : Int) ≤ (cap : Int) := by omega
        have hil : (i : Int) ≤ (l.length : Int) := by omega
        have Ho2 := Lib.hid ho2; clear ho2
        go_wp2_with fail
        go_ret
        refine ⟨.slice (some ⟨g, 0, none⟩) i cap, rfl, ?_, Bset hbr hBg _⟩
        have := Ho2.out
        rwa [Hfin.out] at this

/-- Is a file left out? -/
def pruneP (lo hi : Int) (f : Fl) : Bool := decide (min f.hi hi < max f.lo lo)
def pruneL (l : List Fl) (lo hi : Int) : List Fl := l.filter fun f => !pruneP lo hi f
theorem prune1_any (x : Fl) (a1 a2 : Addr) (lo hi : Int) (w : World) (h1 : w.cell? a1 = some (.int .i64 lo)) (h2 : w.cell? a2 = some (.int .i64 hi)) :
    Calls Tryz.prog 113 #[fileV x, .pointer (some a1), .pointer (some a2)] w fun e w' => e = .returned (.bool (pruneP lo hi x)) ∧ Below w.heap.size w w' := by
  have hb : Below w.heap.size w (w.alloc (fileO x)) := (Below.refl _ _).alloc (Nat.le_refl _) _
  have h1' : (w.alloc (fileO x)).cell? a1 = some (.int .i64 lo) := (hb.cell (World.block_lt_of_cell? w _ h1)).trans h1
  have h2' : (w.alloc (fileO x)).cell? a2 = some (.int .i64 hi) := (hb.cell (World.block_lt_of_cell? w _ h2)).trans h2
  go_enter Tryz.func113, Tryz.ntmps113
  go_wp2_with fail
  go_ret
  exact ⟨rfl, hb⟩
theorem clo_prune1 : Clo Tryz.prog 113 := fun _ _ => by kernel_rfl
theorem listPrune_any (v : Value) (l : List Fl) (lo hi : Int) (w : World) (hl : FilesAt w v l) (hn : l.length ≤ 100000) :
    Calls Tryz.prog 45 #[v, .int .i64 lo, .int .i64 hi] w fun e w' => ∃ v', e = .returned v' ∧ FilesAt w' v' (pruneL l lo hi) ∧ Below w.heap.size w w' := by
  obtain ⟨a, c, rfl, -, -⟩ := hl.form'
  have hba : Below w.heap.size w ((w.alloc (.cells #[.int .i64 lo] 3)).alloc (.cells #[.int .i64 hi] 3)) := ((Below.refl _ _).alloc (Nat.le_refl _) _).alloc (by simp) _
  have c0 : ((w.alloc (.cells #[.int .i64 lo] 3)).alloc (.cells #[.int .i64 hi] 3)).cell? ⟨w.heap.size, 0, none⟩ = some (.int .i64 lo) := by simp
  have c1 : ((w.alloc (.cells #[.int .i64 lo] 3)).alloc (.cells #[.int .i64 hi] 3)).cell? ⟨w.heap.size + 1, 0, none⟩ = some (.int .i64 hi) := by
    rw [World.cell?_alloc_at _ _ _ _ (by simp)]; rfl
  have Hl := Lib.hid (hl.below hba)
  go_enter Tryz.func45, Tryz.ntmps45
  go_wp2_with fail
  refine (cloneF_any _ l _ Hl.out hn).mono ?_
  rintro e w2 ⟨v2, rfl, hown, hb2⟩
  have hb2' := hba.trans (hb2.mono hba.size)
  have d0 := (hb2.cell (World.block_lt_of_cell? _ _ c0)).trans c0
  have d1 := (hb2.cell (World.block_lt_of_cell? _ _ c1)).trans c1
  go_wp2_with fail
  refine (deleteFuncF_any _ _ (pruneP lo hi) _ w2 v2 l _ clo_prune1 ?_ hown (Below.refl _ _) hb2.size).mono ?_
  · intro W x hx hbW hle
    exact prune1_any x _ _ lo hi W ((hbW.cell (Nat.lt_of_lt_of_le (World.block_lt_of_cell? _ _ c0) (by simp))).trans d0) ((hbW.cell (World.block_lt_of_cell? _ _ c1)).trans d1)
  · rintro e w3 ⟨v3, rfl, hown3, hb3⟩
    go_wp2_with fail
    go_ret
    exact ⟨_, rfl, hown3.at encF_enc, hb2'.trans (hb3.mono hba.size)⟩
end Go.Proofs.YtikboodjfanjkaaGreatDoor
namespace Go.Proofs.YtikboodjfanjkaaGreatDoor
open Go.RowKit

def erOf (c : Nat) : Er := if c = 0 then .nil else .bare c
theorem fileRead_none {s : Str} (h : fileOf (cutAt 32 s) = none) : fileRead s = (zeroF, 1) := by unfold fileRead; rw [h]
theorem fileRead_some {s : Str} {f : Fl} (h : fileOf (cutAt 32 s) = some f) : fileRead s = if checkF f = 0 then (f, 0) else (zeroF, checkF f) := by unfold fileRead; rw [h]
theorem fileOf_len {l : List Str} (h : l.length ≠ 6) : fileOf l = none := by
  unfold fileOf
  split
  · exact absurd rfl h
  · rfl
theorem six_strs {l : List Str} (h : l.length = 6) : ∃ p q a b c d, l = [p, q, a, b, c, d] := by
  match l, h with
  | [p, q, a, b, c, d], _ => exact ⟨p, q, a, b, c, d, rfl⟩
theorem four_ints {l : List Int} (h : l.length = 4) : ∃ a b c d, l = [a, b, c, d] := by
  match l, h with
  | [a, b, c, d], _ => exact ⟨a, b, c, d, rfl⟩

set_option maxHeartbeats 1000000 in
set_option maxRecDepth 20000 in
theorem fileRead_any (E : Nat → Addr) (B : Nat) (s : Str) (w : World) (hE : Errs [1, 2, 4, 5] E B w) (hT : LNum B w) (hM : LMax B w) (hs : s.length ≤ 10000) :
    Calls Tryz.prog 100 #[S s] w fun e w' => ∃ ev, e = .returned (.tuple #[fileV (fileRead s).1, ev]) ∧ ErV E w' ev (erOf (fileRead s).2) ∧ Below w.heap.size w w' := by
  have hBw := hE.le
  have hif := isIfaceE
  have hwl : (cutAt 32 s).length ≤ 10001 := by
    have := cutAt_length 32 s
    have h2 : s.count 32 ≤ s.length := List.count_le_length
    omega
  have hws : ∀ p ∈ cutAt 32 s, p.length ≤ 10000 := fun p hp => by
    have := cutAt_mem_len (c := 32) hp; omega
  have V0 := fun w6 (h : Below w.heap.size w w6) => (hE.below' h hBw).var 1 (by decide)
  simp only [errG] at V0
  have V := Lib.hid V0
  clear V0
  have hba : Below w.heap.size w (w.alloc (.cells #[S [], S [], .int .i64 0, .int .i64 0, .int .i64 0, .int .i64 0] 50)) := (Below.refl _ _).alloc (Nat.le_refl _) _
  have hsp := split1_any B s 32 (w.alloc (.cells #[S [], S [], .int .i64 0, .int .i64 0, .int .i64 0, .int .i64 0] 50)) (hM.below' hba hBw) (by omega)
  have hcs := fun w6 (h : Below (w.alloc (.cells #[S [], S [], .int .i64 0, .int .i64 0, .int .i64 0, .int .i64 0] 50)).heap.size (w.alloc (.cells #[S [], S [], .int .i64 0, .int .i64 0, .int .i64 0, .int .i64 0] 50)) w6) => fileCells (f := zeroF) rfl h
  have CZ := Lib.hid hcs; clear hcs
  have hhg := fun w6 (h : Below (w.alloc (.cells #[S [], S [], .int .i64 0, .int .i64 0, .int .i64 0, .int .i64 0] 50)).heap.size (w.alloc (.cells #[S [], S [], .int .i64 0, .int .i64 0, .int .i64 0, .int .i64 0] 50)) w6) => (h.block w.heap.size (by simp)).trans (heap_alloc_new w (.cells #[S [], S [], .int .i64 0, .int .i64 0, .int .i64 0, .int .i64 0] 50))
  have HG := Lib.hid hhg; clear hhg
  have hgE : (¬ (2 = w.heap.size)) ∧ ¬ (w.heap.size = 2) := by
    have h := (hE.lt 1 (by decide)).2
    have h1 : errG 1 = 2 := rfl
    rw [h1] at h
    omega
  by_cases h6 : (cutAt 32 s).length = 6
  case neg =>
    have HF := Lib.hid (fileRead_none (fileOf_len h6))
    have g6 : (((cutAt 32 s).length : Int) != 6) = true := by simp; omega
    clear hws
    go_enter Tryz.func100, Tryz.ntmps100
    go_wp2_with fail
    generalize w.alloc (.cells #[S [], S [], .int .i64 0, .int .i64 0, .int .i64 0, .int .i64 0] 50) = w1 at *
    refine hsp.mono ?_
    rintro e w2 ⟨rfl, hown, hb2⟩
    have hb2' := hba.trans (hb2.mono hba.size)
    have v1 := V.out _ hb2'
    obtain ⟨c0, c1, c2, c3, c4, c5⟩ := CZ.out _ hb2
    generalize cutAt 32 s = W at *
    go_wp2_with fail
    have hg2 := HG.out _ hb2
    have fz : ∀ j, w2.frozen? ⟨w.heap.size, j, none⟩ = false := fun j => frozen_row hg2
    have f0 := fz 0; have f1 := fz 1; have f2 := fz 2; have f3 := fz 3; have f4 := fz 4; have f5 := fz 5
    have hn1 : ¬ (2 = w.heap.size) := hgE.1
    have hn2 : ¬ (w.heap.size = 2) := hgE.2
    go_region_law (fail)
    all_goals
      go_wp2_with fail
      refine bodyPost_ret (ret_row rfl _ _ w.heap.size 50 #[.string ⟨#[]⟩, .string ⟨#[]⟩, .int .i64 0, .int .i64 0, .int .i64 0, .int .i64 0] (0, 0) _ rfl ?_ Tryz.underlying50 rfl (by kernel_rfl)) rfl ⟨.iface 294 (.pointer (some (E 1))), ?_, ?_, ?_⟩
      · rw [World.heap_drew]; exact six_new hg2 _ _ _ _ _ _
      · rw [HF.out]; rfl
      · rw [HF.out]; exact ⟨by decide, rfl⟩
      · exact Below.drew (six_below hb2' (Nat.le_refl _) _ _ _ _ _ _)
  obtain ⟨p, q, n1, n2, n3, n4, hW⟩ := six_strs h6
  rw [hW] at hsp hws
  have hfo : fileOf (cutAt 32 s) = match numsOf [n1, n2, n3, n4] with | some [n, lo, hi, seq] => some ⟨p, q, n, lo, hi, seq⟩ | _ => none := by rw [hW]; rfl
  have HFO := Lib.hid hfo; have HWS := Lib.hid hws
  clear hfo hws hW h6 hwl
  go_enter Tryz.func100, Tryz.ntmps100
  go_wp2_with fail
  generalize w.alloc (.cells #[S [], S [], .int .i64 0, .int .i64 0, .int .i64 0, .int .i64 0] 50) = w1 at *
  refine hsp.mono ?_
  rintro e w2 ⟨rfl, hown, hb2⟩
  have hb2' := hba.trans (hb2.mono hba.size)
  have v1 := V.out _ hb2'
  obtain ⟨a', c', b', o', hv', ha', hc', hcm', hx'⟩ := hown.at encS_enc
  obtain ⟨rfl, rfl⟩ : a' = some ⟨w1.heap.size, 0, none⟩ ∧ c' = 6 := by cases hv'; exact ⟨rfl, rfl⟩
  obtain ⟨rfl, rfl⟩ : b' = w1.heap.size ∧ o' = 0 := by have := ha' (by simp); cases this; exact ⟨rfl, rfl⟩
  obtain ⟨b3, o3, c3, hrun, hat3⟩ := slice_from (enc := encS) (sz := 1) Tryz.underlying24 szStr ha' hc' hcm' hx' 2 (by simp) (by simp)
  have x0 := hx' 0 _ rfl 0 _ rfl
  have x1 := hx' 1 _ rfl 0 _ rfl
  simp only [List.length_cons, List.length_nil, Nat.zero_add, Nat.reduceAdd, Nat.reduceSub, Nat.mul_one, Nat.add_zero, List.drop_succ_cons, List.drop_zero] at hrun hat3 x0 x1
  have e2 : ((2 : Nat) : Int) = 2 := rfl
  rw [e2] at hrun
  clear hv' ha' hx' hown hcm' hc' e2 hsp
  have hl6 : [p, q, n1, n2, n3, n4].length = 6 := rfl
  rw [hl6]
  go_wp2_with fail
  refine (numbers_any B _ [n1, n2, n3, n4] _ (hT.below' hb2' hBw) hat3 (by simp) (fun x hx => by have := HWS.out x (by simp at hx ⊢; rcases hx with h | h | h | h <;> simp [h]); omega)).mono ?_
  rintro e w3 ⟨v', rfl, hv1, hv2, hb3⟩
  have hb31 := hb2.trans (hb3.mono hb2.size)
  have hb3' := hb2'.trans (hb3.mono hb2'.size)
  have v1' := V.out _ hb3'
  have y0 := (hb3.cell (World.block_lt_of_cell? w2 _ x0)).trans x0
  have y1 := (hb3.cell (World.block_lt_of_cell? w2 _ x1)).trans x1
  clear v1 hrun hat3 x0 x1
  cases hn : numsOf [n1, n2, n3, n4] with
  | none =>
    rw [hn] at hv2
    obtain rfl := hv2 rfl
    have HF := Lib.hid (fileRead_none (s := s) (by rw [HFO.out, hn]))
    clear hn hv1
    simp only [Option.isSome_none]
    obtain ⟨c0, c1, c2, c3, c4, c5⟩ := CZ.out _ hb31
    have hg2 := HG.out _ hb31
    have fz : ∀ j, w3.frozen? ⟨w.heap.size, j, none⟩ = false := fun j => frozen_row hg2
    have f0 := fz 0; have f1 := fz 1; have f2 := fz 2; have f3 := fz 3; have f4 := fz 4; have f5 := fz 5
    have hn1 : ¬ (2 = w.heap.size) := hgE.1
    have hn2 : ¬ (w.heap.size = 2) := hgE.2
    go_wp2_with fail
    go_region_law (fail)
    all_goals
      go_wp2_with fail
      refine bodyPost_ret (ret_row rfl _ _ w.heap.size 50 #[.string ⟨#[]⟩, .string ⟨#[]⟩, .int .i64 0, .int .i64 0, .int .i64 0, .int .i64 0] (0, 0) _ rfl ?_ Tryz.underlying50 rfl (by kernel_rfl)) rfl ⟨.iface 294 (.pointer (some (E 1))), ?_, ?_, ?_⟩
      · rw [World.heap_drew]; exact six_new hg2 _ _ _ _ _ _
      · rw [HF.out]; rfl
      · rw [HF.out]; exact ⟨by decide, rfl⟩
      · exact Below.drew (six_below hb3' (Nat.le_refl _) _ _ _ _ _ _)
  | some ns =>
    have hown := hv1 ns hn
    have hnl := mapM_len _ hn
    obtain ⟨m1, m2, m3, m4, rfl⟩ := four_ints (l := ns) (by simpa using hnl)
    have HF := Lib.hid (fileRead_some (s := s) (f := ⟨p, q, m1, m2, m3, m4⟩) (by rw [HFO.out, hn]))
    clear hn hv1 hv2 hnl
    simp only [Option.isSome_some]
    obtain ⟨a4, c4, b4, o4, hv4, ha4, hc4, hcm4, hx4⟩ := hown.at encI_enc
    subst hv4
    obtain rfl := ha4 (by simp)
    have z0 := hx4 0 _ rfl 0 _ rfl
    have z1 := hx4 1 _ rfl 0 _ rfl
    have z2 := hx4 2 _ rfl 0 _ rfl
    have z3 := hx4 3 _ rfl 0 _ rfl
    simp only [Nat.mul_one, Nat.add_zero] at z0 z1 z2 z3
    have hl4 : [m1, m2, m3, m4].length = 4 := rfl
    rw [hl4]
    clear hx4 hown ha4 hc4 hcm4 hl4
    have hks := fun w6 (h : Below w3.heap.size w3 w6) => (⟨(h.cell (World.block_lt_of_cell? w3 _ y0)).trans y0, (h.cell (World.block_lt_of_cell? w3 _ y1)).trans y1, (h.cell (World.block_lt_of_cell? w3 _ z0)).trans z0, (h.cell (World.block_lt_of_cell? w3 _ z1)).trans z1, (h.cell (World.block_lt_of_cell? w3 _ z2)).trans z2, (h.cell (World.block_lt_of_cell? w3 _ z3)).trans z3⟩ : _ ∧ _ ∧ _ ∧ _ ∧ _ ∧ _)
    have KS := Lib.hid hks; clear hks
    go_wp2_with fail
    go_region_held3 (fun w' => w'.cell? ⟨w1.heap.size, 0, none⟩ = some (S p) ∧ w'.cell? ⟨w1.heap.size, 1, none⟩ = some (S q) ∧ w'.cell? ⟨b4, o4, none⟩ = some (.int .i64 m1) ∧ w'.cell? ⟨b4, o4 + 1, none⟩ = some (.int .i64 m2) ∧ w'.cell? ⟨b4, o4 + 2, none⟩ = some (.int .i64 m3) ∧ w'.cell? ⟨b4, o4 + 3, none⟩ = some (.int .i64 m4)) (first | exact ⟨y0, y1, z0, z1, z2, z3⟩ | exact KS.out _ (((Below.refl _ _).alloc (Nat.le_refl _) _).drew) | exact KS.out _ ((Below.refl _ _).drew.alloc (Nat.le_refl _) _)) (fail)
    have hb4 : Below w3.heap.size w3 (w3.alloc (.cells #[S p, S q, .int .i64 m1, .int .i64 m2, .int .i64 m3, .int .i64 m4] 50)).drew := ((Below.refl _ _).alloc (Nat.le_refl _) _).drew
    have CF := Lib.hid (fun w6 (h : Below (w3.alloc (.cells #[S p, S q, .int .i64 m1, .int .i64 m2, .int .i64 m3, .int .i64 m4] 50)).heap.size (w3.alloc (.cells #[S p, S q, .int .i64 m1, .int .i64 m2, .int .i64 m3, .int .i64 m4] 50)).drew w6) => fileCells (f := ⟨p, q, m1, m2, m3, m4⟩) rfl (((Below.refl _ _).drew).trans h))
    have hsz : (w3.alloc (.cells #[S p, S q, .int .i64 m1, .int .i64 m2, .int .i64 m3, .int .i64 m4] 50)).heap.size = (w3.alloc (.cells #[S p, S q, .int .i64 m1, .int .i64 m2, .int .i64 m3, .int .i64 m4] 50)).drew.heap.size := rfl
    rw [hsz] at CF
    generalize (w3.alloc (.cells #[S p, S q, .int .i64 m1, .int .i64 m2, .int .i64 m3, .int .i64 m4] 50)).drew = w4 at *
    have hb4' := hb3'.trans (hb4.mono hb3'.size)
    have hb41 := hb31.trans (hb4.mono hb31.size)
    obtain ⟨c0, c1, c2, c3, c4, c5⟩ := CF.out w4 (Below.refl _ _)
    clear y0 y1 z0 z1 z2 z3 v1' hsz
    go_wp2_with fail
    refine (fileCheck_any E B ⟨p, q, m1, m2, m3, m4⟩ _ ((hE.sub (by decide)).below' hb4' hBw) (hT.below' hb4' hBw) (hM.below' hb4' hBw) ⟨by have := HWS.out p (by simp); show p.length ≤ _; omega, by have := HWS.out q (by simp); show q.length ≤ _; omega⟩).mono ?_
    rintro e w5 ⟨ev, rfl, hev, hb5⟩
    have hb5' := hb4'.trans (hb5.mono hb4'.size)
    have hb51 := hb41.trans (hb5.mono hb41.size)
    have hg2 := HG.out _ hb51
    have fz : ∀ j, w5.frozen? ⟨w.heap.size, j, none⟩ = false := fun j => frozen_row hg2
    have f0 := fz 0; have f1 := fz 1; have f2 := fz 2; have f3 := fz 3; have f4 := fz 4; have f5 := fz 5
    obtain ⟨d0, d1, d2, d3, d4, d5⟩ := CZ.out _ hb51
    clear c0 c1 c2 c3 c4 c5
    obtain ⟨c0, c1, c2, c3, c4, c5⟩ := CF.out w5 hb5
    by_cases hck : checkF ⟨p, q, m1, m2, m3, m4⟩ = 0
    case neg =>
      rw [fileEr_bad rfl hck] at hev
      obtain ⟨hcr, rfl⟩ := hev
      have HR : Hid (fileRead s = (zeroF, checkF ⟨p, q, m1, m2, m3, m4⟩)) := Lib.hid (by rw [HF.out, if_neg hck])
      have HER : Hid (erOf (checkF ⟨p, q, m1, m2, m3, m4⟩) = .bare (checkF ⟨p, q, m1, m2, m3, m4⟩)) := Lib.hid (if_neg hck)
      clear hck
      generalize checkF ⟨p, q, m1, m2, m3, m4⟩ = ce at *
      go_wp2_with fail
      refine bodyPost_ret (ret_row rfl _ _ w.heap.size 50 #[.string ⟨#[]⟩, .string ⟨#[]⟩, .int .i64 0, .int .i64 0, .int .i64 0, .int .i64 0] (0, 0) _ rfl (six_new hg2 _ _ _ _ _ _) Tryz.underlying50 rfl (by kernel_rfl)) rfl ⟨.iface 294 (.pointer (some (E ce))), ?_, ?_, ?_⟩
      · rw [HR.out]; rfl
      · rw [HR.out]; show ErV E _ _ (erOf ce); rw [HER.out]; exact ⟨hcr, rfl⟩
      · exact six_below hb5' (Nat.le_refl _) _ _ _ _ _ _
    rw [fileEr_nil hck] at hev
    obtain rfl : ev = .nilIface := hev
    have HR : Hid (fileRead s = (⟨p, q, m1, m2, m3, m4⟩, 0)) := Lib.hid (by rw [HF.out, if_pos hck])
    clear hck
    go_wp2_with fail
    refine bodyPost_ret (ret_row rfl _ _ w.heap.size 50 #[S p, S q, .int .i64 m1, .int .i64 m2, .int .i64 m3, .int .i64 m4] (0, 0) _ rfl (six_new hg2 _ _ _ _ _ _) Tryz.underlying50 rfl (by kernel_rfl)) rfl ⟨.nilIface, ?_, ?_, ?_⟩
    · rw [HR.out]; rfl
    · rw [HR.out]; rfl
    · exact six_below hb5' (Nat.le_refl _) _ _ _ _ _ _
end Go.Proofs.YtikboodjfanjkaaGreatDoor
namespace Go.Proofs.YtikboodjfanjkaaGreatDoor
open Go.RowKit

/-- The lines that were read. -/
def readOf (ls : List Str) : List Fl := ls.map fun x => (fileRead x).1
theorem linesE_full {ls : List Str} (h : 60 < manyL ls) : linesE ls = .bare 8 := by unfold linesE; rw [if_pos h]
theorem linesE_few {ls : List Str} (h : ¬ 60 < manyL ls) : linesE ls = firstErr (lineFault ls) (manyL ls) := by unfold linesE; rw [if_neg h]
theorem manyL_ge (ls : List Str) : ls.length - 1 ≤ manyL ls ∧ manyL ls ≤ ls.length := by unfold manyL; split <;> omega
theorem last_at {ls : List Str} {x : Str} (h : ls[ls.length - 1]? = some x) : ls.getLast?.getD [] = x := by
  rw [List.getLast?_eq_getElem?, h]; rfl
theorem manyL_nil {ls : List Str} (h : ls[ls.length - 1]? = some []) : manyL ls = ls.length - 1 := by
  unfold manyL; rw [last_at h, if_pos rfl]
theorem manyL_ne {ls : List Str} {x : Str} (h : ls[ls.length - 1]? = some x) (hx : x ≠ []) : manyL ls = ls.length := by
  unfold manyL; rw [last_at h, if_neg hx]
theorem lineFault_last {ls : List Str} {x : Str} {k : Nat} (h : ls[k]? = some x) (hk : k + 1 = ls.length) : lineFault ls k = 1 := by
  unfold lineFault; rw [h]; simp only; rw [if_pos hk]
theorem lineFault_bad {ls : List Str} {x : Str} {k : Nat} (h : ls[k]? = some x) (hk : ¬ k + 1 = ls.length) (hx : (fileRead x).2 ≠ 0) : lineFault ls k = (fileRead x).2 := by
  unfold lineFault; rw [h]; simp only; rw [if_neg hk, if_pos hx]
theorem lineFault_zero {ls : List Str} {x : Str} (h : ls[0]? = some x) (hk : ¬ 1 = ls.length) (hx : (fileRead x).2 = 0) : lineFault ls 0 = 0 := by
  unfold lineFault; rw [h]; simp only; rw [if_neg (by simpa using hk), if_neg (by simpa using hx), if_neg (by simp)]
theorem lineFault_ord {ls : List Str} {x y : Str} {k : Nat} (h : ls[k]? = some x) (hk : ¬ k + 1 = ls.length) (hx : (fileRead x).2 = 0) (h0 : 0 < k) (hy : ls[k - 1]? = some y) (hc : cmpP (fileRead x).1.path (fileRead y).1.path ≤ 0) : lineFault ls k = 9 := by
  unfold lineFault; rw [h]; simp only; rw [if_neg hk, if_neg (by simpa using hx), if_pos ⟨h0, y, hy, hc⟩]
theorem lineFault_fine {ls : List Str} {x y : Str} {k : Nat} (h : ls[k]? = some x) (hk : ¬ k + 1 = ls.length) (hx : (fileRead x).2 = 0) (hy : ls[k - 1]? = some y) (hc : ¬ cmpP (fileRead x).1.path (fileRead y).1.path ≤ 0) : lineFault ls k = 0 := by
  unfold lineFault; rw [h]; simp only; rw [if_neg hk, if_neg (by simpa using hx), if_neg]
  rintro ⟨_, g, hg, hle⟩
  rw [hy] at hg
  cases hg
  exact hc hle
theorem erOf_bad {c : Nat} (h : c ≠ 0) : erOf c = .bare c := if_neg h
theorem erOf_nil {c : Nat} (h : c = 0) : erOf c = .nil := if_pos h
theorem readOf_at {ls : List Str} {k j : Nat} {y : Str} (h : ls[j]? = some y) (hj : j < k) : (readOf (ls.take k))[j]? = some (fileRead y).1 := by
  unfold readOf; rw [List.getElem?_map, List.getElem?_take_of_lt hj, h]; rfl
theorem readOf_snoc {ls : List Str} {k : Nat} {x : Str} (h : ls[k]? = some x) : readOf (ls.take (k + 1)) = readOf (ls.take k) ++ [(fileRead x).1] := by
  unfold readOf; rw [take_snoc' h, List.map_append]; rfl

theorem Own.cells {α : Type} {enc : α → List Value} {e : TypeId} {sz B : Nat} {w : World} {l : List α} {g n c : Nat} (hen : Enc enc sz) (h : Own enc e sz B w (.slice (some ⟨g, 0, none⟩) n c) l) : ∀ (k : Nat) (x : α), l[k]? = some x → ∀ (j : Nat) (u : Value), (enc x)[j]? = some u → w.cell? ⟨g, k * sz + j, none⟩ = some u := by
  obtain ⟨_, _, b', o', hv', hga, _, _, hx'⟩ := h.at hen
  intro k x hk j u hu
  simp only [Value.slice.injEq] at hv'
  have hga' := hv'.1.trans (hga (by have := (List.getElem?_eq_some_iff.1 hk).1; omega))
  simp only [Option.some.injEq, Addr.mk.injEq, and_true] at hga'
  obtain ⟨rfl, rfl⟩ := hga'
  have := hx' k x hk j u hu
  simpa using this
theorem Own.base {α : Type} {enc : α → List Value} {e : TypeId} {sz B B' : Nat} {w : World} {v : Value} {l : List α} (h : Own enc e sz B w v l) (hB : B' ≤ B) : Own enc e sz B' w v l := by
  unfold Own World.ownsRow at h ⊢
  refine ⟨h.1, h.2.imp id ?_⟩
  rintro ⟨g, c, cs, h1, h2, h3⟩
  exact ⟨g, c, cs, h1, Nat.le_trans hB h2, h3⟩
theorem Own.cells1 {α : Type} {enc : α → List Value} {e : TypeId} {B : Nat} {w : World} {l : List α} {g n c : Nat} {f : α → Value} (hen : Enc enc 1) (hf : ∀ x, enc x = [f x]) (h : Own enc e 1 B w (.slice (some ⟨g, 0, none⟩) n c) l) : ∀ (k : Nat) (x : α), l[k]? = some x → w.cell? ⟨g, k, none⟩ = some (f x) := by
  intro k x hk
  have := h.cells hen k x hk 0 (f x) (by rw [hf]; rfl)
  simpa using this

theorem fileRead_len {s : Str} {m : Nat} (h : s.length ≤ m) : (fileRead s).1.path.length ≤ m ∧ (fileRead s).1.part.length ≤ m := by
  have hm := fun p hp => Nat.le_trans (cutAt_mem_len (c := 32) (s := s) (p := p) hp) h
  unfold fileRead
  cases hf : fileOf (cutAt 32 s) with
  | none => exact ⟨Nat.zero_le _, Nat.zero_le _⟩
  | some f =>
    simp only
    split
    · generalize cutAt 32 s = L at *
      unfold fileOf at hf
      split at hf
      · split at hf
        · cases hf; exact ⟨hm _ (by simp), hm _ (by simp)⟩
        · cases hf
      · cases hf
    · exact ⟨Nat.zero_le _, Nat.zero_le _⟩
set_option maxHeartbeats 1600000 in
set_option maxRecDepth 20000 in
theorem listRead_any (E : Nat → Addr) (B : Nat) (s : Str) (w : World) (hE : Errs [1, 2, 4, 5, 8, 9] E B w) (hT : LNum B w) (hM : LMax B w) (hs : s.length ≤ 10000) :
    Calls Tryz.prog 36 #[S s] w fun e w' => ∃ u ev, e = .returned (.tuple #[u, ev]) ∧ Own encF 50 6 w.heap.size w' u (listReadL s) ∧ ErV E w' ev (listReadE s) ∧ Below w.heap.size w w' := by
  have hBw := hE.le
  have hif := isIfaceE
  have hR : listReadE s = linesE (cutAt 10 s) := rfl
  have hL : listReadL s = if listReadE s = .nil then readOf ((cutAt 10 s).take (manyL (cutAt 10 s))) else [] := rfl
  have hsp := split1_any B s 10 w hM (by omega)
  have hpos : 0 < (cutAt 10 s).length := by rw [cutAt_length]; omega
  have hcnt : (cutAt 10 s).length ≤ 10001 := by
    rw [cutAt_length]
    have h2 : s.count 10 ≤ s.length := List.count_le_length
    omega
  have hln : ∀ x ∈ cutAt 10 s, x.length ≤ 10000 := fun p hp => by
    have := cutAt_mem_len (c := 10) hp; omega
  have V1 := fun w6 (h : Below w.heap.size w w6) => (hE.below' h hBw).var 1 (by decide)
  have V8 := fun w6 (h : Below w.heap.size w w6) => (hE.below' h hBw).var 8 (by decide)
  have V9 := fun w6 (h : Below w.heap.size w w6) => (hE.below' h hBw).var 9 (by decide)
  simp only [errG] at V1 V8 V9
  have U1 := Lib.hid V1; have U8 := Lib.hid V8; have U9 := Lib.hid V9
  clear V1 V8 V9
  generalize cutAt 10 s = ls at *
  obtain ⟨n, hn⟩ : ∃ n, ls.length = n := ⟨_, rfl⟩
  rw [hn] at hsp hpos hcnt
  obtain ⟨lst, hlst⟩ := get_ex (l := ls) (k := n - 1) (by omega)
  have hmg := manyL_ge ls
  have hmn := fun (h : lst = []) => manyL_nil (ls := ls) (by rw [hn, hlst, h])
  have hme := fun (h : lst ≠ []) => manyL_ne (ls := ls) (by rw [hn]; exact hlst) h
  rw [hn] at hmg hmn hme
  have HR := Lib.hid hR; have HL := Lib.hid hL; have HLn := Lib.hid hln
  have HN := Lib.hid hn; have HLst := Lib.hid hlst; have HMn := Lib.hid hmn; have HMe := Lib.hid hme
  clear hR hL hln hn hlst hmn hme
  have ix := fun (k : Nat) (hk : k < n) => idx_at (P := Tryz.prog) (c := n) (o := 0) (b := w.heap.size) 1 Tryz.underlying24 szStr (fun _ => rfl) k hk
  simp only [Nat.mul_one, Nat.zero_add] at ix
  have IX := Lib.hid ix; clear ix
  have iL := IX.out (n - 1) (by omega)
  have hcast : ((n - 1 : Nat) : Int) = (n : Int) - 1 := by omega
  simp only [hcast] at iL
  clear hcast
  have hj0 : (0 : Int) ≤ (n : Int) - 1 := by omega
  have hj1 : (n : Int) - 1 < (n : Int) := by omega
  obtain ⟨ml, hml⟩ : ∃ ml, manyL ls = ml := ⟨_, rfl⟩
  rw [hml] at hmg
  have HML := Lib.hid hml; clear hml
  go_enter Tryz.func36, Tryz.ntmps36
  go_wp2_with fail
  refine hsp.mono ?_
  rintro e w1 ⟨rfl, hown, hb1⟩
  clear hsp
  have hx := hown.cells1 (f := S) encS_enc (fun _ => rfl)
  have HX := Lib.hid hx; clear hx hown
  have cL := HX.out _ _ HLst.out
  have v8 := U8.out _ hb1
  by_cases h1 : 60 < n - 1
  · have g1 : (60 : Int) < (n : Int) - 1 := by omega
    have HF : Hid (listReadE s = .bare 8) := Lib.hid (by rw [HR.out]; exact linesE_full (by rw [HML.out]; omega))
    clear h1
    go_wp2_with fail
    go_quiet (fail)
    go_wp2_with fail
    go_ret2
    exact ⟨_, _, rfl, by rw [HL.out, HF.out]; exact Own.nil _ _ _ _ _, by rw [HF.out]; exact ⟨by decide, rfl⟩, Bdn hb1 _⟩
  have g1 : decide ((60 : Int) < (n : Int) - 1) = false := by simp; omega
  by_cases hB : 60 < n ∧ lst ≠ []
  · obtain ⟨h2, h3⟩ := hB
    have g2 : (60 : Int) < (n : Int) := by omega
    have g3 : (!lst.isEmpty) = true := by simpa using h3
    have HF : Hid (listReadE s = .bare 8) := Lib.hid (by rw [HR.out]; exact linesE_full (by rw [HMe.out h3]; omega))
    clear h1 h2 h3
    go_wp2_with fail
    go_quiet (fail)
    go_wp2_with fail
    go_ret2
    exact ⟨_, _, rfl, by rw [HL.out, HF.out]; exact Own.nil _ _ _ _ _, by rw [HF.out]; exact ⟨by decide, rfl⟩, Bdn hb1 _⟩
  have hg : (decide ((60 : Int) < (n : Int)) = false) ∨ ((60 : Int) < (n : Int) ∧ lst = []) := by
    by_cases h2 : 60 < n
    · exact .inr ⟨by omega, Decidable.not_not.1 fun h => hB ⟨h2, h⟩⟩
    · exact .inl (by simp; omega)
  have hm60 : ¬ 60 < ml := by
    rcases hg with h | ⟨h, h3⟩
    · simp at h; omega
    · have := HMn.out h3; rw [HML.out] at this; omega
  have HF : Hid (listReadE s = firstErr (lineFault ls) ml) := Lib.hid (by rw [HR.out, linesE_few (by rw [HML.out]; exact hm60), HML.out])
  clear hB h1 v8
  rcases hg with g2 | ⟨g2, g3'⟩
  case' inr =>
    have g3 : (!lst.isEmpty) = false := by rw [g3']; rfl
    clear g3'
  all_goals
    go_wp2_with fail
    go_loopw [2, 3, 6, 35] (fun r1 r2 out i wr => r1 = .slice none 0 0 ∧ r2 = .nilIface ∧ ∃ k : Nat, k < n ∧ i = .int .i64 k ∧ Hid (∀ j < k, lineFault ls j = 0) ∧ Own encF 50 6 w1.heap.size wr out (readOf (ls.take k)) ∧ Below w1.heap.size w1 wr) (fun _ _ _ i _ => n - (intOf i).toNat)
    case atStart => exact ⟨rfl, rfl, 0, hpos, rfl, Lib.hid fun j hj => absurd hj (by omega), Own.nil _ _ _ _ _, Below.refl _ _⟩
    case round =>
      obtain ⟨rfl, rfl, k, hk, rfl, hj, ho, hb⟩ := hrel
      have hbw := hb1.trans (hb.mono hb1.size)
      clear cL iL
      obtain ⟨x, hxk⟩ := get_ex (l := ls) (k := k) (by rw [HN.out]; exact hk)
      have c1 := HX.out k x hxk
      have c1 := (hb.cell (World.block_lt_of_cell? w1 _ c1)).trans c1
      have i1 := IX.out k hk
      have hk1 : (k : Int) < (n : Int) := by omega
      have hxl := HLn.out x (List.mem_of_getElem? hxk)
      have Hxk := Lib.hid hxk; clear hxk
      have hb' : Below w.heap.size w wr := hbw
      have hRd := fileRead_any E B x wr ((hE.sub (by decide)).below' hbw hBw) (hT.below' hbw hBw) (hM.below' hbw hBw) hxl
      have HRd := Lib.hid hRd; clear hRd
      by_cases hlast : k = n - 1
      · have gk : ((k : Int) == (n : Int) - 1) = true := by simp; omega
        have hxl' : x = lst := by have h1 := Hxk.out; rw [hlast, HLst.out] at h1; exact (Option.some.inj h1).symm
        by_cases hx0 : x = []
        · subst hx0
          have hmk := HMn.out hxl'.symm
          have hE0 : listReadE s = .nil := by rw [HF.out]; exact firstErr_all fun j hj' => hj.out j (by rw [HML.out] at hmk; omega)
          have hL0 : listReadL s = readOf (ls.take k) := by rw [HL.out, if_pos hE0, hmk, hlast]
          have HE0 := Lib.hid hE0; have HL0 := Lib.hid hL0
          clear hE0 hL0 hmk hxl' hlast
          go_wp2_with fail
          go_ret2
          exact ⟨_, _, rfl, by rw [HL0.out]; exact Own.base ho hb1.size, by rw [HE0.out]; rfl, hbw⟩
        · have gx : x.isEmpty = false := by simpa using hx0
          have hmk := HMe.out (hxl' ▸ hx0)
          have hf := lineFault_last Hxk.out (by rw [HN.out]; omega)
          have hE0 : listReadE s = .loc 1 k := by
            rw [HF.out, ← hf]; refine firstErr_hit (by rw [HML.out] at hmk; omega) hj.out (by rw [hf]; decide)
          have hL0 : listReadL s = [] := by rw [HL.out, hE0]; rfl
          have HE0 := Lib.hid hE0; have HL0 := Lib.hid hL0
          clear hE0 hL0 hmk hxl' hlast hx0 hf
          go_wp2_with fail
          refine HRd.out.mono ?_
          rintro e w2 ⟨ev, rfl, hev, hb2⟩
          have hb2' := hbw.trans (hb2.mono hbw.size)
          clear hev
          generalize fileRead x = fx at *
          have hb3 : Below w.heap.size w (w2.alloc (.cells #[S fx.1.path, S fx.1.part, .int .i64 fx.1.n, .int .i64 fx.1.lo, .int .i64 fx.1.hi, .int .i64 fx.1.seq] 50)) := hb2'.alloc hb2'.size _
          have v1 := U1.out _ hb3
          go_wp2_with fail
          go_ret2
          exact ⟨_, _, rfl, by rw [HL0.out]; exact Own.nil _ _ _ _ _, by rw [HE0.out]; exact ErV.fresh (by decide) _ _ _ _ (by simp), hb3.alloc hb3.size _⟩
      have gk : ((k : Int) == (n : Int) - 1) = false := by simp; omega
      have hkn : ¬ k + 1 = ls.length := by rw [HN.out]; omega
      have hkl : k < ml := by omega
      have hkn1 : k + 1 < n := by omega
      have HKN := Lib.hid hkn
      clear hkn hlast hxl
      by_cases hck : (fileRead x).2 = 0
      case neg =>
        have hf := lineFault_bad Hxk.out HKN.out hck
        have hE0 : listReadE s = .loc (fileRead x).2 k := by
          rw [HF.out, ← hf]; exact firstErr_hit hkl hj.out (by rw [hf]; exact hck)
        have hL0 : listReadL s = [] := by rw [HL.out, hE0]; rfl
        have hfe := erOf_bad hck
        have HE0 := Lib.hid hE0; have HL0 := Lib.hid hL0; have HFE := Lib.hid hfe
        clear hE0 hL0 hf hfe hck
        go_wp2_with fail
        refine HRd.out.mono ?_
        rintro e w2 ⟨ev, rfl, hev, hb2⟩
        have hb2' := hbw.trans (hb2.mono hbw.size)
        rw [HFE.out] at hev
        obtain ⟨hcr, rfl⟩ := hev
        clear HRd
        generalize fileRead x = fx at *
        have hb3 : Below w.heap.size w (w2.alloc (.cells #[S fx.1.path, S fx.1.part, .int .i64 fx.1.n, .int .i64 fx.1.lo, .int .i64 fx.1.hi, .int .i64 fx.1.seq] 50)) := hb2'.alloc hb2'.size _
        obtain ⟨ce, hce⟩ : ∃ ce, fx.2 = ce := ⟨_, rfl⟩
        rw [hce] at hcr HE0 ⊢
        clear hce
        go_wp2_with fail
        go_quiet (fail)
        go_wp2_with fail
        go_ret2
        exact ⟨_, _, rfl, by rw [HL0.out]; exact Own.nil _ _ _ _ _, by rw [HE0.out]; exact ErV.fresh hcr _ _ _ _ (by simp), (Bdn hb3 _).alloc hb3.size _⟩
      have HK := Lib.hid hck; clear hck
      have hsn := readOf_snoc Hxk.out
      have hql : (readOf (ls.take k)).length = k := by unfold readOf; rw [List.length_map, List.length_take, HN.out]; omega
      have hfk : (k = 0 ∧ lineFault ls k = 0) ∨ (0 < k) := by
        rcases Nat.eq_zero_or_pos k with h | h
        · left; refine ⟨h, ?_⟩; subst h; exact lineFault_zero Hxk.out (by have := HKN.out; omega) HK.out
        · exact .inr h
      have hy : 0 < k → ∃ y, ls[k - 1]? = some y ∧ (readOf (ls.take k))[k - 1]? = some (fileRead y).1 := fun h => by
        obtain ⟨y, hy⟩ := get_ex (l := ls) (k := k - 1) (by rw [HN.out]; omega)
        exact ⟨y, hy, readOf_at hy (by omega)⟩
      have hyl := fun y (hy : ls[k - 1]? = some y) => HLn.out y (List.mem_of_getElem? hy)
      have HYL := Lib.hid hyl; clear hyl
      generalize readOf (ls.take k) = q at *
      have HQl := Lib.hid hql; have HSn := Lib.hid hsn
      clear hql hsn
      rcases hfk with ⟨h0, hf⟩ | hk0
      · have gk0 : decide (0 < k) = false := by simp [h0]
        have Hf := Lib.hid hf; have H0 := Lib.hid h0
        clear hf h0 hy HYL
        go_wp2_with fail
        refine HRd.out.mono ?_
        rintro e w2 ⟨ev, rfl, hev, hb2⟩
        rw [erOf_nil HK.out] at hev
        obtain rfl : ev = .nilIface := hev
        have hb2' := hb.trans (hb2.mono hb.size)
        have ho2 := ho.below hb2
        clear HRd HK
        generalize fileRead x = fx at *
        have hb3 : Below w1.heap.size w1 (w2.alloc (.cells #[S fx.1.path, S fx.1.part, .int .i64 fx.1.n, .int .i64 fx.1.lo, .int .i64 fx.1.hi, .int .i64 fx.1.seq] 50)) := hb2'.alloc hb2'.size _
        have ho3 := ho2.alloc (.cells #[S fx.1.path, S fx.1.part, .int .i64 fx.1.n, .int .i64 fx.1.lo, .int .i64 fx.1.hi, .int .i64 fx.1.seq] 50)
        have CF := Lib.hid (fun w6 (h : Below (w2.alloc (.cells #[S fx.1.path, S fx.1.part, .int .i64 fx.1.n, .int .i64 fx.1.lo, .int .i64 fx.1.hi, .int .i64 fx.1.seq] 50)).heap.size (w2.alloc (.cells #[S fx.1.path, S fx.1.part, .int .i64 fx.1.n, .int .i64 fx.1.lo, .int .i64 fx.1.hi, .int .i64 fx.1.seq] 50)) w6) => fileCells (f := fx.1) rfl h)
        go_wp2_with fail
        go_quiet (fail)
        obtain ⟨c0, c1, c2, c3, c4, c5⟩ := CF.out _ (Bdn (Below.refl _ _) nq)
        have hb3 := Bdn hb3 nq
        have ho3 := ho3.below (Bdn (Below.refl _ _) nq)
        clear CF
        generalize (w2.alloc (.cells #[S fx.1.path, S fx.1.part, .int .i64 fx.1.n, .int .i64 fx.1.lo, .int .i64 fx.1.hi, .int .i64 fx.1.seq] 50)).drewN nq = w3 at *
        go_wp2_with (at_builtin; refine wpList_app rfl _ _ _ rfl w1.heap.size elFl _ q.length _ rfl (ho3.alloc _) (.slice (some ⟨w3.heap.size, 0, none⟩) 1 1) 1 (encF fx.1) rfl (src_one rfl rfl (by simp [Value.oneCell'])) (by rw [HQl.out]; unfold maxLen; omega) (by rw [HQl.out]; omega) (by have := hb3.size; simp; omega) ?_; intro v' w4 hown hg _)
        go_roundw
        case rel => exact ⟨rfl, rfl, k + 1, by omega, by go_num, (Lib.hid fun j hj' => by
          obtain rfl : j = k := by have := H0.out; omega
          exact Hf.out), by rw [HSn.out]; exact Own.snoc hown, Bapp (hb3.alloc hb3.size _) (ho3.alloc _) hg (Nat.le_refl _) (by have := hb3.size; simp; omega)⟩
        case measure => simp [intOf]; omega
      obtain ⟨y, hyk, hqk⟩ := hy hk0
      have hyl := fileRead_len (HYL.out y hyk)
      have hxl' := fileRead_len (HLn.out x (List.mem_of_getElem? Hxk.out))
      clear hy HYL
      have gk0 : decide (0 < k) = true := decide_eq_true hk0
      have hk01 : (1 : Int) ≤ k := by omega
      have hk02 : (0 : Int) ≤ (k : Int) - 1 := by omega
      have hk03 : (k : Int) - 1 < (k : Int) := by omega
      have hwk : IntKind.i64.wrap ((k : Int) - 1) = (k : Int) - 1 := by rw [IntKind.wrap_i64]; omega
      obtain ⟨g2', cap, cur, rfl, hBg, _, hcap, hmx, _, _⟩ := ho.open (by rw [HQl.out]; omega)
      rw [HQl.out] at ho hcap ⊢
      have i2 := idx_at (c := cap) (o := 0) (b := g2') (n := k) 6 Tryz.underlying28 szFl (fun _ => rfl) (k - 1) (by omega)
      have hcast : ((k - 1 : Nat) : Int) = (k : Int) - 1 := by omega
      simp only [hcast, Nat.zero_add] at i2
      have d0 := ho.cells encF_enc (k - 1) _ hqk 0 _ rfl
      have hfo := fun h => lineFault_ord Hxk.out HKN.out HK.out hk0 hyk h
      have hff := fun h => lineFault_fine Hxk.out HKN.out HK.out hyk h
      have HOrd := Lib.hid hfo; have HFF := Lib.hid hff
      clear hfo hff hcast hyk hqk
      go_wp2_with fail
      refine HRd.out.mono ?_
      rintro e w2 ⟨ev, rfl, hev, hb2⟩
      rw [erOf_nil HK.out] at hev
      obtain rfl : ev = .nilIface := hev
      have hb2' := hb.trans (hb2.mono hb.size)
      have ho2 := ho.below hb2
      have d0 := (hb2.cell (World.block_lt_of_cell? wr _ d0)).trans d0
      clear HRd HK c1 ho hbw hb'
      generalize fileRead x = fx at *
      generalize fileRead y = fy at *
      have hb3 : Below w1.heap.size w1 (w2.alloc (.cells #[S fx.1.path, S fx.1.part, .int .i64 fx.1.n, .int .i64 fx.1.lo, .int .i64 fx.1.hi, .int .i64 fx.1.seq] 50)) := hb2'.alloc hb2'.size _
      have hb2a : Below w2.heap.size w2 (w2.alloc (.cells #[S fx.1.path, S fx.1.part, .int .i64 fx.1.n, .int .i64 fx.1.lo, .int .i64 fx.1.hi, .int .i64 fx.1.seq] 50)) := (Below.refl _ _).alloc (Nat.le_refl _) _
      have d0 := (hb2a.cell (World.block_lt_of_cell? w2 _ d0)).trans d0
      have ho3 := ho2.alloc (.cells #[S fx.1.path, S fx.1.part, .int .i64 fx.1.n, .int .i64 fx.1.lo, .int .i64 fx.1.hi, .int .i64 fx.1.seq] 50)
      have CF := Lib.hid (fun w6 (h : Below (w2.alloc (.cells #[S fx.1.path, S fx.1.part, .int .i64 fx.1.n, .int .i64 fx.1.lo, .int .i64 fx.1.hi, .int .i64 fx.1.seq] 50)).heap.size (w2.alloc (.cells #[S fx.1.path, S fx.1.part, .int .i64 fx.1.n, .int .i64 fx.1.lo, .int .i64 fx.1.hi, .int .i64 fx.1.seq] 50)) w6) => fileCells (f := fx.1) rfl h)
      have p0 := (CF.out _ (Below.refl _ _)).1
      go_wp2_with fail
      generalize (w2.alloc (.cells #[S fx.1.path, S fx.1.part, .int .i64 fx.1.n, .int .i64 fx.1.lo, .int .i64 fx.1.hi, .int .i64 fx.1.seq] 50)) = w2b at *
      have hb3d := hb3.drew
      have hbw3 := hb1.trans (hb3d.mono hb1.size)
      have hC := listCompare_any E B fx.1.path fy.1.path w2b.drew ((hE.sub (by decide)).below' hbw3 hBw) (hT.below' hbw3 hBw) (hM.below' hbw3 hBw) (by have := hxl'.1; omega) (by have := hyl.1; omega)
      obtain ⟨cv, hcv⟩ : ∃ cv, cmpP fx.1.path fy.1.path = cv := ⟨_, rfl⟩
      rw [hcv] at hC HOrd HFF
      have HC := Lib.hid hC
      clear hC hcv
      by_cases hle : cv ≤ 0
      · have hf := HOrd.out hle
        have hE0 : listReadE s = .loc 9 k := by
          rw [HF.out, ← hf]; exact firstErr_hit hkl hj.out (by rw [hf]; decide)
        have hL0 : listReadL s = [] := by rw [HL.out, hE0]; rfl
        have HE0 := Lib.hid hE0; have HL0 := Lib.hid hL0
        clear hE0 hL0 hf
        go_region_held3 (fun w' => w'.cell? ⟨w2.heap.size, 0, none⟩ = some (S fx.1.path) ∧ w'.cell? ⟨g2', (k - 1) * 6, none⟩ = some (S fy.1.path)) (exact ⟨p0, d0⟩) (first | (go_at_call 97; refine HC.out.mono ?_; rintro e w3 ⟨rfl, hb4⟩; have p0' := (hb4.cell (World.block_lt_of_cell? w2b _ p0)).trans p0; have d0' := (hb4.cell (World.block_lt_of_cell? w2b _ d0)).trans d0; clear p0 d0; have p0 := p0'; have d0 := d0'; clear p0' d0'))
        have hb4' := hb3d.trans (hb4.mono hb3d.size)
        have hbw4 := hb1.trans (hb4'.mono hb1.size)
        have v9 := U9.out _ hbw4
        go_wp2_with fail
        go_ret2
        exact ⟨_, _, rfl, by rw [HL0.out]; exact Own.nil _ _ _ _ _, by rw [HE0.out]; exact ErV.fresh (by decide) _ _ _ _ (by simp), hbw4.alloc hbw4.size _⟩
      · have hf := HFF.out (by omega)
        have Hf := Lib.hid hf; clear hf
        have hgt : 0 < cv := by omega
        clear hle
        go_region_held3 (fun w' => w'.cell? ⟨w2.heap.size, 0, none⟩ = some (S fx.1.path) ∧ w'.cell? ⟨g2', (k - 1) * 6, none⟩ = some (S fy.1.path)) (exact ⟨p0, d0⟩) (first | (go_at_call 97; refine HC.out.mono ?_; rintro e w3 ⟨rfl, hb4⟩; have p0' := (hb4.cell (World.block_lt_of_cell? w2b _ p0)).trans p0; have d0' := (hb4.cell (World.block_lt_of_cell? w2b _ d0)).trans d0; clear p0 d0; have p0 := p0'; have d0 := d0'; clear p0' d0'))
        have hb4' := hb3d.trans (hb4.mono hb3d.size)
        obtain ⟨c0, c1, c2, c3, c4, c5⟩ := CF.out _ ((Below.refl _ _).drew.trans hb4)
        have ho3 := (ho3.below ((Below.refl _ _).drew.trans hb4))
        have hb3 := hb4'
        clear CF p0 d0 hb4'
        go_wp2_with (at_builtin; refine wpList_app rfl _ _ _ rfl w1.heap.size elFl _ q.length _ rfl (ho3.alloc _) (.slice (some ⟨w3.heap.size, 0, none⟩) 1 1) 1 (encF fx.1) rfl (src_one rfl rfl (by simp [Value.oneCell'])) (by rw [HQl.out]; unfold maxLen; omega) (by rw [HQl.out]; omega) (by have := hb3.size; simp; omega) ?_; intro v' w4 hown hg _)
        go_roundw
        case rel => exact ⟨rfl, rfl, k + 1, by omega, by go_num, (Lib.hid fun j hj' => by
          rcases Nat.lt_or_ge j k with h | h
          · exact hj.out j h
          · obtain rfl : j = k := by omega
            exact Hf.out), by rw [HSn.out]; exact Own.snoc hown, Bapp (hb3.alloc hb3.size _) (ho3.alloc _) hg (Nat.le_refl _) (by have := hb3.size; simp; omega)⟩
        case measure => simp [intOf]; omega
end Go.Proofs.YtikboodjfanjkaaGreatDoor
namespace Go.Proofs.YtikboodjfanjkaaGreatDoor

/-- The digits of a text: behind a sign, if it has one. -/
def digOf (s : Str) : Str := if s.head? = some 45 then s.tail else s
def numRef (s : Str) : Option Int :=
  if (digOf s).length < 1 ∨ 11 < s.length then none
  else if (digOf s).head? = some 48 ∧ 1 < s.length then none
  else (Lib.decFrom 0 (digOf s)).map fun (u : Nat) => if (digOf s).length < s.length then -(u : Int) else (u : Int)

theorem digitVal_inv {c : UInt8} {v : Nat} (h : Lib.digitVal c = some v) : v < 10 ∧ c = UInt8.ofNat (48 + v) := by
  unfold Lib.digitVal at h
  split at h
  · rename_i hc
    obtain rfl := Option.some.inj h
    refine ⟨by omega, ?_⟩
    apply UInt8.toNat_inj.1
    rw [digit_val (by omega)]; omega
  · cases h
theorem dec_big {m v : Nat} (hm : 1 ≤ m) (hv : v < 10) : Lib.decDigits (m * 10 + v) = Lib.decDigits m ++ [UInt8.ofNat (48 + v)] := by
  rw [Lib.decDigits, dif_neg (by omega), show (m * 10 + v) / 10 = m by omega, show (m * 10 + v) % 10 = v by omega]
theorem decFrom_dig : ∀ (l : Str) (acc u : Nat), 1 ≤ acc → Lib.decFrom acc l = some u → Lib.decDigits u = Lib.decDigits acc ++ l
  | [], acc, u, _, h => by obtain rfl := Option.some.inj h; simp
  | c :: r, acc, u, ha, h => by
    unfold Lib.decFrom at h
    split at h
    · rename_i v hv
      obtain ⟨h10, hc⟩ := digitVal_inv hv
      rw [decFrom_dig r _ u (by omega) h, dec_big ha h10, hc]; simp
    · cases h
theorem decFrom_dig0 {d : Str} {u : Nat} (hne : d ≠ []) (h0 : d.head? ≠ some 48 ∨ d.length = 1) (h : Lib.decFrom 0 d = some u) : Lib.decDigits u = d := by
  cases d with
  | nil => exact absurd rfl hne
  | cons c r =>
    unfold Lib.decFrom at h
    split at h
    · rename_i v hv
      obtain ⟨h10, hc⟩ := digitVal_inv hv
      rw [Nat.zero_mul, Nat.zero_add] at h
      rcases Nat.eq_zero_or_pos v with rfl | hp
      · rcases h0 with h0 | h0
        · exact absurd (by rw [hc]; rfl) h0
        · have : r = [] := List.eq_nil_of_length_eq_zero (by simpa using h0)
          subst this
          obtain rfl := Option.some.inj h
          rw [Lib.decDigits_one (by omega), hc]
      · rw [decFrom_dig r v u hp h, Lib.decDigits_one h10, hc]; rfl
    · cases h
theorem dec_head {u : Nat} (hu : 1 ≤ u) : (Lib.decDigits u).head? ≠ some 48 := by
  induction u using Nat.strongRecOn with
  | _ u ih =>
    by_cases h : u < 10
    · rw [Lib.decDigits_one h]
      intro e
      have e1 : UInt8.ofNat (48 + u) = 48 := by simpa using e
      have := digit_val h
      rw [e1] at this
      have h2 : (48 : UInt8).toNat = 48 := rfl
      omega
    · have h1 := ih (u / 10) (by omega) (by omega)
      rw [Lib.decDigits, dif_neg h]
      cases hd : Lib.decDigits (u / 10) with
      | nil => exact absurd hd (dec_ne _)
      | cons c r => rw [hd] at h1; exact h1
theorem dec_head45 (u : Nat) : (Lib.decDigits u).head? ≠ some 45 := fun e => by
  have hm : (45 : UInt8) ∈ Lib.decDigits u := List.mem_of_head? e
  have := dec_digit u _ hm
  revert this; decide
theorem atoi_itoa (n : Int) : Lib.atoi (Lib.itoa n) = some n := by
  rcases Int.lt_or_le n 0 with h | h
  · obtain ⟨u, rfl⟩ : ∃ u : Nat, n = -(u : Int) := ⟨n.natAbs, by omega⟩
    rw [Lib.itoa_neg u (by omega)]
    simp [Lib.atoi, decNat_dec]
  · obtain ⟨u, rfl⟩ : ∃ u : Nat, n = u := ⟨n.toNat, by omega⟩
    rw [Lib.itoa_nonneg, atoi_dec]
theorem numOf_iff (s : Str) (n : Int) : numOf s = some n ↔ s.length ≤ 11 ∧ Lib.itoa n = s := by
  constructor
  · intro h
    unfold numOf at h
    split at h
    · split at h
      · rename_i hc; cases h; exact hc
      · cases h
    · cases h
  · rintro ⟨hl, rfl⟩
    unfold numOf
    rw [Lib.atoiAll_short _ (by omega), atoi_itoa]
    simp only [Lib.NumEnd.ofOption]
    rw [if_pos ⟨hl, trivial⟩]
theorem numRef_iff (s : Str) (n : Int) : numRef s = some n ↔ s.length ≤ 11 ∧ Lib.itoa n = s := by
  constructor
  · intro h
    unfold numRef at h
    split at h
    · cases h
    · rename_i h1
      split at h
      · cases h
      · rename_i h2
        cases hd : Lib.decFrom 0 (digOf s) with
        | none => rw [hd] at h; cases h
        | some u =>
          rw [hd] at h
          have h : (if (digOf s).length < s.length then -(u : Int) else u) = n := Option.some.inj h
          refine ⟨by omega, ?_⟩
          have hne : digOf s ≠ [] := fun e => h1 (.inl (by rw [e]; decide))
          by_cases h45 : s.head? = some 45
          · have hdo : digOf s = s.tail := if_pos h45
            have hs : s = 45 :: s.tail := by
              cases s with
              | nil => cases h45
              | cons c r => obtain rfl : c = 45 := by simpa using h45
                            rfl
            have hlen : s.length = s.tail.length + 1 := by rw [congrArg List.length hs]; simp
            rw [hdo] at h h1 h2 hd hne
            rw [if_pos (by omega)] at h
            have hdd := decFrom_dig0 hne (.inl fun e => h2 ⟨e, by omega⟩) hd
            have hu : 1 ≤ u := by
              rcases Nat.eq_zero_or_pos u with rfl | h'
              · rw [Lib.decDigits_one (by omega)] at hdd
                exact absurd ⟨by rw [← hdd]; rfl, by omega⟩ h2
              · exact h'
            rw [← h, Lib.itoa_neg u hu, hdd]; exact hs.symm
          · have hdo : digOf s = s := if_neg h45
            rw [hdo] at h h1 h2 hd hne
            rw [if_neg (by omega)] at h
            have hp : 0 < s.length := List.length_pos_iff.2 hne
            rw [← h, Lib.itoa_nonneg]
            refine decFrom_dig0 hne ?_ hd
            by_cases e : s.head? = some 48
            · exact .inr (by
                rcases Nat.lt_or_ge 1 s.length with h' | h'
                · exact absurd ⟨e, h'⟩ h2
                · omega)
            · exact .inl e
  · rintro ⟨hl, rfl⟩
    unfold numRef
    rcases Int.lt_or_le n 0 with h | h
    · obtain ⟨u, rfl⟩ : ∃ u : Nat, n = -(u : Int) := ⟨n.natAbs, by omega⟩
      have hu : 1 ≤ u := by omega
      rw [Lib.itoa_neg u hu] at hl ⊢
      have hdo : digOf (45 :: Lib.decDigits u) = Lib.decDigits u := if_pos rfl
      have hp : 0 < (Lib.decDigits u).length := List.length_pos_iff.2 (dec_ne u)
      have hl' : (Lib.decDigits u).length + 1 ≤ 11 := hl
      rw [hdo, if_neg (by rw [List.length_cons]; omega), if_neg (fun e => dec_head hu e.1), decFrom_dec]
      simp
    · obtain ⟨u, rfl⟩ : ∃ u : Nat, n = u := ⟨n.toNat, by omega⟩
      rw [Lib.itoa_nonneg] at hl ⊢
      have hdo : digOf (Lib.decDigits u) = Lib.decDigits u := if_neg (dec_head45 u)
      have hp : 0 < (Lib.decDigits u).length := List.length_pos_iff.2 (dec_ne u)
      rw [hdo, if_neg (by omega), if_neg ?_, decFrom_dec]
      · simp
      · rintro ⟨e, e2⟩
        rcases Nat.eq_zero_or_pos u with rfl | h'
        · rw [Lib.decDigits_one (by omega)] at e2; simp at e2
        · exact dec_head h' e
theorem numRef_eq (s : Str) : numRef s = numOf s := by
  cases h : numOf s with
  | none =>
    cases h2 : numRef s with
    | none => rfl
    | some n => rw [(numOf_iff s n).2 ((numRef_iff s n).1 h2)] at h; cases h
  | some n => exact (numRef_iff s n).2 ((numOf_iff s n).1 h)

/-- Digits so far: the bound. -/
theorem decFrom_lt : ∀ (l : Str) (acc u : Nat), Lib.decFrom acc l = some u → u < (acc + 1) * 10 ^ l.length
  | [], acc, u, h => by obtain rfl := Option.some.inj h; simp
  | c :: r, acc, u, h => by
    unfold Lib.decFrom at h
    split at h
    · rename_i v hv
      obtain ⟨h10, _⟩ := digitVal_inv hv
      have h1 := decFrom_lt r _ u h
      have h2 : (acc * 10 + v + 1) * 10 ^ r.length ≤ ((acc + 1) * 10) * 10 ^ r.length := Nat.mul_le_mul_right _ (by omega)
      rw [List.length_cons, Nat.pow_succ, Nat.mul_comm (10 ^ r.length) 10, ← Nat.mul_assoc]
      omega
    · cases h
end Go.Proofs.YtikboodjfanjkaaGreatDoor
