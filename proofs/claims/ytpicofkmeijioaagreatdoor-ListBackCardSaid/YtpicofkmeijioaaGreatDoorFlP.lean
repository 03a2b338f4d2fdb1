/- slices.DeleteFunc at []api.File; list.Prune. -/
import Derived.Test.YtpicofkmeijioaaGreatDoorFlS
import Derived.Test.YtpicofkmeijioaaGreatDoorFlG
import Derived.Test.YtpicofkmeijioaaGreatDoorDel
import Derived.Test.YtpicofkmeijioaaGreatDoorSix
namespace Go.Proofs.YtpicofkmeijioaaGreatDoor
open Go.RowKit

theorem set_app {α : Type} {A L : List α} {o : Nat} (hA : A.length = o) (j : Nat) (v : α) : (A ++ L).set (o + j) v = A ++ L.set j v := by
  subst hA
  rw [List.set_append, if_neg (by omega)]
  congr 2
  omega
/-- An element of six cells written anew, cell by cell. -/
theorem Own.set6 {e : TypeId} {B : Nat} {w : World} {g n cap i : Nat} {l : List Fl} (h : Own encF e 6 B w (.slice (some ⟨g, 0, none⟩) n cap) l) (hi : i < l.length) (x : Fl) :
    Own encF e 6 B (six w g (i * 6) (S x.path) (S x.part) (.int .i64 x.n) (.int .i64 x.lo) (.int .i64 x.hi) (.int .i64 x.seq)) (.slice (some ⟨g, 0, none⟩) n cap) (l.set i x) := by
  obtain ⟨cur, hB, hg, hl, hc, hm, hs, ht⟩ := h.row
  have hsplit : l = l.take i ++ l[i] :: l.drop (i + 1) := by rw [← List.drop_eq_getElem_cons hi, List.take_append_drop]
  have hset : l.set i x = l.take i ++ x :: l.drop (i + 1) := List.set_eq_take_append_cons_drop.trans (if_pos hi)
  have hA : ((l.take i).flatMap encF).length = i * 6 := by rw [flat_length encF_enc, List.length_take, Nat.min_eq_left (by omega)]
  have hC : ((l.drop (i + 1)).flatMap encF).length = (n - (i + 1)) * 6 := by rw [flat_length encF_enc, List.length_drop, hl]
  have hle : n * 6 ≤ cap * 6 := Nat.mul_le_mul_right _ hc
  have hf : l.flatMap encF = (l.take i).flatMap encF ++ (encF l[i] ++ (l.drop (i + 1)).flatMap encF) := by
    have : l.flatMap encF = (l.take i ++ l[i] :: l.drop (i + 1)).flatMap encF := by rw [← hsplit]
    rw [this]; simp only [List.flatMap_append, List.flatMap_cons]
  have hcur : cur.toList = (l.take i).flatMap encF ++ (encF l[i] ++ ((l.drop (i + 1)).flatMap encF ++ cur.toList.drop (n * 6))) := by
    have h1 : cur.toList = cur.toList.take (n * 6) ++ cur.toList.drop (n * 6) := (List.take_append_drop _ _).symm
    rw [ht, hf] at h1
    simpa using h1
  generalize cur.toList.drop (n * 6) = R at hcur
  refine Own.put encF_enc (by rw [List.length_set]; exact hl) hB (six_row hg (S x.path) (S x.part) (.int .i64 x.n) (.int .i64 x.lo) (.int .i64 x.hi) (.int .i64 x.seq)) hc hm (by simpa using hs) ?_
  simp only [Array.toList_setIfInBounds]
  rw [hcur, hset]
  have s0 : ((l.take i).flatMap encF ++ (encF l[i] ++ ((l.drop (i + 1)).flatMap encF ++ R))).set (i * 6) (S x.path) = (l.take i).flatMap encF ++ (encF l[i] ++ ((l.drop (i + 1)).flatMap encF ++ R)).set 0 (S x.path) := set_app hA 0 (S x.path)
  rw [s0, set_app hA, set_app hA, set_app hA, set_app hA, set_app hA]
  simp only [List.cons_append, List.nil_append, List.set_cons_zero, List.set_cons_succ, List.flatMap_append, List.flatMap_cons]
  have e : ∀ (A C R : List Value) (a b c d f g : Value), A ++ a :: b :: c :: d :: f :: g :: (C ++ R) = (A ++ [a, b, c, d, f, g] ++ C) ++ R := fun A C R a b c d f g => by simp
  rw [e, List.take_left' (by rw [List.length_append, List.length_append, hA, hC]; simp; omega)]
  simp
theorem sizeFl : (Tryz.prog.info? 50).map (·.size) = some 6 := by kernel_rfl
set_option maxHeartbeats 1000000 in
set_option maxRecDepth 20000 in
theorem deleteFuncF_any (f : FuncId) (caps : Array Value) (p : Fl → Bool) (base : Nat) (w0 : World) (v : Value) (l : List Fl) (w : World) (hf : Clo Tryz.prog f) (hp : PredOn Tryz.prog f caps fileV l p base w0)
    (hl : Own encF 50 6 base w v l) (hw : Below base w0 w) (hB : base ≤ w.heap.size) :
    Calls Tryz.prog 97 #[v, .func (.func f) #[] caps] w fun e w' => ∃ v', e = .returned v' ∧ Own encF 50 6 base w' v' (l.filter fun x => !p x) ∧ Below base w w' := by
  have hif := indexFuncF_any f caps p base w0 v l w hf hp (hl.at encF_enc) hw hB
  have Hif := Lib.hid hif; clear hif
  have Hf := Lib.hid hf; clear hf
  have Hp := Lib.hid hp; clear hp
  by_cases hall : ∀ (j : Nat) (x : Fl), l[j]? = some x → p x = false
  · have e1 : idxVal p l = -1 := idxVal_none hall
    have e2 : l.filter (fun x => !p x) = l := List.filter_eq_self.2 fun x hx => by
      obtain ⟨j, hj, he⟩ := List.getElem_of_mem hx
      simp [hall j x (by simp [hj, he])]
    have H1 := Lib.hid e1; have H2 := Lib.hid e2; clear e1 e2 hall
    go_enter Tryz.func97, Tryz.ntmps97
    go_wp2_with fail
    refine Hif.out.mono ?_
    rintro e w1 ⟨rfl, hb⟩
    rw [H1.out]
    go_wp2_with fail
    go_ret
    exact ⟨v, rfl, by rw [H2.out]; exact hl.below hb, hb.mono hB⟩
  · obtain ⟨k, x, hk, hpx, hlow⟩ : ∃ (k : Nat) (x : Fl), l[k]? = some x ∧ p x = true ∧ ∀ (j : Nat) (y : Fl), j < k → l[j]? = some y → p y = false := by
      cases hfi : l.findIdx? p with
      | none =>
        exfalso; refine hall fun j x hj => ?_
        exact List.findIdx?_eq_none_iff.1 hfi x (List.mem_of_getElem? hj)
      | some k =>
        obtain ⟨h1, h2, h3⟩ := List.findIdx?_eq_some_iff_getElem.1 hfi
        refine ⟨k, l[k], by simp, h2, fun j y hj hy => ?_⟩
        have h4 : j < l.length := by omega
        have := h3 j hj
        have hy' : l[j] = y := by rw [List.getElem?_eq_getElem h4] at hy; exact Option.some.inj hy
        rw [hy'] at this; simpa using this
    have hlt : k < l.length := by
      rcases Nat.lt_or_ge k l.length with h' | h'
      · exact h'
      · rw [List.getElem?_eq_none h'] at hk; cases hk
    have e1 : idxVal p l = k := idxVal_some hk hpx hlow
    have hst := DelRel.start hk hpx hlow
    obtain ⟨g, cap, cur, rfl, hBg, _, hcap, hm, _, _⟩ := hl.open (by omega)
    unfold maxLen at hm
    have hne : ((k : Int) == -1) = false := beq_eq_false_iff_ne.2 (by omega)
    have H1 := Lib.hid e1; have Hst := Lib.hid hst; clear e1 hst hall hlow hk
    go_enter Tryz.func97, Tryz.ntmps97
    go_wp2_with fail
    refine Hif.out.mono ?_
    rintro e w1 ⟨rfl, hb⟩
    rw [H1.out]
    have ho1 := hl.below hb
    have hb1 : Below base w w1 := hb.mono hB
    clear hl hb
    go_wp2_with fail
    go_loopw [5, 6] (fun s5 s6 wr => ∃ (i j : Nat) (ys : List Fl), s5 = .int .i64 i ∧ s6 = .int .i64 j ∧ Hid (DelRel p l i j ys) ∧ Own encF 50 6 base wr (.slice (some ⟨g, 0, none⟩) l.length cap) ys ∧ Below base w wr) (fun _ s6 _ => l.length - (intOf s6).toNat)
    case atStart => exact ⟨k, k + 1, l, rfl, by go_num, Hst.out, ho1, hb1⟩
    case round =>
      obtain ⟨i, j, ys, rfl, rfl, hd, ho, hbr⟩ := hrel
      have hij := hd.out.1
      have hjn := hd.out.2.1
      have hysl := hd.out.2.2.1
      have Hysl := Lib.hid hysl; clear hysl
      by_cases hlt' : j < l.length
      · obtain ⟨x', hxj⟩ := get_ex hlt'
        have hyj := hd.out.next hxj
        obtain ⟨_, _, b', o', hv', hga, _, _, hx'⟩ := ho.at encF_enc
        simp only [Value.slice.injEq] at hv'
        have hga' := hv'.1.trans (hga (by rw [Hysl.out]; omega))
        simp only [Option.some.injEq, Addr.mk.injEq, and_true] at hga'
        obtain ⟨rfl, rfl⟩ := hga'
        clear hv' hga
        obtain ⟨c0, c1, c2, c3, c4, c5⟩ := flCells hx' (Below.refl _ _) hyj
        have hk1 : (j : Int) < (l.length : Int) := by omega
        have hba : Below base w (wr.alloc (.cells #[S x'.path, S x'.part, .int .i64 x'.n, .int .i64 x'.lo, .int .i64 x'.hi, .int .i64 x'.seq] 50)) := hbr.alloc (Nat.le_trans hB hbr.size) _
        have hoa := ho.alloc (.cells #[S x'.path, S x'.part, .int .i64 x'.n, .int .i64 x'.lo, .int .i64 x'.hi, .int .i64 x'.seq] 50)
        have CB := Lib.hid (fun w6 (h : Below (wr.alloc (.cells #[S x'.path, S x'.part, .int .i64 x'.n, .int .i64 x'.lo, .int .i64 x'.hi, .int .i64 x'.seq] 50)).heap.size (wr.alloc (.cells #[S x'.path, S x'.part, .int .i64 x'.n, .int .i64 x'.lo, .int .i64 x'.hi, .int .i64 x'.seq] 50)) w6) => fileCells rfl h)
        have hpc := Hp.out (wr.alloc (.cells #[S x'.path, S x'.part, .int .i64 x'.n, .int .i64 x'.lo, .int .i64 x'.hi, .int .i64 x'.seq] 50)) x' (List.mem_of_getElem? hxj) (hw.trans hba) (Nat.le_trans hB hba.size)
        have Hpc := Lib.hid hpc; clear hpc hyj
        have Hxj := Lib.hid hxj; clear hxj
        have hf' := Hf.out
        unfold Clo at hf'
        simp only [Nat.zero_add] at c0 c1 c2 c3 c4 c5
        go_wp2_with fail
        generalize wr.alloc (.cells #[S x'.path, S x'.part, .int .i64 x'.n, .int .i64 x'.lo, .int .i64 x'.hi, .int .i64 x'.seq] 50) = wb at *
        refine Hpc.out.mono ?_
        rintro e w2 ⟨rfl, hb2⟩
        have ho2 := hoa.below hb2
        have hbr2 : Below base w w2 := hba.trans (hb2.mono (Nat.le_trans hB hba.size))
        clear c0 c1 c2 c3 c4 c5
        obtain ⟨c0, c1, c2, c3, c4, c5⟩ := CB.out w2 hb2
        cases hpv : p x' with
        | true =>
          have hd2 := hd.out.skip Hxj.out hpv
          have Hd2 := Lib.hid hd2; clear hd2 hpv
          go_wp2_with fail
          go_roundw
          case rel => exact ⟨i, j + 1, ys, rfl, by go_num, Hd2.out, ho2, hbr2⟩
          case measure => simp [intOf]; omega
        | false =>
          have hd2 := hd.out.keep Hxj.out hpv
          have Hd2 := Lib.hid hd2; clear hd2 hpv
          obtain ⟨y', hyi⟩ := get_ex (l := ys) (k := i) (by rw [Hysl.out]; omega)
          obtain ⟨cur2, _, hg2, _, _, _, _, _⟩ := ho2.row
          have fz : ∀ j, w2.frozen? ⟨g, j, none⟩ = false := fun j => frozen_row hg2
          obtain ⟨a', c', b', o', hv', hga, _, _, hx'⟩ := ho2.at encF_enc
          simp only [Value.slice.injEq] at hv'
          have hga' := hv'.1.trans (hga (by rw [Hysl.out]; omega))
          simp only [Option.some.injEq, Addr.mk.injEq, and_true] at hga'
          obtain ⟨rfl, rfl⟩ := hga'
          clear hv' hga
          obtain ⟨d0, d1, d2, d3, d4, d5⟩ := flCells hx' (Below.refl _ _) hyi
          simp only [Nat.zero_add] at d0 d1 d2 d3 d4 d5
          have f0 := fz (i * 6); have f1 := fz (i * 6 + 1); have f2 := fz (i * 6 + 2); have f3 := fz (i * 6 + 3); have f4 := fz (i * 6 + 4); have f5 := fz (i * 6 + 5)
          have ho3 := Own.set6 ho2 (i := i) (by rw [Hysl.out]; omega) x'
          have hk2 : (i : Int) < (l.length : Int) := by omega
          have Ho3 := Lib.hid ho3; clear ho3 hx' hyi hg2 fz
          go_wp2_with fail
          go_roundw
          case rel => exact ⟨i + 1, j + 1, ys.set i x', by go_num, by go_num, Hd2.out, Ho3.out, six_below hbr2 hBg _ _ _ _ _ _⟩
          case measure => simp [intOf]; omega
      · obtain rfl : j = l.length := by omega
        have hfin := hd.out.done
        have Hfin := Lib.hid hfin; clear hfin
        obtain ⟨cs, hrun, ho2⟩ := run_clear_own (c := cap - i) elFl encF_enc flZero1 ho (k := i) (by rw [Hysl.out]; omega)
        have hci : ¬ cap = i := by omega
        have hcap2 : (i : Int) ≤ (cap : Int) := by omega
        have hil : (i : Int) ≤ (l.length : Int) := by omega
        have Ho2 := Lib.hid ho2; clear ho2
        go_wp2_with fail
        go_ret
        refine ⟨.slice (some ⟨g, 0, none⟩) i cap, rfl, ?_, Bset hbr hBg _⟩
        have := Ho2.out
        rwa [Hfin.out] at this

/-- Is a file left out? -/
def pruneP (lo hi : Int) (f : Fl) : Bool := decide (min f.hi hi < max f.lo lo)
def pruneL (l : List Fl) (lo hi : Int) : List Fl := l.filter fun f => !pruneP lo hi f
theorem prune1_any (x : Fl) (a1 a2 : Addr) (lo hi : Int) (w : World) (h1 : w.cell? a1 = some (.int .i64 lo)) (h2 : w.cell? a2 = some (.int .i64 hi)) :
    Calls Tryz.prog 98 #[fileV x, .pointer (some a1), .pointer (some a2)] w fun e w' => e = .returned (.bool (pruneP lo hi x)) ∧ Below w.heap.size w w' := by
  have hb : Below w.heap.size w (w.alloc (fileO x)) := (Below.refl _ _).alloc (Nat.le_refl _) _
  have h1' : (w.alloc (fileO x)).cell? a1 = some (.int .i64 lo) := (hb.cell (World.block_lt_of_cell? w _ h1)).trans h1
  have h2' : (w.alloc (fileO x)).cell? a2 = some (.int .i64 hi) := (hb.cell (World.block_lt_of_cell? w _ h2)).trans h2
  go_enter Tryz.func98, Tryz.ntmps98
  go_wp2_with fail
  go_ret
  exact ⟨rfl, hb⟩
theorem clo_prune1 : Clo Tryz.prog 98 := fun _ _ => by kernel_rfl
theorem listPrune_any (v : Value) (l : List Fl) (lo hi : Int) (w : World) (hl : FilesAt w v l) (hn : l.length ≤ 100000) :
    Calls Tryz.prog 39 #[v, .int .i64 lo, .int .i64 hi] w fun e w' => ∃ v', e = .returned v' ∧ FilesAt w' v' (pruneL l lo hi) ∧ Below w.heap.size w w' := by
  obtain ⟨a, c, rfl, -, -⟩ := hl.form'
  have hba : Below w.heap.size w ((w.alloc (.cells #[.int .i64 lo] 3)).alloc (.cells #[.int .i64 hi] 3)) := ((Below.refl _ _).alloc (Nat.le_refl _) _).alloc (by simp) _
  have c0 : ((w.alloc (.cells #[.int .i64 lo] 3)).alloc (.cells #[.int .i64 hi] 3)).cell? ⟨w.heap.size, 0, none⟩ = some (.int .i64 lo) := by simp
  have c1 : ((w.alloc (.cells #[.int .i64 lo] 3)).alloc (.cells #[.int .i64 hi] 3)).cell? ⟨w.heap.size + 1, 0, none⟩ = some (.int .i64 hi) := by
    rw [World.cell?_alloc_at _ _ _ _ (by simp)]; rfl
  have Hl := Lib.hid (hl.below hba)
  go_enter Tryz.func39, Tryz.ntmps39
  go_wp2_with fail
  refine (cloneF_any _ l _ Hl.out hn).mono ?_
  rintro e w2 ⟨v2, rfl, hown, hb2⟩
  have hb2' := hba.trans (hb2.mono hba.size)
  have d0 := (hb2.cell (World.block_lt_of_cell? _ _ c0)).trans c0
  have d1 := (hb2.cell (World.block_lt_of_cell? _ _ c1)).trans c1
  go_wp2_with fail
  refine (deleteFuncF_any _ _ (pruneP lo hi) _ w2 v2 l _ clo_prune1 ?_ hown (Below.refl _ _) hb2.size).mono ?_
  · intro W x hx hbW hle
    exact prune1_any x _ _ lo hi W ((hbW.cell (Nat.lt_of_lt_of_le (World.block_lt_of_cell? _ _ c0) (by simp))).trans d0) ((hbW.cell (World.block_lt_of_cell? _ _ c1)).trans d1)
  · rintro e w3 ⟨v3, rfl, hown3, hb3⟩
    go_wp2_with fail
    go_ret
    exact ⟨_, rfl, hown3.at encF_enc, hb2'.trans (hb3.mono hba.size)⟩
end Go.Proofs.YtpicofkmeijioaaGreatDoor
