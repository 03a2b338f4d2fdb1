/- slices.IndexFunc, Clone, DeleteFunc at []api.Row; row.Drop, row.Within. deedboxlaw1's helpers on rows: rowed, LongRows, OwnRows. data.keys, data.Make: the walks. slices.Values, AppendSeq, Collect, Sorted, Sort, Compact at []int; gone.Keys. gone.Has, gone.Read, gone.Make: the walks. data.Read and what it does with a line: the walks. Printed by gen_data.py. file.Bare: an error without its place. file.Keys: the walk; what is known of a file's text, in plain words. -/
import Derived.Test.YtpfohfihkmjnaaaGreatDoorPk6
import Derived.Test.YtpfohfihkmjnaaaGreatDoorPk8
import Derived.Test.YtpfohfihkmjnaaaGreatDoorPk7
import Derived.Test.YtpfohfihkmjnaaaGreatDoorPk4
import Derived.Test.YtpfohfihkmjnaaaGreatDoorPk1
import Derived.Test.YtpfohfihkmjnaaaGreatDoorPk5
import Derived.Lib.OwnBridge
import Derived.Deep.RegionHeld3
import Derived.Stop.IfaceNil
import Derived.Outline
namespace Go.Proofs.YtpfohfihkmjnaaaGreatDoor
open Go.RowKit
theorem indexFuncR_any (f : FuncId) (caps : Array Value) (p : Rw → Bool) (base : Nat) (w0 : World) (v : Value) (l : List Rw) (w : World) (hf : Clo Tryz.prog f) (hp : PredOn Tryz.prog f caps rowV l p base w0)
    (hl : RowsAt w v l) (hw : Below base w0 w) (hB : base ≤ w.heap.size) :
    Calls Tryz.prog 101 #[v, .func (.func f) #[] caps] w fun e w' => e = .returned (.int .i64 (idxVal p l)) ∧ Below w.heap.size w w' := by
  obtain ⟨a, c, b, o, rfl, ha, hc, hcm, hx⟩ := hl
  unfold maxLen at hcm
  have hf' := hf
  unfold Clo at hf'
  go_enter Tryz.func101, Tryz.ntmps101
  go_wp2_with fail
  go_loopw [8] (fun i wr => ∃ k : Nat, k ≤ l.length ∧ i = .int .i64 k ∧ Hid (∀ j y, j < k → l[j]? = some y → p y = false) ∧ Below w.heap.size w wr) (fun i _ => l.length - (intOf i).toNat)
  case atStart => exact ⟨0, by omega, rfl, Lib.hid fun j y hj => absurd hj (by omega), Below.refl _ _⟩
  case round =>
    obtain ⟨k, hk, rfl, hj, hb⟩ := hrel
    by_cases hlt : k < l.length
    · obtain ⟨x, hxk⟩ := get_ex hlt
      obtain ⟨c0, c1, c2⟩ := rwCells hx hb hxk
      have i1 := idx_at (c := c) 3 Tryz.underlying44 szRw ha k hlt
      have hk1 : (k : Int) < (l.length : Int) := by omega
      have hpx := hp wr x (List.mem_of_getElem? hxk) (hw.trans (hb.mono hB)) (Nat.le_trans hB hb.size)
      have Hp := Lib.hid hpx; clear hpx
      have Hx := Lib.hid hxk; clear hxk
      go_wp2_with fail
      refine Hp.out.mono ?_
      rintro e w1 ⟨rfl, hb1⟩
      have hb2 := hb.trans (hb1.mono hb.size)
      cases hpv : p x with
      | true =>
        have Hpv := Lib.hid hpv; clear hpv
        go_wp2_with fail
        go_ret
        refine ⟨?_, hb2⟩
        rw [idxVal_some Hx.out Hpv.out hj.out]; rfl
      | false =>
        have Hpv := Lib.hid hpv; clear hpv
        go_wp2_with fail
        go_roundw
        case rel => exact ⟨k + 1, by omega, by go_num, (Lib.hid fun j y hj' hy => by
          rcases Nat.lt_or_ge j k with h | h
          · exact hj.out j y h hy
          · obtain rfl : j = k := by omega
            rw [Hx.out] at hy
            obtain rfl := Option.some.inj hy
            exact Hpv.out), hb2⟩
        case measure => simp [intOf]; omega
    · obtain rfl : k = l.length := by omega
      go_wp2_with fail
      go_ret
      refine ⟨?_, hb⟩
      rw [idxVal_none fun j x hj' => hj.out j x (by
        rcases Nat.lt_or_ge j l.length with h | h
        · exact h
        · rw [List.getElem?_eq_none h] at hj'; cases hj') hj']
      rfl
set_option maxRecDepth 20000 in
theorem cloneR_any (v : Value) (l : List Rw) (w : World) (hl : RowsAt w v l) (hn : l.length ≤ 100000) :
    Calls Tryz.prog 102 #[v] w fun e w' => ∃ v', e = .returned v' ∧ Own encR 106 3 w.heap.size w' v' l ∧ Below w.heap.size w w' := by
  obtain ⟨a, c, rfl, hnil, hcm⟩ := hl.form'
  have hq := fun w' => Lib.run_eql_slice_nil (P := Tryz.prog) w' 44 106 a l.length c 0 0 Tryz.underlying44
  cases a with
  | none =>
    obtain rfl := hnil rfl
    simp only [Option.isNone_none, List.length_nil] at hq
    go_enter Tryz.func102, Tryz.ntmps102
    go_wp2_with fail
    go_ret
    exact ⟨_, rfl, Own.nil _ _ _ _ _, Below.refl _ _⟩
  | some ad =>
    simp only [Option.isNone_some] at hq
    have hba : Below w.heap.size w (w.alloc (.cells #[] 106)) := (Below.refl _ _).alloc (Nat.le_refl _) _
    have hs := (hl.below hba).src encR_enc (by decide)
    have ho : Own encR 106 3 w.heap.size (w.alloc (.cells #[] 106)) (.slice (some ⟨w.heap.size, 0, none⟩) 0 0) [] := own_empty encR _ 3 _ _ _ (Nat.le_refl _) (heap_alloc_new w _)
    go_enter Tryz.func102, Tryz.ntmps102
    go_wp2_with (at_builtin; refine wpList_app rfl _ _ _ rfl w.heap.size elRw (.slice (some ⟨w.heap.size, 0, none⟩) 0 0) 0 [] rfl ho _ _ _ rfl hs (by unfold maxLen; omega) (by omega) (by simp) ?_; intro v' w1 hown hg _)
    go_ret
    exact ⟨_, rfl, by simpa [Own] using hown, hba.grown hg (by simp) (fun k hk => by cases hk; exact Nat.le_refl _)⟩
theorem rwZero : (Tryz.prog.info? 106).bind (·.zero) = some (.agg #[.string ByteArray.empty, .int .i64 0, .int .i64 0]) := by kernel_rfl
theorem rwZero1 : ∀ z, (Tryz.prog.info? 106).bind (·.zero) = some z → ∀ u ∈ z.cells.toList, u.oneCell' = true := by
  intro z hz u hu
  rw [rwZero] at hz
  cases hz
  simp [Value.cells] at hu
  rcases hu with rfl | rfl <;> rfl
/-- An element of three cells written anew, cell by cell. -/
theorem Own.set3 {e : TypeId} {B : Nat} {w : World} {g n cap i : Nat} {l : List Rw} (h : Own encR e 3 B w (.slice (some ⟨g, 0, none⟩) n cap) l) (hi : i < l.length) (x : Rw) :
    Own encR e 3 B (thr w g (i * 3) (S x.part) (.int .i64 x.key) (.int .i64 x.val)) (.slice (some ⟨g, 0, none⟩) n cap) (l.set i x) := by
  obtain ⟨cur, hB, hg, hl, hc, hm, hs, ht⟩ := h.row
  have hsplit : l = l.take i ++ l[i] :: l.drop (i + 1) := by rw [← List.drop_eq_getElem_cons hi, List.take_append_drop]
  have hset : l.set i x = l.take i ++ x :: l.drop (i + 1) := List.set_eq_take_append_cons_drop.trans (if_pos hi)
  have hA : ((l.take i).flatMap encR).length = i * 3 := by rw [flat_length encR_enc, List.length_take, Nat.min_eq_left (by omega)]
  have hC : ((l.drop (i + 1)).flatMap encR).length = (n - (i + 1)) * 3 := by rw [flat_length encR_enc, List.length_drop, hl]
  have hle : n * 3 ≤ cap * 3 := Nat.mul_le_mul_right _ hc
  have hf : l.flatMap encR = (l.take i).flatMap encR ++ (encR l[i] ++ (l.drop (i + 1)).flatMap encR) := by
    have : l.flatMap encR = (l.take i ++ l[i] :: l.drop (i + 1)).flatMap encR := by rw [← hsplit]
    rw [this]; simp only [List.flatMap_append, List.flatMap_cons]
  have hcur : cur.toList = (l.take i).flatMap encR ++ (encR l[i] ++ ((l.drop (i + 1)).flatMap encR ++ cur.toList.drop (n * 3))) := by
    have h1 : cur.toList = cur.toList.take (n * 3) ++ cur.toList.drop (n * 3) := (List.take_append_drop _ _).symm
    rw [ht, hf] at h1
    simpa using h1
  generalize cur.toList.drop (n * 3) = R at hcur
  refine Own.put encR_enc (by rw [List.length_set]; exact hl) hB (thr_row hg (S x.part) (.int .i64 x.key) (.int .i64 x.val)) hc hm (by simpa using hs) ?_
  simp only [Array.toList_setIfInBounds]
  rw [hcur, hset]
  have s0 : ((l.take i).flatMap encR ++ (encR l[i] ++ ((l.drop (i + 1)).flatMap encR ++ R))).set (i * 3) (S x.part) = (l.take i).flatMap encR ++ (encR l[i] ++ ((l.drop (i + 1)).flatMap encR ++ R)).set 0 (S x.part) := set_app hA 0 (S x.part)
  rw [s0, set_app hA, set_app hA]
  simp only [List.cons_append, List.nil_append, List.set_cons_zero, List.set_cons_succ, List.flatMap_append, List.flatMap_cons]
  have e : ∀ (A C R : List Value) (a b c : Value), A ++ a :: b :: c :: (C ++ R) = (A ++ [a, b, c] ++ C) ++ R := fun A C R a b c => by simp
  rw [e, List.take_left' (by rw [List.length_append, List.length_append, hA, hC]; simp; omega)]
  simp
set_option maxHeartbeats 1000000 in
set_option maxRecDepth 20000 in
theorem deleteFuncR_any (f : FuncId) (caps : Array Value) (p : Rw → Bool) (base : Nat) (w0 : World) (v : Value) (l : List Rw) (w : World) (hf : Clo Tryz.prog f) (hp : PredOn Tryz.prog f caps rowV l p base w0)
    (hl : Own encR 106 3 base w v l) (hw : Below base w0 w) (hB : base ≤ w.heap.size) :
    Calls Tryz.prog 49 #[v, .func (.func f) #[] caps] w fun e w' => ∃ v', e = .returned v' ∧ Own encR 106 3 base w' v' (l.filter fun x => !p x) ∧ Below base w w' := by
  have hif := indexFuncR_any f caps p base w0 v l w hf hp (hl.at encR_enc) hw hB
  have Hif := Lib.hid hif; clear hif
  have Hf := Lib.hid hf; clear hf
  have Hp := Lib.hid hp; clear hp
  by_cases hall : ∀ (j : Nat) (x : Rw), l[j]? = some x → p x = false
  · have e1 : idxVal p l = -1 := idxVal_none hall
    have e2 : l.filter (fun x => !p x) = l := List.filter_eq_self.2 fun x hx => by
      obtain ⟨j, hj, he⟩ := List.getElem_of_mem hx
      simp [hall j x (by simp [hj, he])]
    have H1 := Lib.hid e1; have H2 := Lib.hid e2; clear e1 e2 hall
    go_enter Tryz.func49, Tryz.ntmps49
    go_wp2_with fail
    refine Hif.out.mono ?_
    rintro e w1 ⟨rfl, hb⟩
    rw [H1.out]
    go_wp2_with fail
    go_ret
    exact ⟨v, rfl, by rw [H2.out]; exact hl.below hb, hb.mono hB⟩
  · obtain ⟨k, x, hk, hpx, hlow⟩ : ∃ (k : Nat) (x : Rw), l[k]? = some x ∧ p x = true ∧ ∀ (j : Nat) (y : Rw), j < k → l[j]? = some y → p y = false := by
      cases hfi : l.findIdx? p with
      | none =>
        exfalso; refine hall fun j x hj => ?_
        exact List.findIdx?_eq_none_iff.1 hfi x (List.mem_of_getElem? hj)
      | some k =>
        obtain ⟨h1, h2, h3⟩ := List.findIdx?_eq_some_iff_getElem.1 hfi
        refine ⟨k, l[k], by simp, h2, fun j y hj hy => ?_⟩
        have h4 : j < l.length := by omega
        have := h3 j hj
        have hy' : l[j] = y := by rw [List.getElem?_eq_getElem h4] at hy; exact Option.some.inj hy
        rw [hy'] at this; simpa using this
    have hlt : k < l.length := by
      rcases Nat.lt_or_ge k l.length with h' | h'
      · exact h'
      · rw [List.getElem?_eq_none h'] at hk; cases hk
    have e1 : idxVal p l = k := idxVal_some hk hpx hlow
    have hst := DelRel.start hk hpx hlow
    obtain ⟨g, cap, cur, rfl, hBg, _, hcap, hm, _, _⟩ := hl.open (by omega)
    unfold maxLen at hm
    have hne : ((k : Int) == -1) = false := beq_eq_false_iff_ne.2 (by omega)
    have H1 := Lib.hid e1; have Hst := Lib.hid hst; clear e1 hst hall hlow hk
    go_enter Tryz.func49, Tryz.ntmps49
    go_wp2_with fail
    refine Hif.out.mono ?_
    rintro e w1 ⟨rfl, hb⟩
    rw [H1.out]
    have ho1 := hl.below hb
    have hb1 : Below base w w1 := hb.mono hB
    clear hl hb
    go_wp2_with fail
    go_loopw [5, 6] (fun s5 s6 wr => ∃ (i j : Nat) (ys : List Rw), s5 = .int .i64 i ∧ s6 = .int .i64 j ∧ Hid (DelRel p l i j ys) ∧ Own encR 106 3 base wr (.slice (some ⟨g, 0, none⟩) l.length cap) ys ∧ Below base w wr) (fun _ s6 _ => l.length - (intOf s6).toNat)
    case atStart => exact ⟨k, k + 1, l, rfl, by go_num, Hst.out, ho1, hb1⟩
    case round =>
      obtain ⟨i, j, ys, rfl, rfl, hd, ho, hbr⟩ := hrel
      have hij := hd.out.1
      have hjn := hd.out.2.1
      have hysl := hd.out.2.2.1
      have Hysl := Lib.hid hysl; clear hysl
      by_cases hlt' : j < l.length
      · obtain ⟨x', hxj⟩ := get_ex hlt'
        have hyj := hd.out.next hxj
        obtain ⟨_, _, b', o', hv', hga, _, _, hx'⟩ := ho.at encR_enc
        simp only [Value.slice.injEq] at hv'
        have hga' := hv'.1.trans (hga (by rw [Hysl.out]; omega))
        simp only [Option.some.injEq, Addr.mk.injEq, and_true] at hga'
        obtain ⟨rfl, rfl⟩ := hga'
        clear hv' hga
        obtain ⟨c0, c1, c2⟩ := rwCells hx' (Below.refl _ _) hyj
        have hk1 : (j : Int) < (l.length : Int) := by omega
        have hba : Below base w (wr.alloc (.cells #[S x'.part, .int .i64 x'.key, .int .i64 x'.val] 106)) := hbr.alloc (Nat.le_trans hB hbr.size) _
        have hoa := ho.alloc (.cells #[S x'.part, .int .i64 x'.key, .int .i64 x'.val] 106)
        have CB := Lib.hid (fun w6 (h : Below (wr.alloc (.cells #[S x'.part, .int .i64 x'.key, .int .i64 x'.val] 106)).heap.size (wr.alloc (.cells #[S x'.part, .int .i64 x'.key, .int .i64 x'.val] 106)) w6) => rowCells (r := x') rfl h)
        have hpc := Hp.out (wr.alloc (.cells #[S x'.part, .int .i64 x'.key, .int .i64 x'.val] 106)) x' (List.mem_of_getElem? hxj) (hw.trans hba) (Nat.le_trans hB hba.size)
        have Hpc := Lib.hid hpc; clear hpc hyj
        have Hxj := Lib.hid hxj; clear hxj
        have hf' := Hf.out
        unfold Clo at hf'
        simp only [Nat.zero_add] at c0 c1 c2
        go_wp2_with fail
        generalize wr.alloc (.cells #[S x'.part, .int .i64 x'.key, .int .i64 x'.val] 106) = wb at *
        refine Hpc.out.mono ?_
        rintro e w2 ⟨rfl, hb2⟩
        have ho2 := hoa.below hb2
        have hbr2 : Below base w w2 := hba.trans (hb2.mono (Nat.le_trans hB hba.size))
        clear c0 c1 c2
        obtain ⟨c0, c1, c2⟩ := CB.out w2 hb2
        cases hpv : p x' with
        | true =>
          have hd2 := hd.out.skip Hxj.out hpv
          have Hd2 := Lib.hid hd2; clear hd2 hpv
          go_wp2_with fail
          go_roundw
          case rel => exact ⟨i, j + 1, ys, rfl, by go_num, Hd2.out, ho2, hbr2⟩
          case measure => simp [intOf]; omega
        | false =>
          have hd2 := hd.out.keep Hxj.out hpv
          have Hd2 := Lib.hid hd2; clear hd2 hpv
          obtain ⟨y', hyi⟩ := get_ex (l := ys) (k := i) (by rw [Hysl.out]; omega)
          obtain ⟨cur2, _, hg2, _, _, _, _, _⟩ := ho2.row
          have fz : ∀ j, w2.frozen? ⟨g, j, none⟩ = false := fun j => frozen_row hg2
          obtain ⟨a', c', b', o', hv', hga, _, _, hx'⟩ := ho2.at encR_enc
          simp only [Value.slice.injEq] at hv'
          have hga' := hv'.1.trans (hga (by rw [Hysl.out]; omega))
          simp only [Option.some.injEq, Addr.mk.injEq, and_true] at hga'
          obtain ⟨rfl, rfl⟩ := hga'
          clear hv' hga
          obtain ⟨d0, d1, d2⟩ := rwCells hx' (Below.refl _ _) hyi
          simp only [Nat.zero_add] at d0 d1 d2
          have f0 := fz (i * 3); have f1 := fz (i * 3 + 1); have f2 := fz (i * 3 + 2)
          have ho3 := Own.set3 ho2 (i := i) (by rw [Hysl.out]; omega) x'
          have hk2 : (i : Int) < (l.length : Int) := by omega
          have Ho3 := Lib.hid ho3; clear ho3 hx' hyi hg2 fz
          go_wp2_with fail
          go_roundw
          case rel => exact ⟨i + 1, j + 1, ys.set i x', by go_num, by go_num, Hd2.out, Ho3.out, thr_below hbr2 hBg _ _ _⟩
          case measure => simp [intOf]; omega
      · obtain rfl : j = l.length := by omega
        have hfin := hd.out.done
        have Hfin := Lib.hid hfin; clear hfin
        obtain ⟨cs, hrun, ho2⟩ := run_clear_own (c := cap - i) elRw encR_enc rwZero1 ho (k := i) (by rw [Hysl.out]; omega)
        have hci : ¬ cap = i := by omega
        have hcap2 : (i : Int) ≤ (cap : Int) := by omega
        have hil : (i : Int) ≤ (l.length : Int) := by omega
        have Ho2 := Lib.hid ho2; clear ho2
        go_wp2_with fail
        go_ret
        refine ⟨.slice (some ⟨g, 0, none⟩) i cap, rfl, ?_, Bset hbr hBg _⟩
        have := Ho2.out
        rwa [Hfin.out] at this
theorem within1_any (x : Rw) (a1 a2 : Addr) (lo hi : Int) (w : World) (h1 : w.cell? a1 = some (.int .i64 lo)) (h2 : w.cell? a2 = some (.int .i64 hi)) :
    Calls Tryz.prog 103 #[rowV x, .pointer (some a1), .pointer (some a2)] w fun e w' => e = .returned (.bool (withinP lo hi x)) ∧ Below w.heap.size w w' := by
  have hb : Below w.heap.size w (w.alloc (rowO x)) := (Below.refl _ _).alloc (Nat.le_refl _) _
  have h1' : (w.alloc (rowO x)).cell? a1 = some (.int .i64 lo) := (hb.cell (World.block_lt_of_cell? w _ h1)).trans h1
  have h2' : (w.alloc (rowO x)).cell? a2 = some (.int .i64 hi) := (hb.cell (World.block_lt_of_cell? w _ h2)).trans h2
  unfold withinP
  by_cases g1 : x.key < lo
  · rw [decide_eq_true g1, Bool.true_or]
    go_enter Tryz.func103, Tryz.ntmps103
    go_wp2_with fail
    go_ret
    exact ⟨rfl, hb⟩
  · have g2 : decide (x.key < lo) = false := by simpa using g1
    rw [g2, Bool.false_or]
    clear g1
    go_enter Tryz.func103, Tryz.ntmps103
    go_wp2_with fail
    go_ret
    exact ⟨rfl, hb⟩
theorem clo_within1 : Clo Tryz.prog 103 := fun _ _ => by kernel_rfl
theorem rowWithin_any (v : Value) (l : List Rw) (lo hi : Int) (w : World) (hl : RowsAt w v l) (hn : l.length ≤ 100000) :
    Calls Tryz.prog 50 #[v, .int .i64 lo, .int .i64 hi] w fun e w' => ∃ v', e = .returned v' ∧ Own encR 106 3 w.heap.size w' v' (withinR l lo hi) ∧ Below w.heap.size w w' := by
  obtain ⟨a, c, rfl, -, -⟩ := hl.form'
  have hba : Below w.heap.size w ((w.alloc (.cells #[.int .i64 lo] 3)).alloc (.cells #[.int .i64 hi] 3)) := ((Below.refl _ _).alloc (Nat.le_refl _) _).alloc (by simp) _
  have c0 : ((w.alloc (.cells #[.int .i64 lo] 3)).alloc (.cells #[.int .i64 hi] 3)).cell? ⟨w.heap.size, 0, none⟩ = some (.int .i64 lo) := by simp
  have c1 : ((w.alloc (.cells #[.int .i64 lo] 3)).alloc (.cells #[.int .i64 hi] 3)).cell? ⟨w.heap.size + 1, 0, none⟩ = some (.int .i64 hi) := by
    rw [World.cell?_alloc_at _ _ _ _ (by simp)]; rfl
  have Hl := Lib.hid (hl.below hba)
  go_enter Tryz.func50, Tryz.ntmps50
  go_wp2_with fail
  refine (cloneR_any _ l _ Hl.out hn).mono ?_
  rintro e w2 ⟨v2, rfl, hown, hb2⟩
  have hb2' := hba.trans (hb2.mono hba.size)
  have d0 := (hb2.cell (World.block_lt_of_cell? _ _ c0)).trans c0
  have d1 := (hb2.cell (World.block_lt_of_cell? _ _ c1)).trans c1
  go_wp2_with fail
  refine (deleteFuncR_any _ _ (withinP lo hi) _ w2 v2 l _ clo_within1 ?_ hown (Below.refl _ _) hb2.size).mono ?_
  · intro W x hx hbW hle
    exact within1_any x _ _ lo hi W ((hbW.cell (Nat.lt_of_lt_of_le (World.block_lt_of_cell? _ _ c0) (by simp))).trans d0) ((hbW.cell (World.block_lt_of_cell? _ _ c1)).trans d1)
  · rintro e w3 ⟨v3, rfl, hown3, hb3⟩
    go_wp2_with fail
    go_ret
    exact ⟨_, rfl, hown3.base (by simp; omega), hb2'.trans (hb3.mono hba.size)⟩
end Go.Proofs.YtpfohfihkmjnaaaGreatDoor
namespace Go.Proofs.YtpfohfihkmjnaaaGreatDoor
open Go.RowKit
end Go.Proofs.YtpfohfihkmjnaaaGreatDoor
namespace Go.Proofs.YtpfohfihkmjnaaaGreatDoor
open Go.RowKit
set_option maxHeartbeats 2000000 in
set_option maxRecDepth 20000 in
theorem dataKeys_any (v : Value) (l : List Rw) (w : World) (hl : RowsAt w v l) (hn : l.length ≤ 100000) :
    Calls Tryz.prog 143 #[v] w fun e w' => ∃ u, e = .returned u ∧ Own encI 3 1 w.heap.size w' u (keysR l) ∧ Below w.heap.size w w' := by
  obtain ⟨a, c, b, o, rfl, ha, hc, hcm, hx⟩ := hl
  unfold maxLen at hcm
  have HX := Lib.hid hx
  clear hx
  go_enter Tryz.func143, Tryz.ntmps143
  go_wp2_with fail
  go_loopw [3, 8] (fun u i wr => ∃ (k : Nat) (va : Value), k ≤ l.length ∧ i = .int .i64 k ∧ va = u ∧ Own encI 3 1 w.heap.size wr va (keysR (l.take k)) ∧ Below w.heap.size w wr) (fun _ i _ => l.length - (intOf i).toNat)
  case atStart => exact ⟨0, _, by omega, rfl, rfl, Own.nil _ _ _ _ _, Below.refl _ _⟩
  case round =>
    obtain ⟨k, va, hk, rfl, rfl, hown, hb⟩ := hrel
    obtain ⟨wo, rfl⟩ : ∃ wo, wo = wr := ⟨wr, rfl⟩
    by_cases hlt : k < l.length
    case neg =>
      obtain rfl : k = l.length := by omega
      rw [List.take_length] at hown
      have f : decide ((l.length : Int) < (l.length : Int)) = false := by simp
      have HO := Lib.hid hown
      clear hown
      go_wp2_with fail
      go_ret
      exact ⟨_, rfl, HO.out, hb⟩
    have hk1 : (k : Int) < (l.length : Int) := by omega
    obtain ⟨x, hxk⟩ := get_ex hlt
    obtain ⟨c0, c1, c2⟩ := rwCells HX.out hb hxk
    have i1 := idx_at (c := c) 3 Tryz.underlying44 szRw ha k hlt
    have HSn : Hid (keysR (l.take (k + 1)) = keysR (l.take k) ++ [x.key]) := Lib.hid (by rw [take_snoc' hxk]; simp [keysR])
    have hql : (keysR (l.take k)).length = k := by simp [keysR]; omega
    generalize keysR (l.take k) = q at *
    have HQl := Lib.hid hql
    have hba : Below wo.heap.size wo (wo.alloc (.cells #[S x.part, .int .i64 x.key, .int .i64 x.val] 106)) := (Below.refl _ _).alloc (Nat.le_refl _) _
    have CR := Lib.hid (fun W (h : Below (wo.alloc (.cells #[S x.part, .int .i64 x.key, .int .i64 x.val] 106)).heap.size (wo.alloc (.cells #[S x.part, .int .i64 x.key, .int .i64 x.val] 106)) W) => rowCells (r := x) (w := wo) rfl h)
    have HO3 := Lib.hid (hown.below hba)
    have hb3 := hb.trans (hba.mono hb.size)
    clear hql hown hxk
    go_upto_region 5 with fail
    generalize wo.alloc (.cells #[S x.part, .int .i64 x.key, .int .i64 x.val] 106) = w3 at *
    obtain ⟨d0, d1, d2⟩ := CR.out _ (Below.refl _ _)
    go_wp2_with (at_builtin; refine wpList_app rfl _ _ _ rfl w.heap.size elInt va q.length _ rfl (HO3.out.alloc _) (.slice (some ⟨w3.heap.size, 0, none⟩) 1 1) 1 (encI x.key) rfl (src_one rfl rfl (by simp [Value.oneCell'])) (by rw [HQl.out]; unfold maxLen; omega) (by rw [HQl.out]; omega) (by have := hb3.size; simp; omega) ?_; intro v5 w5 hown5 hg5 _)
    go_roundw
    case rel => exact ⟨k + 1, _, by omega, by go_num, rfl, by rw [HSn.out]; exact Own.snoc hown5, Bapp (hb3.alloc hb3.size _) (HO3.out.alloc _) hg5 (Nat.le_refl _) (by have := hb3.size; simp; omega)⟩
    case measure => simp [intOf]; omega
theorem makeE_full {l : List Rw} (h : 40 < l.length) : makeE l = .bare 8 := if_pos h
theorem makeE_bad {l : List Rw} {k : Nat} {x : Rw} (h : ¬ 40 < l.length) (hk : l[k]? = some x) (hj : ∀ j < k, rowF l j = 0) (hx : rowCheck x ≠ 0) : makeE l = .loc (rowCheck x) k := by
  have e : rowF l k = rowCheck x := by unfold rowF; rw [hk]
  unfold makeE
  rw [if_neg h, firstErr_hit (List.getElem?_eq_some_iff.1 hk).1 hj (by rw [e]; exact hx), e]
theorem makeE_fine {l : List Rw} (h : ¬ 40 < l.length) (hj : ∀ j < l.length, rowF l j = 0) : makeE l = .nil := by
  unfold makeE
  rw [if_neg h, firstErr_all hj]
theorem makeT_bad {l : List Rw} (h : makeE l ≠ .nil) : makeT l = [] := if_neg h
theorem makeT_fine {l : List Rw} (h : makeE l = .nil) : makeT l = wholeT kData (keysR l) (bodyT ((sortR l).map rowLine)) := if_pos h
theorem rowLine_part {r : Rw} (h : rowCheck r = 0) : r.part.length ≤ 60 := by
  have h1 := rowLine_len' h
  unfold rowLine at h1
  rw [List.length_append] at h1
  omega
theorem rowText_fine {r : Rw} (h : rowCheck r = 0) : rowText r = rowLine r := if_pos h
end Go.Proofs.YtpfohfihkmjnaaaGreatDoor
namespace Go.Proofs.YtpfohfihkmjnaaaGreatDoor
open Go.RowKit Go.Shelf Go.Sort
end Go.Proofs.YtpfohfihkmjnaaaGreatDoor
namespace Go.Proofs.YtpfohfihkmjnaaaGreatDoor
open Go.RowKit
theorem Own.stays3 {α : Type} {enc : α → List Value} {sz : Nat} {w w' : World} {v : Value} {l : List α} {e : TypeId} {B : Nat} (hen : Enc enc sz) (h : Own enc e sz B w v l) (hw : ∀ p : Addr, B ≤ p.block → p.block < w.heap.size → w'.cell? p = w.cell? p) : At enc sz w' v l := by
  rcases Nat.eq_zero_or_pos l.length with h0 | h0
  · obtain ⟨a, c, b, o, hv, ha, hc, hm, hx⟩ := h.at hen
    exact ⟨a, c, b, o, hv, ha, hc, hm, fun k x hk => absurd (List.getElem?_eq_some_iff.1 hk).1 (by omega)⟩
  · obtain ⟨g', cap, cur, rfl, hB, _, hc, hm, _, _⟩ := h.open h0
    refine ⟨_, cap, g', 0, rfl, fun _ => rfl, hc, hm, fun k x hk j u hu => ?_⟩
    have h1 := h.cells hen k x hk j u hu
    rw [Nat.zero_add]
    exact (hw ⟨g', k * sz + j, none⟩ hB (World.block_lt_of_cell? w _ h1)).trans h1
/-- Integers that lie where nothing lay before: whatever turns what lay there leaves them. -/
def FarI (B : Nat) (w : World) (v : Value) (l : List Int) : Prop := ∀ W : World, (∀ p : Addr, B ≤ p.block → p.block < w.heap.size → W.cell? p = w.cell? p) → IntsAt W v l
theorem FarI.here {B : Nat} {w : World} {v : Value} {l : List Int} (h : FarI B w v l) : IntsAt w v l := h w fun _ _ _ => rfl
theorem goneHas_any (v : Value) (l : List Int) (x : Int) (w : World) (hl : IntsAt w v l) (hn : l.length ≤ 100000) (hup : upI l) :
    Calls Tryz.prog 54 #[v, .int .i64 x] w fun e w' => e = .returned (.bool (decide (x ∈ l))) ∧ Below w.heap.size w w' := by
  obtain ⟨a, c, b, o, rfl, ha, hc, hcm, hx⟩ := hl
  rcases Nat.eq_zero_or_pos l.length with h0 | hpos
  · obtain rfl := List.eq_nil_of_length_eq_zero h0
    go_enter Tryz.func54, Tryz.ntmps54
    go_wp2_with fail
    refine (Tryz.slices_BinarySearch_int_empty a c x w).mono ?_
    rintro e w1 ⟨rfl, rfl⟩
    go_wp2_with fail
    go_ret
    exact ⟨ret_bool (by simp), Below.refl _ _⟩
  · obtain rfl := ha hpos
    have HS := Lib.hid (Tryz.slices_BinarySearch_int b o l.length c l x w (Nat.le_refl _) (by omega) (fun j hj => by
      have := hx j _ (getD_of hj) 0 _ rfl
      simpa using this) (by rw [List.take_length]; exact hup.imp fun {a b} h => Int.le_of_lt h))
    rw [List.take_length] at HS
    clear hx
    go_enter Tryz.func54, Tryz.ntmps54
    go_wp2_with fail
    refine HS.out.mono ?_
    rintro e w1 ⟨rfl, q, rfl⟩
    go_wp2_with fail
    go_ret
    exact ⟨ret_bool (by simp), Bdn (Below.refl _ _) _⟩
theorem goneBad_none {ls : List Str} {i : Nat} {s : Str} (h : ls[i]? = some s) (hn : numOf s = none) : goneBad ls i = 1 := by
  unfold goneBad; rw [h]; simp only; rw [hn]; rfl
theorem goneBad_far {ls : List Str} {i : Nat} {s : Str} {k : Int} (h : ls[i]? = some s) (hn : numOf s = some k) (hf : farN k) : goneBad ls i = 2 := by
  have e : numD s = k := by unfold numD; rw [hn]; rfl
  unfold goneBad; rw [h]; simp only; rw [hn, e]; simp only [Option.isNone_some, Bool.false_eq_true, if_false]; rw [if_pos hf]
theorem goneBad_near {ls : List Str} {i : Nat} {s : Str} {k : Int} (h : ls[i]? = some s) (hn : numOf s = some k) (hf : ¬ farN k) : goneBad ls i = if 0 < i ∧ ∃ t, ls[i - 1]? = some t ∧ k ≤ numD t then 9 else 0 := by
  have e : numD s = k := by unfold numD; rw [hn]; rfl
  unfold goneBad; rw [h]; simp only; rw [hn, e]; simp only [Option.isNone_some, Bool.false_eq_true, if_false]; rw [if_neg hf]
/-- Where the reading stands: the box holds the numbers of the lines read. -/
def GJ (ls : List Str) (O : Nat) (i : Nat) (W : World) : Prop := ∃ v, Boxed W O 69 v ∧ Own encI 3 1 O W v ((ls.take i).map numD)
set_option maxHeartbeats 2000000 in
set_option maxRecDepth 20000 in
theorem goneRead1_any (E : Nat → Addr) (B : Nat) (ls : List Str) (O i : Nat) (s : Str) (w : World) (hE : Errs [1, 2, 9] E B w) (hT : LNum B w) (hs : ls[i]? = some s) (hJ : GJ ls O i w) (hn : ls.length ≤ 100000) (hsl : s.length ≤ 100000) :
    Calls Tryz.prog 137 #[.int .i64 i, S s, .pointer (some ⟨O, 0, none⟩)] w fun e w' => ∃ ev, e = .returned ev ∧ ErV E w' ev (erOf (goneBad ls i)) ∧ (goneBad ls i = 0 → GJ ls O (i + 1) w') ∧ Below O w w' := by
  have hBw := hE.le
  obtain ⟨v, hv, hown⟩ := hJ
  have hO : O < w.heap.size := hv.lt
  have hE1 := fun w1 (hb : Below w.heap.size w w1) => (⟨(hE.below' hb hBw).var 1 (by decide), (hE.below' hb hBw).var 2 (by decide), (hE.below' hb hBw).var 9 (by decide)⟩ : _ ∧ _ ∧ _)
  simp only [errG] at hE1
  have HE1 := Lib.hid hE1
  have hlen : ((ls.take i).map numD).length = i := by rw [List.length_map, List.length_take]; have := (List.getElem?_eq_some_iff.1 hs).1; omega
  have hi1 := (List.getElem?_eq_some_iff.1 hs).1
  have HN := Lib.hid (number_any B s w hT hsl)
  have hsn : (ls.take (i + 1)).map numD = (ls.take i).map numD ++ [numD s] := by rw [take_snoc' hs, List.map_append]; rfl
  have HB1 := Lib.hid (goneBad_none hs)
  have HB2 := Lib.hid (fun k => @goneBad_far ls i s k hs)
  have HB3 := Lib.hid (fun k => @goneBad_near ls i s k hs)
  have hprev : ∀ y, 0 < i → ((ls.take i).map numD)[i - 1]? = some y → ((∃ t, ls[i - 1]? = some t ∧ numD s ≤ numD t) ↔ numD s ≤ y) := fun y h0 hy => by
    rw [List.getElem?_map, List.getElem?_take_of_lt (by omega)] at hy
    cases ht : ls[i - 1]? with
    | none => rw [ht] at hy; cases hy
    | some t =>
      rw [ht] at hy
      cases hy
      exact ⟨fun ⟨t', e, h⟩ => by cases e; exact h, fun h => ⟨t, rfl, h⟩⟩
  obtain ⟨q, hq⟩ : ∃ q, (ls.take i).map numD = q := ⟨_, rfl⟩
  rw [hq] at hown hlen hsn hprev
  have HSn := Lib.hid hsn
  have HPrev := Lib.hid hprev
  have HLen := Lib.hid hlen
  obtain ⟨atn, hat⟩ : ∃ m, atoiN s = m := ⟨_, rfl⟩
  obtain ⟨o, ho⟩ : ∃ o, numOf s = o := ⟨_, rfl⟩
  have hom : ∀ n, o = some n → atn = n := fun n h => by rw [← hat, ← numOf_atoiN (ho.trans h)]
  have hnd : ∀ n, o = some n → numD s = n := fun n h => by unfold numD; rw [ho, h]; rfl
  rw [hat, ho] at HN
  rw [ho] at HB1
  simp only [ho] at HB2 HB3
  have HHnd := Lib.hid hnd
  clear hE1 hs hsn hprev hat ho hnd hq hlen
  go_enter Tryz.func137, Tryz.ntmps137
  go_wp2_with fail
  refine HN.out.mono ?_
  rintro e w1 ⟨rfl, hb1⟩
  obtain ⟨v1, v2, v3⟩ := HE1.out _ hb1
  cases o with
  | none =>
    have hbad : goneBad ls i = 1 := HB1.out rfl
    have HBad := Lib.hid hbad
    clear hbad hom
    simp only [Option.isSome_none]
    go_wp2_with fail
    go_ret
    exact ⟨_, rfl, by rw [HBad.out]; exact ⟨by decide, rfl⟩, fun h => (by rw [HBad.out] at h; cases h), hb1.mono (by omega)⟩
  | some k =>
    obtain rfl := hom k rfl
    have hnk := HHnd.out atn rfl
    simp only [Option.isSome_some]
    clear hom HHnd
    rw [hnk] at HSn HPrev
    clear hnk
    by_cases hf : farN atn
    case pos =>
      have hbad : goneBad ls i = 2 := HB2.out atn rfl hf
      have hd : decide (farN atn) = true := decide_eq_true hf
      have HBad := Lib.hid hbad
      clear hbad hf
      go_wp2_with (first | (go_at_call 127; refine (far_any _ _).mono ?_; rintro e w' ⟨rfl, rfl⟩; rw [hd]))
      go_ret
      exact ⟨_, rfl, by rw [HBad.out]; exact ⟨by decide, rfl⟩, fun h => (by rw [HBad.out] at h; cases h), hb1.mono (by omega)⟩
    have hd : decide (farN atn) = false := decide_eq_false hf
    have hbad := HB3.out atn rfl hf
    have HBad := Lib.hid hbad
    have hown1 := hown.below hb1
    have hv1 : Boxed w1 O 69 v := (hb1.block O hO).trans hv
    have hb1' : Below O w w1 := hb1.mono (by omega)
    have hO1 : O ≤ w1.heap.size := Nat.le_trans (by omega) hb1.size
    clear hbad hf HB1 HB2 HB3 hown hv
    have hbx := hv1.cell
    by_cases h0 : 0 < i
    case' pos =>
      obtain ⟨g, cap, cur, rfl, -⟩ := hown1.open (by rw [HLen.out]; exact h0)
      obtain ⟨y, hy⟩ := get_ex (l := q) (k := i - 1) (by rw [HLen.out]; omega)
      have hyc := hown1.cells1 (f := Value.int .i64) encI_enc (fun _ => rfl) (i - 1) y hy
      have hpv := HPrev.out y h0 hy
      have i2 := idx_at (n := q.length) (c := cap) (b := g) (o := 0) 1 Tryz.underlying69 szInt (fun _ => rfl) (i - 1) (by rw [HLen.out]; omega)
      have hcast : ((i - 1 : Nat) : Int) = (i : Int) - 1 := by omega
      simp only [hcast, Nat.mul_one, Nat.zero_add] at i2
      have hp1 : (0 : Int) < (i : Int) := by omega
      have hs0 : (0 : Int) ≤ (i : Int) - 1 := by omega
      have hs1 : (i : Int) - 1 < (q.length : Int) := by rw [HLen.out]; omega
      clear hy hcast
      by_cases hle : atn ≤ y
      case pos =>
        have HBad9 : Hid (goneBad ls i = 9) := Lib.hid (by rw [HBad.out, if_pos ⟨h0, hpv.2 hle⟩])
        clear hpv
        go_wp2_with (first | (go_at_call 127; refine (far_any _ _).mono ?_; rintro e w' ⟨rfl, rfl⟩; rw [hd]))
        go_ret
        exact ⟨_, rfl, by rw [HBad9.out]; exact ⟨by decide, rfl⟩, fun h => (by rw [HBad9.out] at h; cases h), hb1'⟩
      have hle2 : decide (atn ≤ y) = false := by simpa using hle
      have HBad0 : Hid (goneBad ls i = 0) := Lib.hid (by rw [HBad.out, if_neg (fun h => hle (hpv.1 h.2))])
      clear hpv hle
    case' neg =>
      have hp0 : decide ((0 : Int) < (i : Int)) = false := by simp; omega
      have HBad0 : Hid (goneBad ls i = 0) := Lib.hid (by rw [HBad.out, if_neg (fun h => h0 h.1)])
    all_goals
      go_wp2_with (first
        | (go_at_call 127; refine (far_any _ _).mono ?_; rintro e w' ⟨rfl, rfl⟩; rw [hd])
        | (at_builtin; refine wpList_app rfl _ _ _ rfl O elInt _ q.length _ rfl (hown1.alloc _) (.slice (some ⟨w1.heap.size, 0, none⟩) 1 1) 1 (encI atn) rfl (src_one rfl rfl (by simp [Value.oneCell'])) (by rw [HLen.out]; unfold maxLen; omega) (by rw [HLen.out]; omega) (by simp; omega) ?_; intro v' w2 hown2 hg2 _; obtain ⟨g', cap', rfl⟩ := ownsRow_succ hown2; obtain ⟨hq1, hq2, hq3, hq4, hq5⟩ := hv1.appended (by decide) hown1 hO1 (Nat.le_refl _) hown2 hg2; have hc1 := hq1.cell; have hf1 := hq1.frozen))
      go_ret
      exact ⟨_, rfl, by rw [HBad0.out]; rfl, fun _ => ⟨_, hq2, by rw [HSn.out]; exact Own.snoc hq3⟩, hb1'.trans hq5⟩
theorem readEr_split {word s : Str} {bad : List Str → Nat → Nat} {keys : List Str → List Int} (h : splitE word s ≠ .nil) : readEr word s bad keys = splitE word s := if_pos h
theorem readEr_each {word s : Str} {bad : List Str → Nat → Nat} {keys : List Str → List Int} (h : splitE word s = .nil) (h2 : eachEr (bad (splitL s)) (splitL s) ≠ .nil) : readEr word s bad keys = eachEr (bad (splitL s)) (splitL s) := by
  unfold readEr; rw [if_neg (by simpa using h), if_pos h2]
theorem readEr_full {word s : Str} {bad : List Str → Nat → Nat} {keys : List Str → List Int} (h : splitE word s = .nil) (h2 : eachEr (bad (splitL s)) (splitL s) = .nil) (h3 : 40 < (keys (splitL s).dropLast).length) : readEr word s bad keys = .bare 8 := by
  unfold readEr; rw [if_neg (by simpa using h), if_neg (by simpa using h2), if_pos h3]
theorem readEr_last {word s : Str} {bad : List Str → Nat → Nat} {keys : List Str → List Int} (h : splitE word s = .nil) (h2 : eachEr (bad (splitL s)) (splitL s) = .nil) (h3 : ¬ 40 < (keys (splitL s).dropLast).length) : readEr word s bad keys = if fitsI (splitN word s) (keys (splitL s).dropLast) then .nil else .bare 3 := by
  unfold readEr; rw [if_neg (by simpa using h), if_neg (by simpa using h2), if_neg h3]
theorem splitN_four {word s : Str} (h : splitE word s = .nil) : ∃ n0 n1 n2 n3, splitN word s = [n0, n1, n2, n3] := by
  unfold splitE at h
  split at h
  · cases h
  cases hn : headN word s with
  | none => rw [hn] at h; cases h
  | some n =>
    obtain ⟨n0, n1, n2, n3, rfl, -⟩ := headN_some hn
    exact ⟨n0, n1, n2, n3, by unfold splitN; rw [hn]; rfl⟩
theorem splitL_len {s : Str} {m : Nat} (h : s.length ≤ m) : (splitL s).length ≤ m + 1 ∧ ∀ x ∈ splitL s, x.length ≤ m := by
  have hc := (cut_len s [10]).2
  unfold splitL
  constructor
  · rw [cutAt_length]
    have h2 : (Lib.cut s [10]).2.1.count 10 ≤ (Lib.cut s [10]).2.1.length := List.count_le_length
    omega
  · intro x hx
    have := cutAt_mem_len (c := 10) hx
    omega
set_option maxHeartbeats 2000000 in
set_option maxRecDepth 20000 in
theorem goneReadFar_any (E : Nat → Addr) (B : Nat) (s : Str) (w : World) (hE : Errs [1, 2, 3, 8, 9, 10] E B w) (hT : LNum B w) (hM : LMax B w) (hs : s.length ≤ 50000) :
    Calls Tryz.prog 97 #[S s] w fun e w' => ∃ u ev, e = .returned (.tuple #[u, ev]) ∧ ErV E w' ev (goneE s) ∧ FarI w.heap.size w' u (goneL s) ∧ Below w.heap.size w w' := by
  have hBw := hE.le
  have hif := isIfaceE
  have hE1 := fun w1 (hb : Below w.heap.size w w1) => (⟨(hE.below' hb hBw).var 3 (by decide), (hE.below' hb hBw).var 8 (by decide)⟩ : _ ∧ _)
  simp only [errG] at hE1
  have HE1 := Lib.hid hE1
  have X := Lib.hid (fun W (h : Below w.heap.size w W) => (⟨hE.below' h hBw, hT.below' h hBw, hM.below' h hBw⟩ : Errs [1, 2, 3, 8, 9, 10] E B W ∧ LNum B W ∧ LMax B W))
  obtain ⟨hll, hlm⟩ := splitL_len hs
  have HS := Lib.hid (dataSplit_any E B kGone s w (hE.sub (by decide)) hT hM (by omega))
  have hG : goneE s = readEr kGone s goneBad (fun l => l.map numD) := rfl
  have hL : goneL s = if goneE s = .nil then (splitL s).dropLast.map numD else [] := rfl
  have HL := Lib.hid hL
  have HG := Lib.hid hG
  have HLm := Lib.hid hlm
  have HF4 := Lib.hid (@splitN_four kGone s)
  have H1 := Lib.hid (@readEr_split kGone s goneBad (fun l => l.map numD))
  have H2 := Lib.hid (@readEr_each kGone s goneBad (fun l => l.map numD))
  have H3 := Lib.hid (@readEr_full kGone s goneBad (fun l => l.map numD))
  have H4 := Lib.hid (@readEr_last kGone s goneBad (fun l => l.map numD))
  clear hG hL hE1 hlm
  generalize splitN kGone s = ns at *
  generalize splitL s = ls at *
  go_enter Tryz.func97, Tryz.ntmps97
  go_wp2_with fail
  refine HS.out.mono ?_
  rintro e w1 ⟨vn, vl, ev, rfl, hev, hgood, hb1⟩
  by_cases h0 : splitE kGone s = .nil
  case neg =>
    obtain ⟨t1, x1, rfl⟩ := hev.iface h0
    have hGe : goneE s = splitE kGone s := HG.out.trans (H1.out h0)
    have HGe := Lib.hid hGe
    have HLe : Hid (goneL s = []) := Lib.hid (by rw [HL.out, hGe, if_neg h0])
    clear h0 hgood hGe
    go_wp2_with fail
    go_ret2
    exact ⟨_, _, rfl, by rw [HGe.out]; exact hev, fun _ _ => (by rw [HLe.out]; exact At.nil _ _ _), hb1⟩
  rw [h0] at hev
  obtain rfl : ev = .nilIface := hev
  obtain ⟨hon, hol⟩ := hgood h0
  obtain ⟨n0, n1, n2, n3, hns⟩ := HF4.out h0
  have H0 := Lib.hid h0
  have HNs := Lib.hid hns
  have hat := hol.at encS_enc
  have hba : Below w1.heap.size w1 (w1.alloc (.cells #[.slice none 0 0] 69)) := (Below.refl _ _).alloc (Nat.le_refl _) _
  have hbA := hb1.trans (hba.mono hb1.size)
  have hEa := dataEach_any E B vl ls 137 #[.pointer (some ⟨w1.heap.size, 0, none⟩)] (goneBad ls) (GJ ls w1.heap.size) w1.heap.size _ ((X.out _ hbA).1.sub (by decide)) (Nat.le_trans hBw hb1.size) (by simp) (enters_of Tryz.func137 (by kernel_rfl) rfl) w1 hat (Nat.le_refl _) hba (by omega)
    ⟨_, Boxed.new w1 69 (.slice none 0 0), Own.nil _ _ _ _ _⟩
    (fun i x W hx hJ hbW => by
      have hbW' := hbA.trans (hbW.mono hb1.size)
      have := goneRead1_any E B ls w1.heap.size i x W ((X.out _ hbW').1.sub (by decide)) (X.out _ hbW').2.1 hx hJ (by omega) (by have := HLm.out x (List.mem_of_getElem? hx); omega)
      exact this)
  have HEa := Lib.hid hEa
  have HOn := Lib.hid hon
  clear hEa hgood hol hat h0 hns hon
  go_wp2_with fail
  refine HEa.out.mono ?_
  rintro e w2 ⟨ev, rfl, hev, hJ, hb2⟩
  have hb12 := hba.trans hb2
  have hb2' := hb1.trans (hb12.mono hb1.size)
  by_cases he : eachEr (goneBad ls) ls = .nil
  case neg =>
    obtain ⟨t1, x1, rfl⟩ := hev.iface he
    have hGe : goneE s = eachEr (goneBad ls) ls := HG.out.trans (H2.out H0.out he)
    have HGe := Lib.hid hGe
    have HLe : Hid (goneL s = []) := Lib.hid (by rw [HL.out, hGe, if_neg he])
    clear he hJ hGe
    go_wp2_with fail
    go_ret2
    exact ⟨_, _, rfl, by rw [HGe.out]; exact hev, fun _ _ => (by rw [HLe.out]; exact At.nil _ _ _), hb2'⟩
  rw [he] at hev
  obtain rfl : ev = .nilIface := hev
  obtain ⟨v, hv, hown⟩ := hJ he
  rw [← List.dropLast_eq_take] at hown
  have H3' := Lib.hid (H3.out H0.out he)
  have H4' := Lib.hid (H4.out H0.out he)
  obtain ⟨keys, hkeys⟩ : ∃ keys, ls.dropLast.map numD = keys := ⟨_, rfl⟩
  rw [hkeys] at hown HL H3' H4'
  obtain ⟨a, c, rfl, -, -⟩ := (hown.at encI_enc).form'
  have hbx := hv.cell
  have HOwn := Lib.hid hown
  have hkl : keys.length ≤ 60000 := by rw [← hkeys, List.length_map, List.length_dropLast]; omega
  obtain ⟨v3, v8⟩ := HE1.out _ hb2'
  clear he hkeys hown HEa
  by_cases h40 : 40 < keys.length
  case pos =>
    have g : (40 : Int) < (keys.length : Int) := by omega
    have hGe : goneE s = .bare 8 := HG.out.trans (H3'.out h40)
    have HGe := Lib.hid hGe
    have HLe : Hid (goneL s = []) := Lib.hid (by rw [HL.out, hGe]; rfl)
    clear h40 hGe
    go_wp2_with fail
    go_quiet (fail)
    go_wp2_with fail
    go_ret2
    exact ⟨_, _, rfl, by rw [HGe.out]; exact ⟨by decide, rfl⟩, fun _ _ => (by rw [HLe.out]; exact At.nil _ _ _), Bdn hb2' _⟩
  have g : decide ((40 : Int) < (keys.length : Int)) = false := by simp; omega
  have hGe := HG.out.trans (H4'.out h40)
  have hFi := dataFits_any vn n0 n1 n2 n3 _ keys w2 (by have := (HOn.out.below hb12).at encI_enc; rwa [HNs.out] at this) (HOwn.out.at encI_enc) (by omega)
  rw [← HNs.out] at hFi
  have HGe := Lib.hid hGe
  have HFi := Lib.hid hFi
  clear h40 hGe hFi
  by_cases hf : fitsI ns keys
  case neg =>
    have hGe : goneE s = .bare 3 := by rw [HGe.out, if_neg hf]
    have HGe3 := Lib.hid hGe
    have HLe : Hid (goneL s = []) := Lib.hid (by rw [HL.out, hGe]; rfl)
    rw [decide_eq_false hf] at HFi
    clear hf hGe
    go_wp2_with fail
    refine HFi.out.mono ?_
    rintro e w3 ⟨rfl, hb3⟩
    have hb3' := hb2'.trans (hb3.mono hb2'.size)
    clear v3 v8
    obtain ⟨v3, v8⟩ := HE1.out _ hb3'
    go_wp2_with fail
    go_quiet (fail)
    go_wp2_with fail
    go_ret2
    exact ⟨_, _, rfl, by rw [HGe3.out]; exact ⟨by decide, rfl⟩, fun _ _ => (by rw [HLe.out]; exact At.nil _ _ _), Bdn hb3' _⟩
  have hGe : goneE s = .nil := by rw [HGe.out, if_pos hf]
  have HGe3 := Lib.hid hGe
  have HLe : Hid (goneL s = keys) := Lib.hid (by rw [HL.out, hGe, if_pos rfl])
  rw [decide_eq_true hf] at HFi
  clear hf hGe
  go_wp2_with fail
  refine HFi.out.mono ?_
  rintro e w3 ⟨rfl, hb3⟩
  have hb3' := hb2'.trans (hb3.mono hb2'.size)
  have hbx3 := (hb3.cell hv.lt).trans hbx
  clear hbx
  go_wp2_with fail
  go_ret2
  exact ⟨_, _, rfl, by rw [HGe3.out]; rfl, fun W hW => (by rw [HLe.out]; exact Own.stays3 encI_enc (HOwn.out.below hb3) (fun p hp hp2 => hW p (Nat.le_trans hb1.size hp) hp2)), hb3'⟩
theorem goneRead_any (E : Nat → Addr) (B : Nat) (s : Str) (w : World) (hE : Errs [1, 2, 3, 8, 9, 10] E B w) (hT : LNum B w) (hM : LMax B w) (hs : s.length ≤ 50000) :
    Calls Tryz.prog 97 #[S s] w fun e w' => ∃ u ev, e = .returned (.tuple #[u, ev]) ∧ ErV E w' ev (goneE s) ∧ IntsAt w' u (goneL s) ∧ Below w.heap.size w w' :=
  (goneReadFar_any E B s w hE hT hM hs).mono fun _ _ ⟨u, ev, h1, h2, h3, h4⟩ => ⟨u, ev, h1, h2, h3.here, h4⟩
end Go.Proofs.YtpfohfihkmjnaaaGreatDoor
namespace Go.Proofs.YtpfohfihkmjnaaaGreatDoor
open Go.RowKit
theorem dataBad_row {ls : List Str} {i : Nat} {s : Str} (h : ls[i]? = some s) (hc : (rowRead s).2 ≠ 0) : dataBad ls i = (rowRead s).2 := by
  unfold dataBad; rw [h]; simp only; rw [if_pos hc]
theorem dataBad_fine {ls : List Str} {i : Nat} {s : Str} (h : ls[i]? = some s) (hc : (rowRead s).2 = 0) : dataBad ls i = if 0 < i ∧ ∃ t, ls[i - 1]? = some t ∧ lessR (rowD s) (rowD t) = true then 9 else 0 := by
  unfold dataBad; rw [h]; simp only; rw [if_neg (fun h => h hc)]
/-- Where the reading stands: the box holds the rows of the lines read. -/
def DJ (ls : List Str) (O : Nat) (i : Nat) (W : World) : Prop := ∃ v, Boxed W O 44 v ∧ Own encR 106 3 O W v ((ls.take i).map rowD)
set_option maxHeartbeats 4000000 in
set_option maxRecDepth 20000 in
theorem dataRead1_any (E : Nat → Addr) (B : Nat) (ls : List Str) (O i : Nat) (s : Str) (w : World) (hE : Errs [1, 2, 5, 9] E B w) (hT : LNum B w) (hM : LMax B w) (hs : ls[i]? = some s) (hJ : DJ ls O i w) (hn : ls.length ≤ 100000) (hsl : s.length ≤ 10000) :
    Calls Tryz.prog 140 #[.int .i64 i, S s, .pointer (some ⟨O, 0, none⟩)] w fun e w' => ∃ ev, e = .returned ev ∧ ErV E w' ev (erOf (dataBad ls i)) ∧ (dataBad ls i = 0 → DJ ls O (i + 1) w') ∧ Below O w w' := by
  have hBw := hE.le
  have hif := isIfaceE
  obtain ⟨v, hv, hown⟩ := hJ
  have hO : O < w.heap.size := hv.lt
  have hE1 := fun w1 (hb : Below w.heap.size w w1) => (hE.below' hb hBw).var 9 (by decide)
  simp only [errG] at hE1
  have HE1 := Lib.hid hE1
  have hlen : ((ls.take i).map rowD).length = i := by rw [List.length_map, List.length_take]; have := (List.getElem?_eq_some_iff.1 hs).1; omega
  have hi1 := (List.getElem?_eq_some_iff.1 hs).1
  have HN := Lib.hid (rowRead_any E B s w (hE.sub (by decide)) hT hM hsl)
  have hsn : (ls.take (i + 1)).map rowD = (ls.take i).map rowD ++ [rowD s] := by rw [take_snoc' hs, List.map_append]; rfl
  have HB1 := Lib.hid (dataBad_row hs)
  have HB2 := Lib.hid (dataBad_fine hs)
  have hprev : ∀ y, 0 < i → ((ls.take i).map rowD)[i - 1]? = some y → ((∃ t, ls[i - 1]? = some t ∧ lessR (rowD s) (rowD t) = true) ↔ lessR (rowD s) y = true) := fun y h0 hy => by
    rw [List.getElem?_map, List.getElem?_take_of_lt (by omega)] at hy
    cases ht : ls[i - 1]? with
    | none => rw [ht] at hy; cases hy
    | some t =>
      rw [ht] at hy
      cases hy
      exact ⟨fun ⟨t', e, h⟩ => by cases e; exact h, fun h => ⟨t, rfl, h⟩⟩
  obtain ⟨q, hq⟩ : ∃ q, (ls.take i).map rowD = q := ⟨_, rfl⟩
  rw [hq] at hown hlen hsn hprev
  have HSn := Lib.hid hsn
  have HPrev := Lib.hid hprev
  have HLen := Lib.hid hlen
  have hxd : rowD s = (rowRead s).1 := rfl
  rw [hxd] at HSn HPrev HB2
  obtain ⟨x, hx⟩ : ∃ x, (rowRead s).1 = x := ⟨_, rfl⟩
  obtain ⟨c, hc⟩ : ∃ c, (rowRead s).2 = c := ⟨_, rfl⟩
  rw [hx] at HSn HPrev HB2 HN
  rw [hc] at HB1 HB2 HN
  clear hE1 hs hsn hprev hq hlen hxd hx hc
  go_enter Tryz.func140, Tryz.ntmps140
  go_wp2_with fail
  refine HN.out.mono ?_
  rintro e w1 ⟨ev, rfl, hev, hb1⟩
  have hba : Below w1.heap.size w1 (w1.alloc (.cells #[S x.part, .int .i64 x.key, .int .i64 x.val] 106)) := (Below.refl _ _).alloc (Nat.le_refl _) _
  have hb2 := hb1.trans (hba.mono hb1.size)
  by_cases h0 : c = 0
  case neg =>
    have HBad : Hid (dataBad ls i = c) := Lib.hid (HB1.out h0)
    have hev' : ErV E w1 ev (.bare c) := by unfold erOf at hev; rwa [if_neg h0] at hev
    obtain ⟨t1, x1, rfl⟩ := hev'.iface (by simp)
    have HEv := Lib.hid (hev.below hba)
    have HC0 := Lib.hid h0
    clear hev hev' h0
    go_wp2_with fail
    go_ret
    exact ⟨_, rfl, by rw [HBad.out]; exact HEv.out, fun h => absurd (HBad.out.symm.trans h) HC0.out, hb2.mono (Nat.le_of_lt hO)⟩
  subst h0
  have hev' : ev = .nilIface := by unfold erOf at hev; rw [if_pos rfl] at hev; exact hev
  subst hev'
  have CR := Lib.hid (fun W (h : Below (w1.alloc (.cells #[S x.part, .int .i64 x.key, .int .i64 x.val] 106)).heap.size (w1.alloc (.cells #[S x.part, .int .i64 x.key, .int .i64 x.val] 106)) W) => rowCells (r := x) (w := w1) rfl h)
  have HBad := Lib.hid (HB2.out rfl)
  clear hev HB1 HB2 HN hba
  go_upto_region 4 with fail
  generalize w1.alloc (.cells #[S x.part, .int .i64 x.key, .int .i64 x.val] 106) = w2 at *
  obtain ⟨d0, d1, d2⟩ := CR.out _ (Below.refl _ _)
  by_cases h0 : 0 < i
  case neg =>
    have hp0 : decide ((0 : Int) < (i : Int)) = false := by simp; omega
    have HBad0 : Hid (dataBad ls i = 0) := Lib.hid (by rw [HBad.out, if_neg (fun h => h0 h.1)])
    have hv2 : Boxed w2 O 44 v := (hb2.block O hO).trans hv
    have hbx := hv2.cell
    have hp0' : decide (0 < i) = false := by simp; omega
    go_wp2_with fail
    go_quiet (fail)
    clear hbx hv2
    have hown3 := hown.below (Bdn hb2 nq)
    have hv3 : Boxed (w2.drewN nq) O 44 v := (((Bdn hb2 nq)).block O hO).trans hv
    have hbO := (Bdn hb2 nq).mono (Nat.le_of_lt hO)
    have hO3 : O ≤ w2.heap.size := Nat.le_trans (Nat.le_of_lt hO) hbO.size
    have hbx := hv3.cell
    clear hown hv
    go_wp2_with (at_builtin; refine wpList_app rfl _ _ _ rfl O elRw _ q.length _ rfl (hown3.alloc _) (.slice (some ⟨w2.heap.size, 0, none⟩) 1 1) 1 (encR x) rfl (src_one rfl rfl (by simp [Value.oneCell'])) (by rw [HLen.out]; unfold maxLen; omega) (by rw [HLen.out]; omega) (by simp; omega) ?_; intro v' w5 hown5 hg5 _; obtain ⟨g5, cap5, rfl⟩ := ownsRow_succ hown5; obtain ⟨hq1, hq2, hq3, hq4, hq5⟩ := hv3.appended (by decide) hown3 hO3 (Nat.le_refl _) hown5 hg5; have hc1 := hq1.cell; have hf1 := hq1.frozen)
    go_ret
    exact ⟨_, rfl, by rw [HBad0.out]; rfl, fun _ => ⟨_, hq2, by rw [HSn.out]; exact Own.snoc hq3⟩, hbO.trans hq5⟩
  obtain ⟨g, cap, cur, rfl, -⟩ := hown.open (by rw [HLen.out]; exact h0)
  obtain ⟨y, hy⟩ := get_ex (l := q) (k := i - 1) (by rw [HLen.out]; omega)
  have hyc := fun j u hu => hown.cells encR_enc (i - 1) y hy j u hu
  have y0 := hyc 0 _ rfl
  have y1 := hyc 1 _ rfl
  have y2 := hyc 2 _ rfl
  simp only [Nat.add_zero] at y0 y1 y2
  have hbx0 := hv.cell
  have KC := Lib.hid (fun W (h : Below w.heap.size w W) => (⟨(h.cell (World.block_lt_of_cell? w _ y0)).trans y0, (h.cell (World.block_lt_of_cell? w _ y1)).trans y1, (h.cell (World.block_lt_of_cell? w _ y2)).trans y2, (h.cell (World.block_lt_of_cell? w _ hbx0)).trans hbx0⟩ : _ ∧ _ ∧ _ ∧ _))
  have hpv := HPrev.out y h0 hy
  have i2 := idx_at (n := q.length) (c := cap) (b := g) (o := 0) 3 Tryz.underlying44 szRw (fun _ => rfl) (i - 1) (by rw [HLen.out]; omega)
  have hcast : ((i - 1 : Nat) : Int) = (i : Int) - 1 := by omega
  simp only [hcast, Nat.zero_add] at i2
  have hp1 : (0 : Int) < (i : Int) := by omega
  have hs0 : (0 : Int) ≤ (i : Int) - 1 := by omega
  have hs1 : (i : Int) - 1 < (q.length : Int) := by rw [HLen.out]; omega
  have HLs := Lib.hid (fun W => rowLess_any x y W)
  have hbD : Below w2.heap.size w2 w2.drew := (Below.refl _ _).drew
  have hwk : IntKind.i64.wrap ((i : Int) - 1) = (i : Int) - 1 := by rw [IntKind.wrap_i64]; omega
  have hp4 : (1 : Int) ≤ (i : Int) := by omega
  have hp2 : decide ((0 : Int) < (i : Int)) = true := by simpa using h0
  have hp3 : decide (0 < i) = true := by simpa using h0
  clear d0 d1 d2
  obtain ⟨d0, d1, d2⟩ := CR.out _ hbD
  obtain ⟨cy0, cy1, cy2, cb⟩ := KC.out _ (hb2.trans (hbD.mono hb2.size))
  have H0 := Lib.hid h0
  have HPv := Lib.hid hpv
  clear hy hcast hyc y0 y1 y2 hbx0 hpv
  generalize lessR x y = less at *
  go_wp2_with fail
  go_region_held3 (fun w' => w'.cell? ⟨w1.heap.size, 0, none⟩ = some (S x.part) ∧ w'.cell? ⟨w1.heap.size, 1, none⟩ = some (.int .i64 x.key) ∧ w'.cell? ⟨w1.heap.size, 2, none⟩ = some (.int .i64 x.val) ∧ w'.cell? ⟨g, (i - 1) * 3, none⟩ = some (S y.part) ∧ w'.cell? ⟨g, (i - 1) * 3 + 1, none⟩ = some (.int .i64 y.key) ∧ w'.cell? ⟨g, (i - 1) * 3 + 2, none⟩ = some (.int .i64 y.val) ∧ w'.cell? ⟨O, 0, none⟩ = some (.slice (some ⟨g, 0, none⟩) q.length cap)) (exact ⟨d0, d1, d2, cy0, cy1, cy2, cb⟩) ((go_at_call 142; (with_reducible refine (HLs.out _).mono ?_); rintro e wq ⟨rfl, hbq⟩; have hbq' := hbD.trans (hbq.mono hbD.size); have hb4 := hb2.trans (hbq'.mono hb2.size); clear d0 d1 d2 cy0 cy1 cy2 cb; obtain ⟨d0, d1, d2⟩ := CR.out _ hbq'; obtain ⟨cy0, cy1, cy2, cb⟩ := KC.out _ hb4))
  all_goals
    cases less with
    | true =>
      have HBad9 : Hid (dataBad ls i = 9) := Lib.hid (by rw [HBad.out, if_pos ⟨H0.out, HPv.out.2 rfl⟩])
      have v9 := HE1.out _ hb4
      go_wp2_with fail
      go_ret
      exact ⟨_, rfl, by rw [HBad9.out]; exact ⟨by decide, rfl⟩, fun h => (by rw [HBad9.out] at h; cases h), hb4.mono (Nat.le_of_lt hO)⟩
    | false =>
      have HBad0 : Hid (dataBad ls i = 0) := Lib.hid (by rw [HBad.out, if_neg (fun h => Bool.false_ne_true (HPv.out.1 h.2))])
      clear cy0 cy1 cy2 cb
      have hown3 := hown.below hb4
      have hv3 : Boxed wq O 44 (.slice (some ⟨g, 0, none⟩) q.length cap) := ((hb4).block O hO).trans hv
      have hbO := hb4.mono (Nat.le_of_lt hO)
      have hO3 : O ≤ wq.heap.size := Nat.le_trans (Nat.le_of_lt hO) hbO.size
      have hbx := hv3.cell
      clear hown hv
      go_wp2_with (at_builtin; refine wpList_app rfl _ _ _ rfl O elRw _ q.length _ rfl (hown3.alloc _) (.slice (some ⟨wq.heap.size, 0, none⟩) 1 1) 1 (encR x) rfl (src_one rfl rfl (by simp [Value.oneCell'])) (by rw [HLen.out]; unfold maxLen; omega) (by rw [HLen.out]; omega) (by simp; omega) ?_; intro v' w5 hown5 hg5 _; obtain ⟨g5, cap5, rfl⟩ := ownsRow_succ hown5; obtain ⟨hq1, hq2, hq3, hq4, hq5⟩ := hv3.appended (by decide) hown3 hO3 (Nat.le_refl _) hown5 hg5; have hc1 := hq1.cell; have hf1 := hq1.frozen)
      go_ret
      exact ⟨_, rfl, by rw [HBad0.out]; rfl, fun _ => ⟨_, hq2, by rw [HSn.out]; exact Own.snoc hq3⟩, hbO.trans hq5⟩
/-- Rows that lie where nothing lay before: whatever turns what lay there leaves them. -/
def FarR (B : Nat) (w : World) (v : Value) (l : List Rw) : Prop := ∀ W : World, (∀ p : Addr, B ≤ p.block → p.block < w.heap.size → W.cell? p = w.cell? p) → RowsAt W v l
theorem FarR.here {B : Nat} {w : World} {v : Value} {l : List Rw} (h : FarR B w v l) : RowsAt w v l := h w fun _ _ _ => rfl
set_option maxHeartbeats 2000000 in
set_option maxRecDepth 20000 in
theorem dataReadFar_any (E : Nat → Addr) (B : Nat) (s : Str) (w : World) (hE : Errs [1, 2, 3, 5, 8, 9, 10] E B w) (hT : LNum B w) (hM : LMax B w) (hs : s.length ≤ 10000 ∨ 20000 < s.length) (hs2 : s.length ≤ 50000) :
    Calls Tryz.prog 98 #[S s] w fun e w' => ∃ u ev, e = .returned (.tuple #[u, ev]) ∧ ErV E w' ev (dataE s) ∧ FarR w.heap.size w' u (dataL s) ∧ Below w.heap.size w w' := by
  have hBw := hE.le
  have hif := isIfaceE
  have hE1 := fun w1 (hb : Below w.heap.size w w1) => (⟨(hE.below' hb hBw).var 3 (by decide), (hE.below' hb hBw).var 8 (by decide)⟩ : _ ∧ _)
  simp only [errG] at hE1
  have HE1 := Lib.hid hE1
  have X := Lib.hid (fun W (h : Below w.heap.size w W) => (⟨hE.below' h hBw, hT.below' h hBw, hM.below' h hBw⟩ : Errs [1, 2, 3, 5, 8, 9, 10] E B W ∧ LNum B W ∧ LMax B W))
  obtain ⟨hll, -⟩ := splitL_len hs2
  have hlm : splitE kData s = .nil → ∀ x ∈ splitL s, x.length ≤ 10000 := fun h => (splitL_len (m := 10000) (by rcases hs with h1 | h1; exact h1; rw [splitE_long h1] at h; cases h)).2
  have HS := Lib.hid (dataSplit_any E B kData s w (hE.sub (by decide)) hT hM (by omega))
  have hG : dataE s = readEr kData s dataBad (fun l => keysR (l.map rowD)) := rfl
  have hL : dataL s = if dataE s = .nil then (splitL s).dropLast.map rowD else [] := rfl
  have HL := Lib.hid hL
  have HG := Lib.hid hG
  have HLm := Lib.hid hlm
  have HF4 := Lib.hid (@splitN_four kData s)
  have H1 := Lib.hid (@readEr_split kData s dataBad (fun l => keysR (l.map rowD)))
  have H2 := Lib.hid (@readEr_each kData s dataBad (fun l => keysR (l.map rowD)))
  have H3 := Lib.hid (@readEr_full kData s dataBad (fun l => keysR (l.map rowD)))
  have H4 := Lib.hid (@readEr_last kData s dataBad (fun l => keysR (l.map rowD)))
  clear hG hL hE1 hlm
  generalize splitN kData s = ns at *
  generalize splitL s = ls at *
  go_enter Tryz.func98, Tryz.ntmps98
  go_wp2_with fail
  refine HS.out.mono ?_
  rintro e w1 ⟨vn, vl, ev, rfl, hev, hgood, hb1⟩
  by_cases h0 : splitE kData s = .nil
  case neg =>
    obtain ⟨t1, x1, rfl⟩ := hev.iface h0
    have hGe : dataE s = splitE kData s := HG.out.trans (H1.out h0)
    have HGe := Lib.hid hGe
    have HLe : Hid (dataL s = []) := Lib.hid (by rw [HL.out, hGe, if_neg h0])
    clear h0 hgood hGe
    go_wp2_with fail
    go_ret2
    exact ⟨_, _, rfl, by rw [HGe.out]; exact hev, fun _ _ => (by rw [HLe.out]; exact At.nil _ _ _), hb1⟩
  rw [h0] at hev
  obtain rfl : ev = .nilIface := hev
  obtain ⟨hon, hol⟩ := hgood h0
  obtain ⟨n0, n1, n2, n3, hns⟩ := HF4.out h0
  have H0 := Lib.hid h0
  have HNs := Lib.hid hns
  have hat := hol.at encS_enc
  have hba : Below w1.heap.size w1 (w1.alloc (.cells #[.slice none 0 0] 44)) := (Below.refl _ _).alloc (Nat.le_refl _) _
  have hbA := hb1.trans (hba.mono hb1.size)
  have hEa := dataEach_any E B vl ls 140 #[.pointer (some ⟨w1.heap.size, 0, none⟩)] (dataBad ls) (DJ ls w1.heap.size) w1.heap.size _ ((X.out _ hbA).1.sub (by decide)) (Nat.le_trans hBw hb1.size) (by simp) (enters_of Tryz.func140 (by kernel_rfl) rfl) w1 hat (Nat.le_refl _) hba (by omega)
    ⟨_, Boxed.new w1 44 (.slice none 0 0), Own.nil _ _ _ _ _⟩
    (fun i x W hx hJ hbW => by
      have hbW' := hbA.trans (hbW.mono hb1.size)
      have := dataRead1_any E B ls w1.heap.size i x W ((X.out _ hbW').1.sub (by decide)) (X.out _ hbW').2.1 (X.out _ hbW').2.2 hx hJ (by omega) (by exact HLm.out H0.out x (List.mem_of_getElem? hx))
      exact this)
  have HEa := Lib.hid hEa
  have HOn := Lib.hid hon
  clear hEa hgood hol hat h0 hns hon
  go_wp2_with fail
  refine HEa.out.mono ?_
  rintro e w2 ⟨ev, rfl, hev, hJ, hb2⟩
  have hb12 := hba.trans hb2
  have hb2' := hb1.trans (hb12.mono hb1.size)
  by_cases he : eachEr (dataBad ls) ls = .nil
  case neg =>
    obtain ⟨t1, x1, rfl⟩ := hev.iface he
    have hGe : dataE s = eachEr (dataBad ls) ls := HG.out.trans (H2.out H0.out he)
    have HGe := Lib.hid hGe
    have HLe : Hid (dataL s = []) := Lib.hid (by rw [HL.out, hGe, if_neg he])
    clear he hJ hGe
    go_wp2_with fail
    go_ret2
    exact ⟨_, _, rfl, by rw [HGe.out]; exact hev, fun _ _ => (by rw [HLe.out]; exact At.nil _ _ _), hb2'⟩
  rw [he] at hev
  obtain rfl : ev = .nilIface := hev
  obtain ⟨v, hv, hown⟩ := hJ he
  rw [← List.dropLast_eq_take] at hown
  have H3' := Lib.hid (H3.out H0.out he)
  have H4' := Lib.hid (H4.out H0.out he)
  obtain ⟨q, hkeys⟩ : ∃ q, ls.dropLast.map rowD = q := ⟨_, rfl⟩
  rw [hkeys] at hown HL H3' H4'
  have hkq : (keysR q).length = q.length := by simp [keysR]
  rw [hkq] at H3' H4'
  obtain ⟨a, c, rfl, -, -⟩ := (hown.at encR_enc).form'
  have hbx := hv.cell
  have HOwn := Lib.hid hown
  have hkl : q.length ≤ 60000 := by rw [← hkeys, List.length_map, List.length_dropLast]; omega
  obtain ⟨v3, v8⟩ := HE1.out _ hb2'
  clear he hkeys hown HEa
  by_cases h40 : 40 < q.length
  case pos =>
    have g : (40 : Int) < (q.length : Int) := by omega
    have hGe : dataE s = .bare 8 := HG.out.trans (H3'.out h40)
    have HGe := Lib.hid hGe
    have HLe : Hid (dataL s = []) := Lib.hid (by rw [HL.out, hGe]; rfl)
    clear h40 hGe
    go_wp2_with fail
    go_quiet (fail)
    go_wp2_with fail
    go_ret2
    exact ⟨_, _, rfl, by rw [HGe.out]; exact ⟨by decide, rfl⟩, fun _ _ => (by rw [HLe.out]; exact At.nil _ _ _), Bdn hb2' _⟩
  have g : decide ((40 : Int) < (q.length : Int)) = false := by simp; omega
  have hGe := HG.out.trans (H4'.out h40)
  have hFi := fun W u (h : Below w2.heap.size w2 W) (hu : IntsAt W u (keysR q)) => dataFits_any vn n0 n1 n2 n3 u (keysR q) W (by have := (HOn.out.below (hb12.trans (h.mono hb12.size))).at encI_enc; rwa [HNs.out] at this) hu (by omega)
  rw [← HNs.out] at hFi
  have HKs := Lib.hid (dataKeys_any _ q w2 (HOwn.out.at encR_enc) (by omega))
  have HGe := Lib.hid hGe
  have HFi := Lib.hid hFi
  clear h40 hGe hFi hkq
  by_cases hf : fitsI ns (keysR q)
  case neg =>
    have hGe : dataE s = .bare 3 := by rw [HGe.out, if_neg hf]
    have HGe3 := Lib.hid hGe
    have HLe : Hid (dataL s = []) := Lib.hid (by rw [HL.out, hGe]; rfl)
    rw [decide_eq_false hf] at HFi
    clear hf hGe
    go_wp2_with fail
    refine HKs.out.mono ?_
    rintro e wk ⟨u, rfl, hu, hbk⟩
    have HF3 := Lib.hid (HFi.out wk u hbk (hu.at encI_enc))
    have hbx1 := (hbk.cell hv.lt).trans hbx
    clear hu hbx
    go_wp2_with fail
    refine HF3.out.mono ?_
    rintro e w3 ⟨rfl, hb3k⟩
    have hb3 := hbk.trans (hb3k.mono hbk.size)
    have hb3' := hb2'.trans (hb3.mono hb2'.size)
    clear v3 v8
    obtain ⟨v3, v8⟩ := HE1.out _ hb3'
    go_wp2_with fail
    go_quiet (fail)
    go_wp2_with fail
    go_ret2
    exact ⟨_, _, rfl, by rw [HGe3.out]; exact ⟨by decide, rfl⟩, fun _ _ => (by rw [HLe.out]; exact At.nil _ _ _), Bdn hb3' _⟩
  have hGe : dataE s = .nil := by rw [HGe.out, if_pos hf]
  have HGe3 := Lib.hid hGe
  have HLe : Hid (dataL s = q) := Lib.hid (by rw [HL.out, hGe, if_pos rfl])
  rw [decide_eq_true hf] at HFi
  clear hf hGe
  go_wp2_with fail
  refine HKs.out.mono ?_
  rintro e wk ⟨u, rfl, hu, hbk⟩
  have HF3 := Lib.hid (HFi.out wk u hbk (hu.at encI_enc))
  have hbx1 := (hbk.cell hv.lt).trans hbx
  clear hu
  go_wp2_with fail
  refine HF3.out.mono ?_
  rintro e w3 ⟨rfl, hb3k⟩
  have hb3 := hbk.trans (hb3k.mono hbk.size)
  have hb3' := hb2'.trans (hb3.mono hb2'.size)
  have hbx3 := (hb3.cell hv.lt).trans hbx
  clear hbx hbx1
  go_wp2_with fail
  go_ret2
  exact ⟨_, _, rfl, by rw [HGe3.out]; rfl, fun W hW => (by rw [HLe.out]; exact Own.stays3 encR_enc (HOwn.out.below hb3) (fun p hp hp2 => hW p (Nat.le_trans hb1.size hp) hp2)), hb3'⟩
theorem dataRead_any (E : Nat → Addr) (B : Nat) (s : Str) (w : World) (hE : Errs [1, 2, 3, 5, 8, 9, 10] E B w) (hT : LNum B w) (hM : LMax B w) (hs : s.length ≤ 10000 ∨ 20000 < s.length) (hs2 : s.length ≤ 50000) :
    Calls Tryz.prog 98 #[S s] w fun e w' => ∃ u ev, e = .returned (.tuple #[u, ev]) ∧ ErV E w' ev (dataE s) ∧ RowsAt w' u (dataL s) ∧ Below w.heap.size w w' :=
  (dataReadFar_any E B s w hE hT hM hs hs2).mono fun _ _ ⟨u, ev, h1, h2, h3, h4⟩ => ⟨u, ev, h1, h2, h3.here, h4⟩
end Go.Proofs.YtpfohfihkmjnaaaGreatDoor
namespace Go.Proofs.YtpfohfihkmjnaaaGreatDoor
open Go.RowKit
def Er.noPlace : Er → Er
  | .nil => .nil
  | .bare c => .bare c
  | .loc c _ => .bare c
theorem fileBare_any (E : Nat → Addr) (er : Er) (v : Value) (w : World) (hv : ErV E w v er) :
    Calls Tryz.prog 48 #[v] w fun e w' => ∃ v', e = .returned v' ∧ ErV E w' v' er.noPlace ∧ w = w' := by
  have hnil : ∀ (xT : TypeId) (w : World), (Instr.typeAssert .nilIface xT 100 true).run Tryz.prog w = .ok (.tuple #[.pointer none, .bool false]) w := fun _ _ => by kernel_rfl
  have hbare : ∀ (p : Value) (xT : TypeId) (w : World), (Instr.typeAssert (.iface 320 p) xT 100 true).run Tryz.prog w = .ok (.tuple #[.pointer none, .bool false]) w := fun _ _ _ => by kernel_rfl
  have hhit : ∀ (p : Value) (xT : TypeId) (w : World), (Instr.typeAssert (.iface 100 p) xT 100 true).run Tryz.prog w = .ok (.tuple #[p, .bool true]) w := fun _ _ _ => by kernel_rfl
  cases er with
  | nil =>
    obtain rfl : v = .nilIface := hv
    go_enter Tryz.func48, Tryz.ntmps48
    go_wp2
    go_ret
    exact ⟨.nilIface, rfl, rfl, rfl⟩
  | bare c =>
    obtain ⟨hc, rfl⟩ := hv
    go_enter Tryz.func48, Tryz.ntmps48
    go_wp2
    go_ret
    exact ⟨_, rfl, ⟨hc, rfl⟩, rfl⟩
  | loc c i =>
    obtain ⟨hc, fb, rfl, h0, h1⟩ := hv
    go_enter Tryz.func48, Tryz.ntmps48
    go_wp2
    go_ret
    exact ⟨_, rfl, ⟨hc, rfl⟩, rfl⟩
end Go.Proofs.YtpfohfihkmjnaaaGreatDoor
namespace Go.Proofs.YtpfohfihkmjnaaaGreatDoor
open Go.RowKit
/-- The keys of a text of a kind, and their error. -/
def keysE (kind s : Str) : Er := if kind = kGone then (goneE s).noPlace else (dataE s).noPlace
def keysL (kind s : Str) : List Int := if kind = kGone then goneL s else keysR (dataL s)
/-- What is known of a file's text. -/
def ofFile (path part s : Str) (seq : Int) : Fl := ⟨path, part, (keysL (kindF path) s).length, (endsI (keysL (kindF path) s)).1, (endsI (keysL (kindF path) s)).2, seq⟩
def ofText (path part s : Str) (seq : Int) : Fl × Nat :=
  if pathF path = none then (zeroF, 5)
  else if (keysE (kindF path) s).code ≠ 0 then (zeroF, (keysE (kindF path) s).code)
  else if checkF (ofFile path part s seq) ≠ 0 then (zeroF, checkF (ofFile path part s seq))
  else (ofFile path part s seq, 0)
theorem dataL_len (s : Str) : (dataL s).length ≤ s.length + 1 := by
  unfold dataL
  split
  · rw [List.length_map, List.length_dropLast]
    have := (splitL_len (s := s) (Nat.le_refl _)).1
    omega
  · simp
set_option maxHeartbeats 4000000 in
set_option maxRecDepth 20000 in
theorem fileKeys_any (E : Nat → Addr) (B : Nat) (kind s : Str) (w : World) (hE : Errs [1, 2, 3, 5, 8, 9, 10] E B w) (hT : LNum B w) (hM : LMax B w) (hs : s.length ≤ 10000 ∨ 20000 < s.length) (hs2 : s.length ≤ 50000) :
    Calls Tryz.prog 132 #[S kind, S s] w fun e w' => ∃ u ev, e = .returned (.tuple #[u, ev]) ∧ ErV E w' ev (keysE kind s) ∧ IntsAt w' u (keysL kind s) ∧ Below w.heap.size w w' := by
  have hif := isIfaceE
  by_cases hk : kind = kGone
  case pos =>
    have hKE : Hid (keysE kind s = (goneE s).noPlace) := Lib.hid (if_pos hk)
    have hKL : Hid (keysL kind s = goneL s) := Lib.hid (if_pos hk)
    have g : (kind == [103, 111, 110, 101]) = true := by simpa using hk
    have HRd := Lib.hid (goneRead_any E B s w (hE.sub (by decide)) hT hM hs2)
    generalize goneE s = er at *
    generalize goneL s = q at *
    clear hk
    go_enter Tryz.func132, Tryz.ntmps132
    go_wp2_with fail
    refine HRd.out.mono ?_
    rintro e w1 ⟨u, ev, rfl, hev, hu, hb1⟩
    have HBr := Lib.hid (fileBare_any E er ev w1 hev)
    have HU := Lib.hid hu
    clear hev hu
    go_wp2_with fail
    refine HBr.out.mono ?_
    rintro e w2 ⟨v', rfl, hv', rfl⟩
    have HV := Lib.hid hv'
    clear hv'
    go_wp2_with fail
    go_ret2
    exact ⟨_, _, rfl, by rw [hKE.out]; exact HV.out, by rw [hKL.out]; exact HU.out, hb1⟩
  have hKE : Hid (keysE kind s = (dataE s).noPlace) := Lib.hid (if_neg hk)
  have hKL : Hid (keysL kind s = keysR (dataL s)) := Lib.hid (if_neg hk)
  have g : (kind == [103, 111, 110, 101]) = false := by simpa using hk
  have HRd := Lib.hid (dataRead_any E B s w hE hT hM hs hs2)
  have hLn : dataE s ≠ .nil → dataL s = [] := fun h => if_neg h
  have HLn := Lib.hid hLn
  have hql := dataL_len s
  generalize dataE s = er at *
  generalize dataL s = l at *
  clear hk hLn
  go_enter Tryz.func132, Tryz.ntmps132
  go_wp2_with fail
  refine HRd.out.mono ?_
  rintro e w1 ⟨u, ev, rfl, hev, hu, hb1⟩
  by_cases he : er = .nil
  case neg =>
    obtain ⟨t1, x1, rfl⟩ := hev.iface he
    have HBr := Lib.hid (fileBare_any E er _ w1 hev)
    have HL0 := Lib.hid (HLn.out he)
    clear hev hu he
    go_wp2_with fail
    refine HBr.out.mono ?_
    rintro e w2 ⟨v', rfl, hv', rfl⟩
    have HV := Lib.hid hv'
    clear hv'
    go_wp2_with fail
    go_ret2
    exact ⟨_, _, rfl, by rw [hKE.out]; exact HV.out, by rw [hKL.out, HL0.out]; exact At.nil _ _ _, hb1⟩
  subst he
  obtain rfl : ev = .nilIface := hev
  obtain ⟨a, c, b, o, rfl, ha, hc, hcm, hx⟩ := hu
  unfold maxLen at hcm
  have HX := Lib.hid hx
  clear hx HLn HRd
  go_wp2_with fail
  go_loopw [10, 34] (fun u i wr => ∃ (k : Nat) (va : Value), k ≤ l.length ∧ i = .int .i64 k ∧ va = u ∧ Own encI 3 1 w1.heap.size wr va (keysR (l.take k)) ∧ Below w1.heap.size w1 wr) (fun _ i _ => l.length - (intOf i).toNat)
  case atStart => exact ⟨0, _, by omega, rfl, rfl, Own.nil _ _ _ _ _, Below.refl _ _⟩
  case round =>
    obtain ⟨k, va, hk, rfl, rfl, hown, hb⟩ := hrel
    obtain ⟨wo, rfl⟩ : ∃ wo, wo = wr := ⟨wr, rfl⟩
    by_cases hlt : k < l.length
    case neg =>
      obtain rfl : k = l.length := by omega
      rw [List.take_length] at hown
      have f : decide ((l.length : Int) < (l.length : Int)) = false := by simp
      have HO := Lib.hid hown
      clear hown
      go_wp2_with fail
      go_ret2
      exact ⟨_, _, rfl, by rw [hKE.out]; rfl, by rw [hKL.out]; exact HO.out.at encI_enc, hb1.trans (hb.mono hb1.size)⟩
    have hk1 : (k : Int) < (l.length : Int) := by omega
    obtain ⟨x, hxk⟩ := get_ex hlt
    obtain ⟨c0, c1, c2⟩ := rwCells HX.out hb hxk
    have i1 := idx_at (c := c) 3 Tryz.underlying44 szRw ha k hlt
    have HSn : Hid (keysR (l.take (k + 1)) = keysR (l.take k) ++ [x.key]) := Lib.hid (by rw [take_snoc' hxk]; simp [keysR])
    have hqk : (keysR (l.take k)).length = k := by simp [keysR]; omega
    generalize keysR (l.take k) = q at *
    have HQl := Lib.hid hqk
    have hba : Below wo.heap.size wo (wo.alloc (.cells #[S x.part, .int .i64 x.key, .int .i64 x.val] 106)) := (Below.refl _ _).alloc (Nat.le_refl _) _
    have CR := Lib.hid (fun W (h : Below (wo.alloc (.cells #[S x.part, .int .i64 x.key, .int .i64 x.val] 106)).heap.size (wo.alloc (.cells #[S x.part, .int .i64 x.key, .int .i64 x.val] 106)) W) => rowCells (r := x) (w := wo) rfl h)
    have HO3 := Lib.hid (hown.below hba)
    have hb3 := hb.trans (hba.mono hb.size)
    clear hqk hown hxk
    go_upto_region 11 with fail
    generalize wo.alloc (.cells #[S x.part, .int .i64 x.key, .int .i64 x.val] 106) = w3 at *
    obtain ⟨d0, d1, d2⟩ := CR.out _ (Below.refl _ _)
    go_wp2_with (at_builtin; refine wpList_app rfl _ _ _ rfl w1.heap.size elInt va q.length _ rfl (HO3.out.alloc _) (.slice (some ⟨w3.heap.size, 0, none⟩) 1 1) 1 (encI x.key) rfl (src_one rfl rfl (by simp [Value.oneCell'])) (by rw [HQl.out]; unfold maxLen; omega) (by rw [HQl.out]; omega) (by have := hb3.size; simp; omega) ?_; intro v5 w5 hown5 hg5 _)
    go_roundw
    case rel => exact ⟨k + 1, _, by omega, by go_num, rfl, by rw [HSn.out]; exact Own.snoc hown5, Bapp (hb3.alloc hb3.size _) (HO3.out.alloc _) hg5 (Nat.le_refl _) (by have := hb3.size; simp; omega)⟩
    case measure => simp [intOf]; omega
end Go.Proofs.YtpfohfihkmjnaaaGreatDoor
