/- slices.IndexFunc, Clone, DeleteFunc at []api.Row; row.Drop, row.Within. deedboxlaw1's helpers on rows: rowed, LongRows, OwnRows. data.keys, data.Make: the walks. slices.Values, AppendSeq, Collect, Sorted, Sort, Compact at []int; gone.Keys. -/
import Derived.Test.YtefoaeamfkbgbaaGreatDoorP10
import Derived.Test.YtefoaeamfkbgbaaGreatDoorP12
import Derived.Test.YtefoaeamfkbgbaaGreatDoorP13
import Derived.Test.YtefoaeamfkbgbaaGreatDoorP11
import Derived.Test.YtefoaeamfkbgbaaGreatDoorP7
import Derived.Test.YtefoaeamfkbgbaaGreatDoorP2
import Derived.Test.YtefoaeamfkbgbaaGreatDoorP9
import Derived.Lib.OwnBridge
namespace Go.Proofs.YtefoaeamfkbgbaaGreatDoor
open Go.RowKit

theorem indexFuncR_any (f : FuncId) (caps : Array Value) (p : Rw → Bool) (base : Nat) (w0 : World) (v : Value) (l : List Rw) (w : World) (hf : Clo Tryz.prog f) (hp : PredOn Tryz.prog f caps rowV l p base w0)
    (hl : RowsAt w v l) (hw : Below base w0 w) (hB : base ≤ w.heap.size) :
    Calls Tryz.prog 111 #[v, .func (.func f) #[] caps] w fun e w' => e = .returned (.int .i64 (idxVal p l)) ∧ Below w.heap.size w w' := by
  obtain ⟨a, c, b, o, rfl, ha, hc, hcm, hx⟩ := hl
  unfold maxLen at hcm
  have hf' := hf
  unfold Clo at hf'
  go_enter Tryz.func111, Tryz.ntmps111
  go_wp2_with fail
  go_loopw [8] (fun i wr => ∃ k : Nat, k ≤ l.length ∧ i = .int .i64 k ∧ Hid (∀ j y, j < k → l[j]? = some y → p y = false) ∧ Below w.heap.size w wr) (fun i _ => l.length - (intOf i).toNat)
  case atStart => exact ⟨0, by omega, rfl, Lib.hid fun j y hj => absurd hj (by omega), Below.refl _ _⟩
  case round =>
    obtain ⟨k, hk, rfl, hj, hb⟩ := hrel
    by_cases hlt : k < l.length
    · obtain ⟨x, hxk⟩ := get_ex hlt
      obtain ⟨c0, c1, c2⟩ := rwCells hx hb hxk
      have i1 := idx_at (c := c) 3 Tryz.underlying39 szRw ha k hlt
      have hk1 : (k : Int) < (l.length : Int) := by omega
      have hpx := hp wr x (List.mem_of_getElem? hxk) (hw.trans (hb.mono hB)) (Nat.le_trans hB hb.size)
      have Hp := Lib.hid hpx; clear hpx
      have Hx := Lib.hid hxk; clear hxk
      go_wp2_with fail
      refine Hp.out.mono ?_
      rintro e w1 ⟨rfl, hb1⟩
      have hb2 := hb.trans (hb1.mono hb.size)
      cases hpv : p x with
      | true =>
        have Hpv := Lib.hid hpv; clear hpv
        go_wp2_with fail
        go_ret
        refine ⟨?_, hb2⟩
        rw [idxVal_some Hx.out Hpv.out hj.out]; rfl
      | false =>
        have Hpv := Lib.hid hpv; clear hpv
        go_wp2_with fail
        go_roundw
        case rel => exact ⟨k + 1, by omega, by go_num, (Lib.hid fun j y hj' hy => by
          rcases Nat.lt_or_ge j k with h | h
          · exact hj.out j y h hy
          · obtain rfl : j = k := by omega
            rw [Hx.out] at hy
            obtain rfl := Option.some.inj hy
            exact Hpv.out), hb2⟩
        case measure => simp [intOf]; omega
    · obtain rfl : k = l.length := by omega
      go_wp2_with fail
      go_ret
      refine ⟨?_, hb⟩
      rw [idxVal_none fun j x hj' => hj.out j x (by
        rcases Nat.lt_or_ge j l.length with h | h
        · exact h
        · rw [List.getElem?_eq_none h] at hj'; cases hj') hj']
      rfl
set_option maxRecDepth 20000 in
theorem cloneR_any (v : Value) (l : List Rw) (w : World) (hl : RowsAt w v l) (hn : l.length ≤ 100000) :
    Calls Tryz.prog 58 #[v] w fun e w' => ∃ v', e = .returned v' ∧ Own encR 65 3 w.heap.size w' v' l ∧ Below w.heap.size w w' := by
  obtain ⟨a, c, rfl, hnil, hcm⟩ := hl.form'
  have hq := fun w' => Lib.run_eql_slice_nil (P := Tryz.prog) w' 39 65 a l.length c 0 0 Tryz.underlying39
  cases a with
  | none =>
    obtain rfl := hnil rfl
    simp only [Option.isNone_none, List.length_nil] at hq
    go_enter Tryz.func58, Tryz.ntmps58
    go_wp2_with fail
    go_ret
    exact ⟨_, rfl, Own.nil _ _ _ _ _, Below.refl _ _⟩
  | some ad =>
    simp only [Option.isNone_some] at hq
    have hba : Below w.heap.size w (w.alloc (.cells #[] 65)) := (Below.refl _ _).alloc (Nat.le_refl _) _
    have hs := (hl.below hba).src encR_enc (by decide)
    have ho : Own encR 65 3 w.heap.size (w.alloc (.cells #[] 65)) (.slice (some ⟨w.heap.size, 0, none⟩) 0 0) [] := own_empty encR _ 3 _ _ _ (Nat.le_refl _) (heap_alloc_new w _)
    go_enter Tryz.func58, Tryz.ntmps58
    go_wp2_with (at_builtin; refine wpList_app rfl _ _ _ rfl w.heap.size elRw (.slice (some ⟨w.heap.size, 0, none⟩) 0 0) 0 [] rfl ho _ _ _ rfl hs (by unfold maxLen; omega) (by omega) (by simp) ?_; intro v' w1 hown hg _)
    go_ret
    exact ⟨_, rfl, by simpa [Own] using hown, hba.grown hg (by simp) (fun k hk => by cases hk; exact Nat.le_refl _)⟩
theorem rwZero : (Tryz.prog.info? 65).bind (·.zero) = some (.agg #[.string ByteArray.empty, .int .i64 0, .int .i64 0]) := by kernel_rfl
theorem rwZero1 : ∀ z, (Tryz.prog.info? 65).bind (·.zero) = some z → ∀ u ∈ z.cells.toList, u.oneCell' = true := by
  intro z hz u hu
  rw [rwZero] at hz
  cases hz
  simp [Value.cells] at hu
  rcases hu with rfl | rfl <;> rfl
/-- An element of three cells written anew, cell by cell. -/
theorem Own.set3 {e : TypeId} {B : Nat} {w : World} {g n cap i : Nat} {l : List Rw} (h : Own encR e 3 B w (.slice (some ⟨g, 0, none⟩) n cap) l) (hi : i < l.length) (x : Rw) :
    Own encR e 3 B (thr w g (i * 3) (S x.part) (.int .i64 x.key) (.int .i64 x.val)) (.slice (some ⟨g, 0, none⟩) n cap) (l.set i x) := by
  obtain ⟨cur, hB, hg, hl, hc, hm, hs, ht⟩ := h.row
  have hsplit : l = l.take i ++ l[i] :: l.drop (i + 1) := by rw [← List.drop_eq_getElem_cons hi, List.take_append_drop]
  have hset : l.set i x = l.take i ++ x :: l.drop (i + 1) := List.set_eq_take_append_cons_drop.trans (if_pos hi)
  have hA : ((l.take i).flatMap encR).length = i * 3 := by rw [flat_length encR_enc, List.length_take, Nat.min_eq_left (by omega)]
  have hC : ((l.drop (i + 1)).flatMap encR).length = (n - (i + 1)) * 3 := by rw [flat_length encR_enc, List.length_drop, hl]
  have hle : n * 3 ≤ cap * 3 := Nat.mul_le_mul_right _ hc
  have hf : l.flatMap encR = (l.take i).flatMap encR ++ (encR l[i] ++ (l.drop (i + 1)).flatMap encR) := by
    have : l.flatMap encR = (l.take i ++ l[i] :: l.drop (i + 1)).flatMap encR := by rw [← hsplit]
    rw [this]; simp only [List.flatMap_append, List.flatMap_cons]
  have hcur : cur.toList = (l.take i).flatMap encR ++ (encR l[i] ++ ((l.drop (i + 1)).flatMap encR ++ cur.toList.drop (n * 3))) := by
    have h1 : cur.toList = cur.toList.take (n * 3) ++ cur.toList.drop (n * 3) := (List.take_append_drop _ _).symm
    rw [ht, hf] at h1
    simpa using h1
  generalize cur.toList.drop (n * 3) = R at hcur
  refine Own.put encR_enc (by rw [List.length_set]; exact hl) hB (thr_row hg (S x.part) (.int .i64 x.key) (.int .i64 x.val)) hc hm (by simpa using hs) ?_
  simp only [Array.toList_setIfInBounds]
  rw [hcur, hset]
  have s0 : ((l.take i).flatMap encR ++ (encR l[i] ++ ((l.drop (i + 1)).flatMap encR ++ R))).set (i * 3) (S x.part) = (l.take i).flatMap encR ++ (encR l[i] ++ ((l.drop (i + 1)).flatMap encR ++ R)).set 0 (S x.part) := set_app hA 0 (S x.part)
  rw [s0, set_app hA, set_app hA]
  simp only [List.cons_append, List.nil_append, List.set_cons_zero, List.set_cons_succ, List.flatMap_append, List.flatMap_cons]
  have e : ∀ (A C R : List Value) (a b c : Value), A ++ a :: b :: c :: (C ++ R) = (A ++ [a, b, c] ++ C) ++ R := fun A C R a b c => by simp
  rw [e, List.take_left' (by rw [List.length_append, List.length_append, hA, hC]; simp; omega)]
  simp
theorem sizeRw : (Tryz.prog.info? 65).map (·.size) = some 3 := by kernel_rfl
set_option maxHeartbeats 1000000 in
set_option maxRecDepth 20000 in
theorem deleteFuncR_any (f : FuncId) (caps : Array Value) (p : Rw → Bool) (base : Nat) (w0 : World) (v : Value) (l : List Rw) (w : World) (hf : Clo Tryz.prog f) (hp : PredOn Tryz.prog f caps rowV l p base w0)
    (hl : Own encR 65 3 base w v l) (hw : Below base w0 w) (hB : base ≤ w.heap.size) :
    Calls Tryz.prog 48 #[v, .func (.func f) #[] caps] w fun e w' => ∃ v', e = .returned v' ∧ Own encR 65 3 base w' v' (l.filter fun x => !p x) ∧ Below base w w' := by
  have hif := indexFuncR_any f caps p base w0 v l w hf hp (hl.at encR_enc) hw hB
  have Hif := Lib.hid hif; clear hif
  have Hf := Lib.hid hf; clear hf
  have Hp := Lib.hid hp; clear hp
  by_cases hall : ∀ (j : Nat) (x : Rw), l[j]? = some x → p x = false
  · have e1 : idxVal p l = -1 := idxVal_none hall
    have e2 : l.filter (fun x => !p x) = l := List.filter_eq_self.2 fun x hx => by
      obtain ⟨j, hj, he⟩ := List.getElem_of_mem hx
      simp [hall j x (by simp [hj, he])]
    have H1 := Lib.hid e1; have H2 := Lib.hid e2; clear e1 e2 hall
    go_enter Tryz.func48, Tryz.ntmps48
    go_wp2_with fail
    refine Hif.out.mono ?_
    rintro e w1 ⟨rfl, hb⟩
    rw [H1.out]
    go_wp2_with fail
    go_ret
    exact ⟨v, rfl, by rw [H2.out]; exact hl.below hb, hb.mono hB⟩
  · obtain ⟨k, x, hk, hpx, hlow⟩ : ∃ (k : Nat) (x : Rw), l[k]? = some x ∧ p x = true ∧ ∀ (j : Nat) (y : Rw), j < k → l[j]? = some y → p y = false := by
      cases hfi : l.findIdx? p with
      | none =>
        exfalso; refine hall fun j x hj => ?_
        exact List.findIdx?_eq_none_iff.1 hfi x (List.mem_of_getElem? hj)
      | some k =>
        obtain ⟨h1, h2, h3⟩ := List.findIdx?_eq_some_iff_getElem.1 hfi
        refine ⟨k, l[k], by simp, h2, fun j y hj hy => ?_⟩
        have h4 : j < l.length := by omega
        have := h3 j hj
        have hy' : l[j] = y := by rw [List.getElem?_eq_getElem h4] at hy; exact Option.some.inj hy
        rw [hy'] at this; simpa using this
    have hlt : k < l.length := by
      rcases Nat.lt_or_ge k l.length with h' | h'
      · exact h'
      · rw [List.getElem?_eq_none h'] at hk; cases hk
    have e1 : idxVal p l = k := idxVal_some hk hpx hlow
    have hst := DelRel.start hk hpx hlow
    obtain ⟨g, cap, cur, rfl, hBg, _, hcap, hm, _, _⟩ := hl.open (by omega)
    unfold maxLen at hm
    have hne : ((k : Int) == -1) = false := beq_eq_false_iff_ne.2 (by omega)
    have H1 := Lib.hid e1; have Hst := Lib.hid hst; clear e1 hst hall hlow hk
    go_enter Tryz.func48, Tryz.ntmps48
    go_wp2_with fail
    refine Hif.out.mono ?_
    rintro e w1 ⟨rfl, hb⟩
    rw [H1.out]
    have ho1 := hl.below hb
    have hb1 : Below base w w1 := hb.mono hB
    clear hl hb
    go_wp2_with fail
    go_loopw [5, 6] (fun s5 s6 wr => ∃ (i j : Nat) (ys : List Rw), s5 = .int .i64 i ∧ s6 = .int .i64 j ∧ Hid (DelRel p l i j ys) ∧ Own encR 65 3 base wr (.slice (some ⟨g, 0, none⟩) l.length cap) ys ∧ Below base w wr) (fun _ s6 _ => l.length - (intOf s6).toNat)
    case atStart => exact ⟨k, k + 1, l, rfl, by go_num, Hst.out, ho1, hb1⟩
    case round =>
      obtain ⟨i, j, ys, rfl, rfl, hd, ho, hbr⟩ := hrel
      have hij := hd.out.1
      have hjn := hd.out.2.1
      have hysl := hd.out.2.2.1
      have Hysl := Lib.hid hysl; clear hysl
      by_cases hlt' : j < l.length
      · obtain ⟨x', hxj⟩ := get_ex hlt'
        have hyj := hd.out.next hxj
        obtain ⟨_, _, b', o', hv', hga, _, _, hx'⟩ := ho.at encR_enc
        simp only [Value.slice.injEq] at hv'
        have hga' := hv'.1.trans (hga (by rw [Hysl.out]; omega))
        simp only [Option.some.injEq, Addr.mk.injEq, and_true] at hga'
        obtain ⟨rfl, rfl⟩ := hga'
        clear hv' hga
        obtain ⟨c0, c1, c2⟩ := rwCells hx' (Below.refl _ _) hyj
        have hk1 : (j : Int) < (l.length : Int) := by omega
        have hba : Below base w (wr.alloc (.cells #[S x'.part, .int .i64 x'.key, .int .i64 x'.val] 65)) := hbr.alloc (Nat.le_trans hB hbr.size) _
        have hoa := ho.alloc (.cells #[S x'.part, .int .i64 x'.key, .int .i64 x'.val] 65)
        have CB := Lib.hid (fun w6 (h : Below (wr.alloc (.cells #[S x'.part, .int .i64 x'.key, .int .i64 x'.val] 65)).heap.size (wr.alloc (.cells #[S x'.part, .int .i64 x'.key, .int .i64 x'.val] 65)) w6) => rowCells (r := x') rfl h)
        have hpc := Hp.out (wr.alloc (.cells #[S x'.part, .int .i64 x'.key, .int .i64 x'.val] 65)) x' (List.mem_of_getElem? hxj) (hw.trans hba) (Nat.le_trans hB hba.size)
        have Hpc := Lib.hid hpc; clear hpc hyj
        have Hxj := Lib.hid hxj; clear hxj
        have hf' := Hf.out
        unfold Clo at hf'
        simp only [Nat.zero_add] at c0 c1 c2
        go_wp2_with fail
        generalize wr.alloc (.cells #[S x'.part, .int .i64 x'.key, .int .i64 x'.val] 65) = wb at *
        refine Hpc.out.mono ?_
        rintro e w2 ⟨rfl, hb2⟩
        have ho2 := hoa.below hb2
        have hbr2 : Below base w w2 := hba.trans (hb2.mono (Nat.le_trans hB hba.size))
        clear c0 c1 c2
        obtain ⟨c0, c1, c2⟩ := CB.out w2 hb2
        cases hpv : p x' with
        | true =>
          have hd2 := hd.out.skip Hxj.out hpv
          have Hd2 := Lib.hid hd2; clear hd2 hpv
          go_wp2_with fail
          go_roundw
          case rel => exact ⟨i, j + 1, ys, rfl, by go_num, Hd2.out, ho2, hbr2⟩
          case measure => simp [intOf]; omega
        | false =>
          have hd2 := hd.out.keep Hxj.out hpv
          have Hd2 := Lib.hid hd2; clear hd2 hpv
          obtain ⟨y', hyi⟩ := get_ex (l := ys) (k := i) (by rw [Hysl.out]; omega)
          obtain ⟨cur2, _, hg2, _, _, _, _, _⟩ := ho2.row
          have fz : ∀ j, w2.frozen? ⟨g, j, none⟩ = false := fun j => frozen_row hg2
          obtain ⟨a', c', b', o', hv', hga, _, _, hx'⟩ := ho2.at encR_enc
          simp only [Value.slice.injEq] at hv'
          have hga' := hv'.1.trans (hga (by rw [Hysl.out]; omega))
          simp only [Option.some.injEq, Addr.mk.injEq, and_true] at hga'
          obtain ⟨rfl, rfl⟩ := hga'
          clear hv' hga
          obtain ⟨d0, d1, d2⟩ := rwCells hx' (Below.refl _ _) hyi
          simp only [Nat.zero_add] at d0 d1 d2
          have f0 := fz (i * 3); have f1 := fz (i * 3 + 1); have f2 := fz (i * 3 + 2)
          have ho3 := Own.set3 ho2 (i := i) (by rw [Hysl.out]; omega) x'
          have hk2 : (i : Int) < (l.length : Int) := by omega
          have Ho3 := Lib.hid ho3; clear ho3 hx' hyi hg2 fz
          go_wp2_with fail
          go_roundw
          case rel => exact ⟨i + 1, j + 1, ys.set i x', by go_num, by go_num, Hd2.out, Ho3.out, thr_below hbr2 hBg _ _ _⟩
          case measure => simp [intOf]; omega
      · obtain rfl : j = l.length := by omega
        have hfin := hd.out.done
        have Hfin := Lib.hid hfin; clear hfin
        obtain ⟨cs, hrun, ho2⟩ := run_clear_own (c := cap - i) elRw encR_enc rwZero1 ho (k := i) (by rw [Hysl.out]; omega)
        have hci : ¬ cap = i := by omega
        have hcap2 : (i : Int) ≤ (cap : Int) := by omega
        have hil : (i : Int) ≤ (l.length : Int) := by omega
        have Ho2 := Lib.hid ho2; clear ho2
        go_wp2_with fail
        go_ret
        refine ⟨.slice (some ⟨g, 0, none⟩) i cap, rfl, ?_, Bset hbr hBg _⟩
        have := Ho2.out
        rwa [Hfin.out] at this
set_option maxRecDepth 20000 in
theorem drop1_any (x : Rw) (a1 : Addr) (u : Value) (ks : List Int) (w : World) (h1 : w.cell? a1 = some u) (hu : IntsAt w u ks) (hn : ks.length ≤ 100000) :
    Calls Tryz.prog 59 #[rowV x, .pointer (some a1)] w fun e w' => e = .returned (.bool (decide (x.key ∈ ks))) ∧ Below w.heap.size w w' := by
  obtain ⟨au, cu, rfl, -, -⟩ := hu.form'
  have hb : Below w.heap.size w (w.alloc (rowO x)) := (Below.refl _ _).alloc (Nat.le_refl _) _
  have h1' : (w.alloc (rowO x)).cell? a1 = some (.slice au ks.length cu) := (hb.cell (World.block_lt_of_cell? w _ h1)).trans h1
  have HC := Lib.hid (containsI_any _ ks x.key _ (hu.below hb) hn)
  go_enter Tryz.func59, Tryz.ntmps59
  go_wp2_with fail
  refine HC.out.mono ?_
  rintro e w1 ⟨rfl, rfl⟩
  go_wp2_with fail
  go_ret
  exact ⟨rfl, hb⟩
theorem clo_drop1 : Clo Tryz.prog 59 := fun _ _ => by kernel_rfl
theorem rowDrop_any (v u : Value) (l : List Rw) (ks : List Int) (w : World) (hl : RowsAt w v l) (hu : IntsAt w u ks) (hn : l.length ≤ 100000) (hk : ks.length ≤ 100000) :
    Calls Tryz.prog 17 #[v, u] w fun e w' => ∃ v', e = .returned v' ∧ Own encR 65 3 w.heap.size w' v' (dropR l ks) ∧ Below w.heap.size w w' := by
  obtain ⟨a, c, rfl, -, -⟩ := hl.form'
  obtain ⟨au, cu, rfl, -, -⟩ := hu.form'
  have hba : Below w.heap.size w (w.alloc (.cells #[.slice au ks.length cu] 26)) := (Below.refl _ _).alloc (Nat.le_refl _) _
  have c0 : (w.alloc (.cells #[.slice au ks.length cu] 26)).cell? ⟨w.heap.size, 0, none⟩ = some (.slice au ks.length cu) := by simp
  have Hl := Lib.hid (hl.below hba)
  go_enter Tryz.func17, Tryz.ntmps17
  go_wp2_with fail
  refine (cloneR_any _ l _ Hl.out hn).mono ?_
  rintro e w2 ⟨v2, rfl, hown, hb2⟩
  have hb2' := hba.trans (hb2.mono hba.size)
  have d0 := (hb2.cell (World.block_lt_of_cell? _ _ c0)).trans c0
  go_wp2_with fail
  refine (deleteFuncR_any _ _ (fun r => decide (r.key ∈ ks)) _ w2 v2 l _ clo_drop1 ?_ hown (Below.refl _ _) hb2.size).mono ?_
  · intro W x hx hbW hle
    exact drop1_any x _ _ ks W ((hbW.cell (Nat.lt_of_lt_of_le (World.block_lt_of_cell? _ _ c0) (by simp))).trans d0) (hu.below (hb2'.trans (hbW.mono (by simp)))) hk
  · rintro e w3 ⟨v3, rfl, hown3, hb3⟩
    go_wp2_with fail
    go_ret
    exact ⟨_, rfl, hown3.base (by simp), hb2'.trans (hb3.mono (by simp))⟩
theorem within1_any (x : Rw) (a1 a2 : Addr) (lo hi : Int) (w : World) (h1 : w.cell? a1 = some (.int .i64 lo)) (h2 : w.cell? a2 = some (.int .i64 hi)) :
    Calls Tryz.prog 61 #[rowV x, .pointer (some a1), .pointer (some a2)] w fun e w' => e = .returned (.bool (withinP lo hi x)) ∧ Below w.heap.size w w' := by
  have hb : Below w.heap.size w (w.alloc (rowO x)) := (Below.refl _ _).alloc (Nat.le_refl _) _
  have h1' : (w.alloc (rowO x)).cell? a1 = some (.int .i64 lo) := (hb.cell (World.block_lt_of_cell? w _ h1)).trans h1
  have h2' : (w.alloc (rowO x)).cell? a2 = some (.int .i64 hi) := (hb.cell (World.block_lt_of_cell? w _ h2)).trans h2
  unfold withinP
  by_cases g1 : x.key < lo
  · rw [decide_eq_true g1, Bool.true_or]
    go_enter Tryz.func61, Tryz.ntmps61
    go_wp2_with fail
    go_ret
    exact ⟨rfl, hb⟩
  · have g2 : decide (x.key < lo) = false := by simpa using g1
    rw [g2, Bool.false_or]
    clear g1
    go_enter Tryz.func61, Tryz.ntmps61
    go_wp2_with fail
    go_ret
    exact ⟨rfl, hb⟩
theorem clo_within1 : Clo Tryz.prog 61 := fun _ _ => by kernel_rfl
theorem rowWithin_any (v : Value) (l : List Rw) (lo hi : Int) (w : World) (hl : RowsAt w v l) (hn : l.length ≤ 100000) :
    Calls Tryz.prog 18 #[v, .int .i64 lo, .int .i64 hi] w fun e w' => ∃ v', e = .returned v' ∧ Own encR 65 3 w.heap.size w' v' (withinR l lo hi) ∧ Below w.heap.size w w' := by
  obtain ⟨a, c, rfl, -, -⟩ := hl.form'
  have hba : Below w.heap.size w ((w.alloc (.cells #[.int .i64 lo] 3)).alloc (.cells #[.int .i64 hi] 3)) := ((Below.refl _ _).alloc (Nat.le_refl _) _).alloc (by simp) _
  have c0 : ((w.alloc (.cells #[.int .i64 lo] 3)).alloc (.cells #[.int .i64 hi] 3)).cell? ⟨w.heap.size, 0, none⟩ = some (.int .i64 lo) := by simp
  have c1 : ((w.alloc (.cells #[.int .i64 lo] 3)).alloc (.cells #[.int .i64 hi] 3)).cell? ⟨w.heap.size + 1, 0, none⟩ = some (.int .i64 hi) := by
    rw [World.cell?_alloc_at _ _ _ _ (by simp)]; rfl
  have Hl := Lib.hid (hl.below hba)
  go_enter Tryz.func18, Tryz.ntmps18
  go_wp2_with fail
  refine (cloneR_any _ l _ Hl.out hn).mono ?_
  rintro e w2 ⟨v2, rfl, hown, hb2⟩
  have hb2' := hba.trans (hb2.mono hba.size)
  have d0 := (hb2.cell (World.block_lt_of_cell? _ _ c0)).trans c0
  have d1 := (hb2.cell (World.block_lt_of_cell? _ _ c1)).trans c1
  go_wp2_with fail
  refine (deleteFuncR_any _ _ (withinP lo hi) _ w2 v2 l _ clo_within1 ?_ hown (Below.refl _ _) hb2.size).mono ?_
  · intro W x hx hbW hle
    exact within1_any x _ _ lo hi W ((hbW.cell (Nat.lt_of_lt_of_le (World.block_lt_of_cell? _ _ c0) (by simp))).trans d0) ((hbW.cell (World.block_lt_of_cell? _ _ c1)).trans d1)
  · rintro e w3 ⟨v3, rfl, hown3, hb3⟩
    go_wp2_with fail
    go_ret
    exact ⟨_, rfl, hown3.base (by simp; omega), hb2'.trans (hb3.mono hba.size)⟩
end Go.Proofs.YtefoaeamfkbgbaaGreatDoor
namespace Go.Proofs.YtefoaeamfkbgbaaGreatDoor
open Go.RowKit

abbrev euR : Rw := ⟨[101, 117], -5, 7⟩
theorem itoaM5 : Lib.itoa (-5) = [45, 53] := by
  have : Lib.itoa (-5) = 45 :: Lib.decDigits 5 := rfl
  rw [this, Lib.decDigits_one (by decide)]
  rfl
theorem itoa7 : Lib.itoa 7 = [55] := (Lib.itoa_nonneg 7).trans (Lib.decDigits_one (by decide))
theorem eu_check : rowCheck euR = 0 := by
  refine rowCheck_right (by decide) ?_ ?_ <;> (unfold farN; decide)
theorem eu_line : rowLine euR = [101, 117, 32, 45, 53, 32, 55] := by
  unfold rowLine numsTail
  simp only [List.flatMap_cons, List.flatMap_nil, itoaM5, itoa7]
  rfl
theorem eu_read : rowRead [101, 117, 32, 45, 53, 32, 55] = (euR, 0) := by rw [← eu_line]; exact rowRead_line eu_check
theorem eu_text : rowText euR = [101, 117, 32, 45, 53, 32, 55] := by unfold rowText; rw [if_pos eu_check, eu_line]
theorem longRows_any (v : Value) (l : List Rw) (n : Int) (w : World) (hl : RowsAt w v l) :
    Calls Tryz.prog 29 #[v, .int .i64 n] w fun e w' => (e = .returned (.int .i64 1) ∨ (e = .returned (.int .i64 0) ∧ (l.length : Int) ≤ n ∧ ∀ r ∈ l, r.part.length ≤ 30)) ∧ w = w' := by
  obtain ⟨a, c, b, o, rfl, ha, hc, hcm, hx⟩ := hl
  unfold maxLen at hcm
  by_cases h0 : n < (l.length : Int)
  · go_enter Tryz.func29, Tryz.ntmps29
    go_wp2_with fail
    go_ret
    exact ⟨.inl rfl, rfl⟩
  have g0 : decide (n < (l.length : Int)) = false := by simpa using h0
  have H0 := Lib.hid (show (l.length : Int) ≤ n by omega)
  clear h0
  go_enter Tryz.func29, Tryz.ntmps29
  go_wp2_with fail
  go_loop [5] (fun i => ∃ k : Nat, k ≤ l.length ∧ i = .int .i64 k ∧ Hid (∀ r ∈ l.take k, r.part.length ≤ 30)) (fun i => l.length - (intOf i).toNat)
  case atStart => exact ⟨0, by omega, rfl, Lib.hid (by simp)⟩
  case round =>
    obtain ⟨k, hk, rfl, hj⟩ := hrel
    by_cases hlt : k < l.length
    case neg =>
      obtain rfl : k = l.length := by omega
      have f : decide ((l.length : Int) < (l.length : Int)) = false := by simp
      have HJ := Lib.hid (show ∀ r ∈ l, r.part.length ≤ 30 by have := hj.out; rwa [List.take_length] at this)
      go_wp2_with fail
      go_ret
      exact ⟨.inr ⟨rfl, H0.out, HJ.out⟩, rfl⟩
    obtain ⟨x, hxk⟩ := get_ex hlt
    have c0 := hx k x hxk 0 _ rfl
    have i1 := idx_at (c := c) 3 Tryz.underlying39 szRw ha k hlt
    have hk1 : (k : Int) < (l.length : Int) := by omega
    simp only [Nat.add_zero] at c0
    have hsn := take_snoc' hxk
    by_cases hp : x.part.length ≤ 30
    · have g : decide ((30 : Int) < (x.part.length : Int)) = false := by simp; omega
      have HJ := Lib.hid (show ∀ r ∈ l.take (k + 1), r.part.length ≤ 30 by
        rw [hsn]
        intro r hr
        rcases List.mem_append.1 hr with h | h
        · exact hj.out r h
        · obtain rfl := List.mem_singleton.1 h
          exact hp)
      clear hsn hxk hp hj
      go_wp2_with fail
      go_round
      case rel => exact ⟨k + 1, by omega, by go_num, HJ⟩
      case measure => simp [intOf]; omega
    · have g : (30 : Int) < (x.part.length : Int) := by omega
      clear hsn hxk hp hj
      go_wp2_with fail
      go_ret
      exact ⟨.inl rfl, rfl⟩
theorem ownRows_any (v : Value) (l : List Rw) (w : World) (hl : RowsAt w v l) (hn : l.length ≤ 100000) :
    Calls Tryz.prog 20 #[v] w fun e w' => ∃ v', e = .returned v' ∧ Own encR 65 3 w.heap.size w' v' l ∧ Below w.heap.size w w' := by
  have hs := hl.src encR_enc (by decide)
  have HS := Lib.hid hs
  clear hs
  go_enter Tryz.func20, Tryz.ntmps20
  go_wp2_with (at_builtin; refine wpList_app rfl _ _ _ rfl w.heap.size elRw (.slice none 0 0) 0 [] rfl (Own.nil encR _ 3 _ _) _ _ _ rfl HS.out (by unfold maxLen; omega) (by omega) (Nat.le_refl _) ?_; intro v' w1 hown hg _)
  go_ret
  exact ⟨_, rfl, by simpa [Own] using hown, (Below.refl _ _).grown hg (Nat.le_refl _) (fun k hk => by cases hk)⟩
end Go.Proofs.YtefoaeamfkbgbaaGreatDoor
namespace Go.Proofs.YtefoaeamfkbgbaaGreatDoor
open Go.RowKit

set_option maxHeartbeats 2000000 in
set_option maxRecDepth 20000 in
theorem dataKeys_any (v : Value) (l : List Rw) (w : World) (hl : RowsAt w v l) (hn : l.length ≤ 100000) :
    Calls Tryz.prog 133 #[v] w fun e w' => ∃ u, e = .returned u ∧ Own encI 3 1 w.heap.size w' u (keysR l) ∧ Below w.heap.size w w' := by
  obtain ⟨a, c, b, o, rfl, ha, hc, hcm, hx⟩ := hl
  unfold maxLen at hcm
  have HX := Lib.hid hx
  clear hx
  go_enter Tryz.func133, Tryz.ntmps133
  go_wp2_with fail
  go_loopw [3, 8] (fun u i wr => ∃ (k : Nat) (va : Value), k ≤ l.length ∧ i = .int .i64 k ∧ va = u ∧ Own encI 3 1 w.heap.size wr va (keysR (l.take k)) ∧ Below w.heap.size w wr) (fun _ i _ => l.length - (intOf i).toNat)
  case atStart => exact ⟨0, _, by omega, rfl, rfl, Own.nil _ _ _ _ _, Below.refl _ _⟩
  case round =>
    obtain ⟨k, va, hk, rfl, rfl, hown, hb⟩ := hrel
    obtain ⟨wo, rfl⟩ : ∃ wo, wo = wr := ⟨wr, rfl⟩
    by_cases hlt : k < l.length
    case neg =>
      obtain rfl : k = l.length := by omega
      rw [List.take_length] at hown
      have f : decide ((l.length : Int) < (l.length : Int)) = false := by simp
      have HO := Lib.hid hown
      clear hown
      go_wp2_with fail
      go_ret
      exact ⟨_, rfl, HO.out, hb⟩
    have hk1 : (k : Int) < (l.length : Int) := by omega
    obtain ⟨x, hxk⟩ := get_ex hlt
    obtain ⟨c0, c1, c2⟩ := rwCells HX.out hb hxk
    have i1 := idx_at (c := c) 3 Tryz.underlying39 szRw ha k hlt
    have HSn : Hid (keysR (l.take (k + 1)) = keysR (l.take k) ++ [x.key]) := Lib.hid (by rw [take_snoc' hxk]; simp [keysR])
    have hql : (keysR (l.take k)).length = k := by simp [keysR]; omega
    generalize keysR (l.take k) = q at *
    have HQl := Lib.hid hql
    have hba : Below wo.heap.size wo (wo.alloc (.cells #[S x.part, .int .i64 x.key, .int .i64 x.val] 65)) := (Below.refl _ _).alloc (Nat.le_refl _) _
    have CR := Lib.hid (fun W (h : Below (wo.alloc (.cells #[S x.part, .int .i64 x.key, .int .i64 x.val] 65)).heap.size (wo.alloc (.cells #[S x.part, .int .i64 x.key, .int .i64 x.val] 65)) W) => rowCells (r := x) (w := wo) rfl h)
    have HO3 := Lib.hid (hown.below hba)
    have hb3 := hb.trans (hba.mono hb.size)
    clear hql hown hxk
    go_upto_region 5 with fail
    generalize wo.alloc (.cells #[S x.part, .int .i64 x.key, .int .i64 x.val] 65) = w3 at *
    obtain ⟨d0, d1, d2⟩ := CR.out _ (Below.refl _ _)
    go_wp2_with (at_builtin; refine wpList_app rfl _ _ _ rfl w.heap.size elInt va q.length _ rfl (HO3.out.alloc _) (.slice (some ⟨w3.heap.size, 0, none⟩) 1 1) 1 (encI x.key) rfl (src_one rfl rfl (by simp [Value.oneCell'])) (by rw [HQl.out]; unfold maxLen; omega) (by rw [HQl.out]; omega) (by have := hb3.size; simp; omega) ?_; intro v5 w5 hown5 hg5 _)
    go_roundw
    case rel => exact ⟨k + 1, _, by omega, by go_num, rfl, by rw [HSn.out]; exact Own.snoc hown5, Bapp (hb3.alloc hb3.size _) (HO3.out.alloc _) hg5 (Nat.le_refl _) (by have := hb3.size; simp; omega)⟩
    case measure => simp [intOf]; omega
theorem makeE_full {l : List Rw} (h : 40 < l.length) : makeE l = .bare 8 := if_pos h
theorem makeE_bad {l : List Rw} {k : Nat} {x : Rw} (h : ¬ 40 < l.length) (hk : l[k]? = some x) (hj : ∀ j < k, rowF l j = 0) (hx : rowCheck x ≠ 0) : makeE l = .loc (rowCheck x) k := by
  have e : rowF l k = rowCheck x := by unfold rowF; rw [hk]
  unfold makeE
  rw [if_neg h, firstErr_hit (List.getElem?_eq_some_iff.1 hk).1 hj (by rw [e]; exact hx), e]
theorem makeE_fine {l : List Rw} (h : ¬ 40 < l.length) (hj : ∀ j < l.length, rowF l j = 0) : makeE l = .nil := by
  unfold makeE
  rw [if_neg h, firstErr_all hj]
theorem makeT_bad {l : List Rw} (h : makeE l ≠ .nil) : makeT l = [] := if_neg h
theorem makeT_fine {l : List Rw} (h : makeE l = .nil) : makeT l = wholeT kData (keysR l) (bodyT ((sortR l).map rowLine)) := if_pos h
theorem rowLine_part {r : Rw} (h : rowCheck r = 0) : r.part.length ≤ 60 := by
  have h1 := rowLine_len' h
  unfold rowLine at h1
  rw [List.length_append] at h1
  omega
theorem rowText_fine {r : Rw} (h : rowCheck r = 0) : rowText r = rowLine r := if_pos h
set_option maxHeartbeats 4000000 in
set_option maxRecDepth 20000 in
theorem dataMake_any (E : Nat → Addr) (B : Nat) (v : Value) (l : List Rw) (w : World) (hE : Errs [2, 5, 8] E B w) (hT : LNum B w) (hl : RowsAt w v l) (hn : l.length ≤ 1000) (hs : ∀ r ∈ l, r.part.length ≤ 100000) :
    Calls Tryz.prog 75 #[v] w fun e w' => ∃ ev, e = .returned (.tuple #[S (makeT l), ev]) ∧ ErV E w' ev (makeE l) ∧ Below w.heap.size w w' := by
  have hBw := hE.le
  have hif := isIfaceE
  have hE1 := fun w1 (hb : Below w.heap.size w w1) => (hE.below' hb hBw).var 8 (by decide)
  simp only [errG] at hE1
  have HE1 := Lib.hid hE1
  have X := Lib.hid (fun W (h : Below w.heap.size w W) => (⟨hE.below' h hBw, hT.below' h hBw, hl.below h⟩ : Errs [2, 5, 8] E B W ∧ LNum B W ∧ RowsAt W v l))
  obtain ⟨a, c, b, o, rfl, ha, hc, hcm, hx⟩ := hl
  unfold maxLen at hcm
  have HX := Lib.hid hx
  have HS := Lib.hid hs
  clear hE1 hx hs
  go_enter Tryz.func75, Tryz.ntmps75
  go_upto_region 1 with fail
  by_cases h40 : 40 < l.length
  case pos =>
    have g : (40 : Int) < (l.length : Int) := by omega
    have HM := Lib.hid (makeE_full h40)
    have HMt : Hid (makeT l = []) := Lib.hid (makeT_bad (by rw [HM.out]; simp))
    have v8 := HE1.out _ (Below.refl _ _)
    clear h40
    go_wp2_with fail
    go_quiet (fail)
    go_wp2_with fail
    go_ret2
    exact ⟨_, by rw [HMt.out]; rfl, by rw [HM.out]; exact ⟨by decide, rfl⟩, Bdn (Below.refl _ _) _⟩
  have g : decide ((40 : Int) < (l.length : Int)) = false := by simp; omega
  have hn40 : l.length ≤ 40 := by omega
  have H40 := Lib.hid h40
  clear h40
  go_upto_block 0 with fail
  go_cut [16] (fun u wx => Hid (∀ j < l.length, rowF l j = 0) ∧ Below w.heap.size w wx)
  case first =>
    go_wp2_with fail
    go_loopw [2, 3, 16] (fun r2 r3 i wr => r2 = S [] ∧ r3 = .nilIface ∧ ∃ k : Nat, k ≤ l.length ∧ i = .int .i64 k ∧ Hid (∀ j < k, rowF l j = 0) ∧ Below w.heap.size w wr) (fun _ _ i _ => l.length - (intOf i).toNat)
    case atStart => exact ⟨rfl, rfl, 0, by omega, rfl, Lib.hid fun j hj => absurd hj (by omega), Below.refl _ _⟩
    case round =>
      obtain ⟨rfl, rfl, k, hk, rfl, hj, hb⟩ := hrel
      obtain ⟨wo, rfl⟩ : ∃ wo, wo = wr := ⟨wr, rfl⟩
      by_cases hlt : k < l.length
      case neg =>
        obtain rfl : k = l.length := by omega
        have f : decide ((l.length : Int) < (l.length : Int)) = false := by simp
        go_wp2_with fail
        go_meet
        exact ⟨hj, hb⟩
      have hk1 : (k : Int) < (l.length : Int) := by omega
      obtain ⟨x, hxk⟩ := get_ex hlt
      obtain ⟨c0, c1, c2⟩ := rwCells HX.out hb hxk
      have i1 := idx_at (c := c) 3 Tryz.underlying39 szRw ha k hlt
      have hxs := HS.out x (List.mem_of_getElem? hxk)
      have HXk := Lib.hid hxk
      have hba : Below wo.heap.size wo (wo.alloc (.cells #[S x.part, .int .i64 x.key, .int .i64 x.val] 65)) := (Below.refl _ _).alloc (Nat.le_refl _) _
      have CR := Lib.hid (fun W (h : Below (wo.alloc (.cells #[S x.part, .int .i64 x.key, .int .i64 x.val] 65)).heap.size (wo.alloc (.cells #[S x.part, .int .i64 x.key, .int .i64 x.val] 65)) W) => rowCells (r := x) (w := wo) rfl h)
      have hb3 := hb.trans (hba.mono hb.size)
      clear hxk hba
      go_upto_region 6 with fail
      generalize wo.alloc (.cells #[S x.part, .int .i64 x.key, .int .i64 x.val] 65) = w3 at *
      obtain ⟨d0, d1, d2⟩ := CR.out _ (Below.refl _ _)
      have HCk := Lib.hid (rowCheck_any E B x w3 ((X.out _ hb3).1.sub (by decide)) hxs)
      unfold rowEr at HCk
      clear c0 c1 c2 hxs
      go_wp2_with fail
      refine HCk.out.mono ?_
      rintro e w4 ⟨ev, rfl, hev, hb4⟩
      have hb4' := hb3.trans (hb4.mono hb3.size)
      by_cases hck : rowCheck x = 0
      case neg =>
        have HM := Lib.hid (makeE_bad H40.out HXk.out hj.out hck)
        have HMt : Hid (makeT l = []) := Lib.hid (makeT_bad (by rw [HM.out]; simp))
        have hev' : ErV E w4 ev (.bare (rowCheck x)) := by unfold erOf at hev; rwa [if_neg hck] at hev
        obtain ⟨hcr, rfl⟩ := hev'
        clear hev hck d0 d1 d2 HCk
        generalize rowCheck x = cx at *
        go_wp2_with fail
        go_ret2
        exact ⟨_, by rw [HMt.out]; rfl, by rw [HM.out]; exact ErV.fresh hcr _ _ _ _ rfl, hb4'.alloc hb4'.size _⟩
      have hev' : ev = .nilIface := by unfold erOf at hev; rw [if_pos hck] at hev; exact hev
      subst hev'
      have HJ1 : Hid (∀ j < k + 1, rowF l j = 0) := Lib.hid fun j hj' => (by
        rcases Nat.lt_or_ge j k with h | h
        · exact hj.out j h
        · obtain rfl : j = k := by omega
          unfold rowF; rw [HXk.out]; exact hck)
      clear hck hev d0 d1 d2 HCk
      go_wp2_with fail
      go_roundw
      case rel => exact ⟨rfl, rfl, k + 1, by omega, by go_num, HJ1, hb4'⟩
      case measure => simp [intOf]; omega
  case rest =>
    obtain ⟨hj, hb1⟩ := hcut
    obtain ⟨w1, rfl⟩ : ∃ w1, w1 = wc := ⟨wc, rfl⟩
    have hm := makeE_fine H40.out hj.out
    have HM := Lib.hid hm
    have HMt := Lib.hid (makeT_fine hm)
    obtain ⟨hr1, hr2, -⟩ := make_right hm
    have HR2 := Lib.hid hr2
    have HKn := Lib.hid (keysR_near (l := l) (makeE_nil hm).2)
    have HSo := Lib.hid (rowSort_any _ l w1 (X.out _ hb1).2.2 (by omega))
    clear hm hr2
    generalize sortR l = q at *
    go_wp2_with fail
    refine HSo.out.mono ?_
    rintro e w2 ⟨u, rfl, hown, hb2⟩
    have hb2' := hb1.trans (hb2.mono hb1.size)
    obtain ⟨a2, c2, b2, o2, rfl, ha2, hc2, hcm2, hx2⟩ := hown.at encR_enc
    unfold maxLen at hcm2
    have HX2 := Lib.hid hx2
    clear hown hx2 HSo
    go_wp2_with fail
    go_loopw [7, 34] (fun u i wr => ∃ (k : Nat) (va : Value), k ≤ q.length ∧ i = .int .i64 k ∧ va = u ∧ Own encS 9 1 w2.heap.size wr va ((q.take k).map rowLine) ∧ Below w2.heap.size w2 wr) (fun _ i _ => q.length - (intOf i).toNat)
    case atStart => exact ⟨0, _, by omega, rfl, rfl, Own.nil _ _ _ _ _, Below.refl _ _⟩
    case round =>
      obtain ⟨k, va, hk, rfl, rfl, hvl, hb⟩ := hrel
      obtain ⟨wo, rfl⟩ : ∃ wo, wo = wr := ⟨wr, rfl⟩
      have hbw := hb2'.trans (hb.mono hb2'.size)
      by_cases hlt : k < q.length
      case neg =>
        obtain rfl : k = q.length := by omega
        rw [List.take_length] at hvl
        have f : decide ((q.length : Int) < (q.length : Int)) = false := by simp
        have HVl := Lib.hid hvl
        have HKs := Lib.hid (dataKeys_any _ l wo (X.out _ hbw).2.2 (by omega))
        have hkl : (keysR l).length = l.length := by simp [keysR]
        obtain ⟨e1, e2⟩ := ends_within (l := keysR l) (B := 1073741824) (by omega) fun x hx => near (HKn.out x hx)
        have hbl := body_len (m := 60) (ls := q.map rowLine) fun s hs => by
          obtain ⟨r, hr, rfl⟩ := List.mem_map.1 hs
          exact rowLine_len' (HR2.out r hr)
        rw [List.length_map] at hbl
        have HWh := Lib.hid (fun W u hb (hk : IntsAt W u (keysR l)) (hs : StrsAt W va (q.map rowLine)) => dataWhole_any B kData u (keysR l) va (q.map rowLine) W (X.out _ hb).2.1 (by decide) hk hs (by omega) (by rw [List.length_map]; omega) (by omega) (by omega))
        clear e1 e2 hbl hvl hkl
        go_wp2_with fail
        refine HKs.out.mono ?_
        rintro e w4 ⟨u, rfl, hu, hb4⟩
        have hb4' := hbw.trans (hb4.mono hbw.size)
        have HWh4 := Lib.hid (HWh.out w4 u hb4' (hu.at encI_enc) ((HVl.out.below hb4).at encS_enc))
        clear hu
        go_wp2_with fail
        refine HWh4.out.mono ?_
        rintro e w5 ⟨rfl, hb5⟩
        go_wp2_with fail
        go_ret2
        exact ⟨_, by rw [HMt.out]; rfl, by rw [HM.out]; rfl, hb4'.trans (hb5.mono hb4'.size)⟩
      have hk1 : (k : Int) < (q.length : Int) := by omega
      obtain ⟨x, hxk⟩ := get_ex hlt
      obtain ⟨g0, g1, g2⟩ := rwCells HX2.out hb hxk
      have i1 := idx_at (c := c2) 3 Tryz.underlying39 szRw ha2 k hlt
      have hrx := HR2.out x (List.mem_of_getElem? hxk)
      have hpl := rowLine_part hrx
      have HSn : Hid ((q.take (k + 1)).map rowLine = (q.take k).map rowLine ++ [rowLine x]) := Lib.hid (by rw [take_snoc' hxk, List.map_append]; rfl)
      obtain ⟨ls, hls⟩ : ∃ ls, (q.take k).map rowLine = ls := ⟨_, rfl⟩
      have hlsl : ls.length ≤ 40 := by rw [← hls, List.length_map, List.length_take]; omega
      rw [hls] at hvl HSn
      have hba : Below wo.heap.size wo (wo.alloc (.cells #[S x.part, .int .i64 x.key, .int .i64 x.val] 65)) := (Below.refl _ _).alloc (Nat.le_refl _) _
      have CR := Lib.hid (fun W (h : Below (wo.alloc (.cells #[S x.part, .int .i64 x.key, .int .i64 x.val] 65)).heap.size (wo.alloc (.cells #[S x.part, .int .i64 x.key, .int .i64 x.val] 65)) W) => rowCells (r := x) (w := wo) rfl h)
      have HV3 := Lib.hid (hvl.below hba)
      have hb3 := hb.trans (hba.mono hb.size)
      have hbw3 := hbw.trans (hba.mono hbw.size)
      have HTx : Hid (rowText x = rowLine x) := Lib.hid (rowText_fine hrx)
      clear hxk hls hvl hrx
      go_upto_region 14 with fail
      generalize wo.alloc (.cells #[S x.part, .int .i64 x.key, .int .i64 x.val] 65) = w3 at *
      obtain ⟨d0, d1, d2⟩ := CR.out _ (Below.refl _ _)
      have HRt := Lib.hid (rowText_any E B x w3 ((X.out _ hbw3).1.sub (by decide)) (X.out _ hbw3).2.1 (by omega))
      rw [HTx.out] at HRt
      clear g0 g1 g2 HTx
      generalize rowLine x = tx at *
      go_wp2_with fail
      refine HRt.out.mono ?_
      rintro e w4 ⟨rfl, hb4⟩
      have hb4' := hb3.trans (hb4.mono hb3.size)
      have hv4 := HV3.out.below hb4
      clear d0 d1 d2
      go_wp2_with (at_builtin; refine wpList_app rfl _ _ _ rfl w2.heap.size elStr va ls.length _ rfl (hv4.alloc _) (.slice (some ⟨w4.heap.size, 0, none⟩) 1 1) 1 (encS tx) rfl (src_one rfl rfl (by simp [Value.oneCell'])) (by unfold maxLen; omega) (by omega) (by have := hb4'.size; simp; omega) ?_; intro v5 w5 hown5 hg5 _)
      go_roundw
      case rel => exact ⟨k + 1, _, by omega, by go_num, rfl, by rw [HSn.out]; exact Own.snoc hown5, Bapp (hb4'.alloc hb4'.size _) (hv4.alloc _) hg5 (Nat.le_refl _) (by have := hb4'.size; simp; omega)⟩
      case measure => simp [intOf]; omega
end Go.Proofs.YtefoaeamfkbgbaaGreatDoor
namespace Go.Proofs.YtefoaeamfkbgbaaGreatDoor
open Go.RowKit Go.Shelf Go.Sort

attribute [local go_sem] Oper.semAt_some in
set_option maxRecDepth 100000 in
set_option maxHeartbeats 2000000 in
/-- slices.Values's closure, for every loop body that keeps what lay below n₀. -/
theorem values1I_in (F : Fence) (n : Nat) (h7 : F.fn 140) (hro : F.round = none) (hn : 1 ≤ n) (l Bs n₀ : Nat) (a : Option Addr) (c b o : Nat) (zs : List Int) (ha : 0 < zs.length → a = some ⟨b, o, none⟩) (hb : 0 < zs.length → b < n₀) (J Jx : List Int → World → Prop)
    (W : World) (hcm : zs.length ≤ 9223372036854775807)
    (hY : ∀ pre x W1, J pre W1 → pre.length < zs.length → YieldAt F (n - 1) Tryz.prog l #[.int .i64 x] W1 fun e W' =>
      (e = .returned (.bool true) ∧ J (pre ++ [x]) W' ∧ Below n₀ W1 W') ∨ (e = .returned (.bool false) ∧ Jx (pre ++ [x]) W'))
    (hBs : W.cell? ⟨Bs, 0, none⟩ = some (.slice a zs.length c)) (hx : ∀ (k : Nat) (x : Int), zs[k]? = some x → ∀ (j : Nat) (u : Value), (encI x)[j]? = some u → W.cell? ⟨b, o + k * 1 + j, none⟩ = some u) (h0 : J [] W) :
    CallsIn F n Tryz.prog 140 #[.func (.yield l) #[] #[], .pointer (some ⟨Bs, 0, none⟩)] W fun e W' => (∃ v, e = .returned v) ∧ ((∃ ys, ys = zs ∧ J ys W') ∨ (∃ pre, pre <+: zs ∧ Jx pre W')) := by
  refine callsIn_of_wp Tryz.func140 rfl h7 ?_ hro
  simp only [Tryz.ntmps140, List.size_toArray, List.length_cons, List.length_nil, Nat.reduceAdd, Nat.reduceSub, Array.replicate_succ, Array.replicate_zero, List.push_toArray, List.append_toArray, List.nil_append, List.cons_append]
  gi_wp2
  gi_loopw [7] (fun i wr => ∃ k : Nat, k ≤ zs.length ∧ i = .int .i64 k ∧ J (zs.take k) wr ∧ Below n₀ W wr) (fun i _ => zs.length - (intOf i).toNat)
  case atStart => exact ⟨0, Nat.zero_le _, rfl, h0, Below.refl _ _⟩
  case round =>
    obtain ⟨k, hk, rfl, hJs, hnx⟩ := hrel
    by_cases hlt : k < zs.length
    case neg =>
      obtain rfl : k = zs.length := by omega
      rw [List.take_length] at hJs
      gi_wp2
      go_end0
      exact ⟨⟨_, rfl⟩, .inl ⟨_, rfl, hJs⟩⟩
    obtain ⟨x, hxk⟩ := get_ex hlt
    have hbn := hb (by omega)
    have c0 := (hnx.cell (p := ⟨b, o + k * 1 + 0, none⟩) hbn).trans (hx k x hxk 0 _ rfl)
    have i1 := idx_at (c := c) 1 Tryz.underlying26 szInt ha k hlt
    have hk1 : (k : Int) < (zs.length : Int) := by omega
    simp only [Nat.add_zero, Nat.mul_one] at c0 i1
    obtain ⟨fn, tmps, assign, body, hy, hR⟩ := hY _ x wr hJs (by rw [List.length_take]; omega)
    have HSn := Lib.hid (take_snoc' hxk)
    clear hxk
    gi_wp2
    refine hR.mono ?_
    rintro e W3 (⟨rfl, hJ3, hk3⟩ | ⟨rfl, hJx3⟩)
    · gi_wp2
      go_roundw
      case rel => exact ⟨k + 1, by omega, by simp, by rw [HSn.out]; exact hJ3, hnx.trans hk3⟩
      case measure => simp [intOf]; omega
    · gi_wp2
      refine bodyPost_ret (results_none rfl _ _ _) rfl ?_
      exact ⟨⟨_, rfl⟩, .inr ⟨_, by rw [← HSn.out]; exact List.take_prefix _ _, hJx3⟩⟩
theorem valuesI_any (a : Option Addr) (len cap : Nat) (w : World) :
    Calls Tryz.prog 95 #[.slice a len cap] w fun e w' => e = .returned (.func (.func 140) #[] #[.pointer (some ⟨w.heap.size, 0, none⟩)]) ∧ w' = w.alloc (.cells #[.slice a len cap] 26) := by
  go_enter Tryz.func95, Tryz.ntmps95
  go_wp2_with fail
  go_ret
  exact ⟨rfl, rfl⟩
/-- slices.Values(l) hands back a value that yields all of l, in order. -/
theorem valuesI_stops (F : Fence) (n : Nat) (h7 : F.fn 140) (hro : F.round = none) (hn : 1 ≤ n) (Bs n₀ : Nat) (v : Value) (zs : List Int) (w0 w : World) (hBs : Bs < w.heap.size) (_hn₀ : n₀ ≤ w.heap.size)
    (hc : w.cell? ⟨Bs, 0, none⟩ = some v) (hl : IntsAt w0 v zs) (hlow : w0.heap.size ≤ n₀) (hb0 : Below w0.heap.size w0 w) :
    SeqStopsK F n Tryz.prog 140 #[.pointer (some ⟨Bs, 0, none⟩)] (fun x : Int => #[.int .i64 x]) (Below n₀) (fun ys => ys = zs) (fun pre => pre <+: zs) zs.length w := fun l J Jx W hW hJ _ hY h0 => by
  obtain ⟨a, c, b, o, rfl, ha, hcc, hcm, hx⟩ := hl
  have hbn : 0 < zs.length → b < w0.heap.size := fun h => by
    obtain ⟨x, hxk⟩ := get_ex (l := zs) (k := 0) h
    exact World.block_lt_of_cell? w0 ⟨b, o + 0 * 1 + 0, none⟩ (hx 0 x hxk 0 _ rfl)
  have hbW := hb0.trans (hW.mono hb0.size)
  refine values1I_in F n h7 hro hn l Bs n₀ a c b o zs ha (fun h => Nat.lt_of_lt_of_le (hbn h) hlow) J Jx W (by unfold maxLen at hcm; omega) hY ((hW.cell (p := ⟨Bs, 0, none⟩) hBs).trans hc) (fun k x hk j u hu => ?_) h0
  have h1 := hx k x hk j u hu
  exact (hbW.cell (World.block_lt_of_cell? w0 _ h1)).trans h1
theorem infoInt : (Tryz.prog.info? 3).map (fun i => (i.zero, i.size, i.bytes)) = some (some (.int .i64 0), 1, 8) := by kernel_rfl
attribute [local go_sem] Oper.semAt_some in
set_option maxRecDepth 100000 in
set_option maxHeartbeats 2000000 in
/-- slices.AppendSeq(nil, seq): all that seq yields. -/
theorem appendSeqI_in (F : Fence) (n : Nat) (h3 : F.fn 195) (hro : F.round = none) (hn : 3 ≤ n) (gf : Nat) (lb : Array Value) (hFg : F.fn gf) (eg : ∀ args w, (callFunc gf args).run Tryz.prog w = .ok (.enter gf args) w) (zs : List Int) (hz : zs.length ≤ 100000) (n₀ : Nat) (w : World) (hn₀ : n₀ ≤ w.heap.size)
    (hseq : SeqStopsK F (n - 1) Tryz.prog gf lb (fun x : Int => #[.int .i64 x]) (Below n₀) (fun ys => ys = zs) (fun pre => pre <+: zs) zs.length w) :
    CallsIn F n Tryz.prog 195 #[.slice none 0 0, .func (.func gf) #[] lb] w fun e w' => ∃ v, e = .returned v ∧ Own encI 3 1 w.heap.size w' v zs ∧ Below w.heap.size w w' := by
  have h1 : 1 ≤ n := by omega
  obtain ⟨i0, hi, hz0, hz1, hz2⟩ := info_parts infoInt
  refine callsIn_of_wp_marks Tryz.func195 rfl h3 ?_ hro
  simp only [Tryz.ntmps195, List.size_toArray, List.length_cons, List.length_nil, Nat.reduceAdd, Nat.reduceSub, Array.replicate_succ, Array.replicate_zero, List.push_toArray, List.append_toArray, List.nil_append, List.cons_append]
  gi_wp2
  have bO := Boxed.new w 26 (.slice none 0 0)
  have hB0 : Below w.heap.size w (w.alloc (.cells #[.slice none 0 0] 26)) := (Below.refl _ w).alloc (Nat.le_refl _) _
  have hsz : (w.alloc (.cells #[.slice none 0 0] 26)).heap.size = w.heap.size + 1 := by simp
  have hseq' : SeqStopsK F (n - 1) Tryz.prog gf lb (fun x : Int => #[.int .i64 x]) (Below n₀) (fun ys => ys = zs) (fun pre => pre <+: zs) zs.length (w.alloc (.cells #[.slice none 0 0] 26)) := fun l J Jx W hW => hseq l J Jx W (hB0.trans (hW.mono hB0.size))
  obtain ⟨W0, hW0⟩ : ∃ W0, w.alloc (.cells #[.slice none 0 0] 26) = W0 := ⟨_, rfl⟩
  rw [hW0] at bO hB0 hsz hseq' ⊢
  clear hW0
  refine wpIn_rangeFunc_ownF hro h1 (gf := gf) (lb := lb) rfl hFg eg hseq' belowK_t (belowK_b (by omega)) (Below.refl _ _) (fun _ => rfl)
    (fun pre W => (∃ v, Boxed W w.heap.size 26 v ∧ W.ownsRow w.heap.size 3 1 v pre.length (pre.flatMap encI) ∧ True) ∧ Below w.heap.size w W)
    (fun _ _ _ => False)
    (OwnFrom.and (Go.Own.from (holdsRow_own w.heap.size w.heap.size 26 3 1 (fun pre : List Int => pre.length) (fun pre => pre.flatMap encI) (fun _ _ => True)) _) (ownFrom_below (Nat.le_refl _) (by omega)))
    (fun _ _ _ _ _ hs _ _ => hs)
    ⟨⟨_, bO, World.ownsRow_nil _ _ _ _, trivial⟩, hB0⟩ ?a1 ?assign ?body ?done ?stop
  case assign =>
    intro l x W K hK
    gi_wp2
    exact hK
  case body =>
    rintro l pre x W ⟨⟨v, hv, hrow, -⟩, hB⟩ hlt
    have hc := hv.cell
    gi_wp2_with (gi_at_builtin; refine wpListIn_append_own _ rfl _ _ 26 rfl w.heap.size 3 i0 _ 1 8 Tryz.underlying26 hi hz0 hz1 hz2 rfl (by decide) _ _ _ rfl (hrow.alloc _) ⟨W.heap.size, 0, none⟩ 1 1 (encI x) rfl rfl (cells_new3 _ _ _) (by simp [Value.oneCell']) (by unfold maxLen; omega) (by omega) (by have := hB.size; simp; omega) ?_; intro v' w1 hown' hgrow _; obtain ⟨g', cap', rfl⟩ := ownsRow_succ hown'; obtain ⟨hv1, hv2, hr2, hk2, hb2⟩ := hv.appended (by decide) hrow hB.size (Nat.le_refl _) hown' hgrow; have hc1 := hv1.cell; have hf1 := hv1.frozen)
    exact ⟨hk2, hb2.mono hn₀, ⟨_, hv2, by simpa using hr2, trivial⟩, hB.trans hb2⟩
  case done =>
    rintro D ys W hD rfl ⟨⟨v, hv, hrow, -⟩, hB⟩ hK
    have hc := hv.cell
    gi_wp2
    refine ⟨by simp, .inl ⟨_, _, rfl, run_takeDeferred hK, ?_⟩⟩
    exact ⟨_, results_tmp rfl _ _ _, v, rfl, ownsRow_putObj hrow _ hK rfl, hB.trans (belowK_b (w := w) (Nat.le_refl _) W D _ _ (by omega) hK rfl rfl)⟩
  case stop =>
    rintro D c pre W _ _ h _
    exact h.elim
theorem collectI_any (Bs : Nat) (v : Value) (l : List Int) (w0 w : World) (hBs : Bs < w.heap.size) (hc : w.cell? ⟨Bs, 0, none⟩ = some v) (hl : IntsAt w0 v l) (hb0 : Below w0.heap.size w0 w) (hn : l.length ≤ 100000) :
    Calls Tryz.prog 139 #[.func (.func 140) #[] #[.pointer (some ⟨Bs, 0, none⟩)]] w fun e w' => ∃ u, e = .returned u ∧ Own encI 3 1 w.heap.size w' u l ∧ Below w.heap.size w w' := by
  have HA := Lib.hid ((callsIn_wide (n := 5)).1 (appendSeqI_in Fence.wide 5 trivial rfl (by omega) 140 #[.pointer (some ⟨Bs, 0, none⟩)] trivial (enters_of Tryz.func140 (by kernel_rfl) rfl) l hn w.heap.size w (Nat.le_refl _)
    (valuesI_stops Fence.wide 4 trivial rfl (by omega) Bs w.heap.size v l w0 w hBs (Nat.le_refl _) hc hl hb0.size hb0)))
  clear hc
  go_enter Tryz.func139, Tryz.ntmps139
  go_wp2_with fail
  refine HA.out.mono ?_
  rintro e w1 ⟨u, rfl, hown, hb1⟩
  go_wp2_with fail
  go_ret
  exact ⟨_, rfl, hown, hb1⟩
theorem flat_encI (l : List Int) : l.flatMap encI = l.map (.int .i64) := flat_one _ _
theorem grownBy_grow (w : World) (os : Array Obj) : w.grownBy (grow w os) none := ⟨rfl, rfl, rfl, by simp, fun k hk _ => heap_grow_old _ _ hk⟩
theorem sortI_any (B : Nat) (v : Value) (l : List Int) (w : World) (ho : Own encI 3 1 B w v l) (hB : B ≤ w.heap.size) (hn : l.length ≤ 100000) :
    Calls Tryz.prog 74 #[v] w fun e w' => e = .returned (.tuple #[]) ∧ Own encI 3 1 B w' v (sortI l) ∧ Below B w w' := by
  have ho' : w.ownsRow B 3 1 v l.length (l.map (.int .i64)) := by rw [← flat_encI]; exact ho
  by_cases hv : v = .slice none 0 0
  · subst hv
    have h0 : l = [] := by
      rcases ho'.2 with ⟨_, h0⟩ | ⟨g, cap, cur, e, _⟩
      · exact List.eq_nil_of_length_eq_zero h0
      · cases e
    subst h0
    refine (Tryz.slices_Sort_int_none none 0 w).mono ?_
    rintro e w' ⟨rfl, rfl⟩
    exact ⟨rfl, by simpa [sortI] using ho, Below.refl _ _⟩
  · obtain ⟨g, cap, rfl, hBg, hgl, hc, hcm, -, hH⟩ := Lib.holds_of_ownsRow ho' hv
    refine (Tryz.slices_Sort_int g 0 cap l w hH hgl (by omega)).mono ?_
    rintro e w' ⟨rfl, q, os, rfl⟩
    have h1 := Lib.ownsRow_putRow (q := q) (k := l.length) (ys := sortI l) ho' (by simp) (Nat.le_refl _)
    rw [List.take_of_length_le (by simp)] at h1
    refine ⟨rfl, ?_, (Lib.below_putRow (Below.refl _ _) hBg).grown (grownBy_grow _ os) (by simpa using hB) (fun j e => by cases e)⟩
    unfold Own
    rw [flat_encI, List.length_mergeSort]
    exact World.ownsRow.kept h1 (grownBy_grow _ os) (.inr (by simp [Value.ownBlock]))
theorem compactI_any (B : Nat) (v : Value) (l : List Int) (w : World) (ho : Own encI 3 1 B w v l) (hn : l.length ≤ 100000) :
    Calls Tryz.prog 96 #[v] w fun e w' => ∃ v', e = .returned v' ∧ Own encI 3 1 B w' v' (Lib.compact l) ∧ Below B w w' := by
  have ho' : w.ownsRow B 3 1 v l.length (l.map (.int .i64)) := by rw [← flat_encI]; exact ho
  by_cases hv : v = .slice none 0 0
  · subst hv
    have h0 : l = [] := by
      rcases ho'.2 with ⟨_, h0⟩ | ⟨g, cap, cur, e, _⟩
      · exact List.eq_nil_of_length_eq_zero h0
      · cases e
    subst h0
    refine (Tryz.slices_Compact_int_empty none 0 w).mono ?_
    rintro e w' ⟨rfl, rfl⟩
    exact ⟨_, rfl, by simpa [Lib.compact, Lib.compactUpTo] using ho, Below.refl _ _⟩
  · obtain ⟨g, cap, rfl, hBg, hgl, hc, hcm, -, hH⟩ := Lib.holds_of_ownsRow ho' hv
    have hle := Lib.compact_length_le l
    refine (Tryz.slices_Compact_int g 0 cap l w hH (by omega) hc).mono ?_
    rintro e w' ⟨rfl, q, rfl⟩
    refine ⟨_, rfl, ?_, Lib.below_putRow (Below.refl _ _) hBg⟩
    have hc := Lib.ownsRow_putRow (q := q) (k := (Lib.compact l).length) (ys := Lib.compact l ++ List.replicate (l.length - (Lib.compact l).length) 0) ho' (by simp; omega) (by omega)
    rw [List.take_left] at hc
    unfold Own
    rw [flat_encI]
    exact hc
theorem sortedI_any (Bs : Nat) (v : Value) (l : List Int) (w0 w : World) (hBs : Bs < w.heap.size) (hc : w.cell? ⟨Bs, 0, none⟩ = some v) (hl : IntsAt w0 v l) (hb0 : Below w0.heap.size w0 w) (hn : l.length ≤ 100000) :
    Calls Tryz.prog 94 #[.func (.func 140) #[] #[.pointer (some ⟨Bs, 0, none⟩)]] w fun e w' => ∃ u, e = .returned u ∧ Own encI 3 1 w.heap.size w' u (sortI l) ∧ Below w.heap.size w w' := by
  have HC := Lib.hid (collectI_any Bs v l w0 w hBs hc hl hb0 hn)
  clear hc
  go_enter Tryz.func94, Tryz.ntmps94
  go_wp2_with fail
  refine HC.out.mono ?_
  rintro e w1 ⟨u, rfl, hown, hb1⟩
  have HS := Lib.hid (sortI_any w.heap.size u l w1 hown hb1.size hn)
  go_wp2_with fail
  refine HS.out.mono ?_
  rintro e w2 ⟨rfl, hown2, hb2⟩
  go_wp2_with fail
  go_ret
  exact ⟨_, rfl, hown2, hb1.trans hb2⟩
theorem goneKeys_any (v : Value) (l : List Int) (w : World) (hl : IntsAt w v l) (hn : l.length ≤ 100000) :
    Calls Tryz.prog 39 #[v] w fun e w' => ∃ u, e = .returned u ∧ Own encI 3 1 w.heap.size w' u (risOf l) ∧ Below w.heap.size w w' := by
  obtain ⟨a, c, rfl, -, -⟩ := hl.form'
  have hba : Below w.heap.size w (w.alloc (.cells #[.slice a l.length c] 26)) := (Below.refl _ _).alloc (Nat.le_refl _) _
  have c0 : (w.alloc (.cells #[.slice a l.length c] 26)).cell? ⟨w.heap.size, 0, none⟩ = some (.slice a l.length c) := by simp
  have HS := Lib.hid (sortedI_any w.heap.size _ l w _ (by simp) c0 hl hba hn)
  clear c0
  go_enter Tryz.func39, Tryz.ntmps39
  go_wp2_with fail
  refine (valuesI_any a l.length c w).mono ?_
  rintro e w1 ⟨rfl, rfl⟩
  go_wp2_with fail
  refine HS.out.mono ?_
  rintro e w2 ⟨u, rfl, hown, hb2⟩
  have HC := Lib.hid (compactI_any w.heap.size u (sortI l) w2 (hown.base (by simp)) (by simpa using hn))
  rw [compact_sort] at HC
  go_wp2_with fail
  refine HC.out.mono ?_
  rintro e w3 ⟨u3, rfl, hown3, hb3⟩
  go_wp2_with fail
  go_ret
  exact ⟨_, rfl, hown3, (hba.trans (hb2.mono hba.size)).trans hb3⟩
end Go.Proofs.YtefoaeamfkbgbaaGreatDoor
