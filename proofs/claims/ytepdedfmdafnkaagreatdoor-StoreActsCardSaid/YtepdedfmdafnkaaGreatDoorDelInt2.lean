/- slices.DeleteFunc at []int. -/
import Derived.Test.YtepdedfmdafnkaaGreatDoorDelInt
import Derived.Test.YtepdedfmdafnkaaGreatDoorOwnMore
namespace Go.Proofs.YtepdedfmdafnkaaGreatDoor
open Go.RowKit

theorem own_cell1 {α : Type} {val : α → Value} {e : TypeId} {B : Nat} {w : World} {g n cap : Nat} {l : List α} (hen : Enc (fun x => [val x]) 1) (h : Own (fun x => [val x]) e 1 B w (.slice (some ⟨g, 0, none⟩) n cap) l) {k : Nat} {x : α} (hk : l[k]? = some x) :
    w.cell? ⟨g, k, none⟩ = some (val x) ∧ w.frozen? ⟨g, k, none⟩ = false ∧ B ≤ g := by
  have hlt : k < l.length := by
    rcases Nat.lt_or_ge k l.length with h' | h'
    · exact h'
    · rw [List.getElem?_eq_none h'] at hk; cases hk
  obtain ⟨g', cap', cur, hv, hB, hg, hc, hm, hs, ht⟩ := h.open (by omega)
  cases hv
  refine ⟨?_, frozen_row hg, hB⟩
  have := flat_get hen l k x hk 0 (val x) rfl
  rw [← ht] at this
  rw [cell_of_row w g k cur e (0, 0) hg]
  simp only [Nat.mul_one, Nat.add_zero] at this
  rw [List.getElem?_take, if_pos hlt] at this
  simpa using this

/-- How far the list is, and what it holds by then. -/
def DelRel {α : Type} (p : α → Bool) (l : List α) (i j : Nat) (ys : List α) : Prop :=
  i < j ∧ j ≤ l.length ∧ ys.length = l.length ∧ ys.take i = (l.take j).filter (fun x => !p x) ∧ ys.drop j = l.drop j

theorem filter_take_none {α : Type} {p : α → Bool} {l : List α} {k : Nat} (h : ∀ (j : Nat) (y : α), j < k → l[j]? = some y → p y = false) : (l.take k).filter (fun x => !p x) = l.take k := by
  refine List.filter_eq_self.2 fun x hx => ?_
  obtain ⟨j, hj, he⟩ := List.getElem_of_mem hx
  rw [List.length_take] at hj
  have : l[j]? = some x := by rw [List.getElem_take] at he; simp [he, show j < l.length by omega]
  simp [h j x (by omega) this]
theorem DelRel.start {α : Type} {p : α → Bool} {l : List α} {k : Nat} {x : α} (hk : l[k]? = some x) (hp : p x = true) (h : ∀ (j : Nat) (y : α), j < k → l[j]? = some y → p y = false) : DelRel p l k (k + 1) l := by
  have hlt : k < l.length := by
    rcases Nat.lt_or_ge k l.length with h' | h'
    · exact h'
    · rw [List.getElem?_eq_none h'] at hk; cases hk
  refine ⟨by omega, by omega, rfl, ?_, rfl⟩
  rw [List.take_add_one, hk, List.filter_append, filter_take_none h]
  simp [hp]
theorem DelRel.skip {α : Type} {p : α → Bool} {l ys : List α} {i j : Nat} {x : α} (h : DelRel p l i j ys) (hx : l[j]? = some x) (hp : p x = true) : DelRel p l i (j + 1) ys := by
  obtain ⟨h1, h2, h3, h4, h5⟩ := h
  have hlt : j < l.length := by
    rcases Nat.lt_or_ge j l.length with h' | h'
    · exact h'
    · rw [List.getElem?_eq_none h'] at hx; cases hx
  refine ⟨by omega, by omega, h3, ?_, ?_⟩
  · rw [h4, List.take_add_one, hx, List.filter_append]; simp [hp]
  · rw [← List.drop_drop, h5, List.drop_drop]
theorem DelRel.keep {α : Type} {p : α → Bool} {l ys : List α} {i j : Nat} {x : α} (h : DelRel p l i j ys) (hx : l[j]? = some x) (hp : p x = false) : DelRel p l (i + 1) (j + 1) (ys.set i x) := by
  obtain ⟨h1, h2, h3, h4, h5⟩ := h
  have hlt : j < l.length := by
    rcases Nat.lt_or_ge j l.length with h' | h'
    · exact h'
    · rw [List.getElem?_eq_none h'] at hx; cases hx
  refine ⟨by omega, by omega, by simpa using h3, ?_, ?_⟩
  · rw [List.take_add_one (l := l), hx, List.filter_append, ← h4, List.take_add_one, List.take_set_of_le (Nat.le_refl _), List.getElem?_set_self (by omega)]
    simp [hp]
  · rw [List.drop_set_of_lt (by omega), ← List.drop_drop, h5, List.drop_drop]
theorem DelRel.next {α : Type} {p : α → Bool} {l ys : List α} {i j : Nat} {x : α} (h : DelRel p l i j ys) (hx : l[j]? = some x) : ys[j]? = some x := by
  have : (ys.drop j)[0]? = (l.drop j)[0]? := by rw [h.2.2.2.2]
  simpa [hx] using this
theorem DelRel.done {α : Type} {p : α → Bool} {l ys : List α} {i : Nat} (h : DelRel p l i l.length ys) : ys.take i = l.filter (fun x => !p x) := by
  have := h.2.2.2.1; rwa [List.take_length] at this

set_option maxHeartbeats 1000000 in
theorem deleteFuncI_any (f : FuncId) (caps : Array Value) (p : Int → Bool) (base : Nat) (w0 : World) (v : Value) (l : List Int) (w : World) (hf : Clo Tryz.prog f) (hp : PredOn Tryz.prog f caps (.int .i64) l p base w0)
    (hl : Own encI 3 1 base w v l) (hw : Below base w0 w) (hB : base ≤ w.heap.size) :
    Calls Tryz.prog 70 #[v, .func (.func f) #[] caps] w fun e w' => ∃ v', e = .returned v' ∧ Own encI 3 1 base w' v' (l.filter fun x => !p x) ∧ Below base w w' := by
  have hif := indexFuncI_any f caps p base w0 v l w hf hp (hl.at encI_enc) hw hB
  have Hif := Lib.hid hif; clear hif
  have Hf := Lib.hid hf; clear hf
  have Hp := Lib.hid hp; clear hp
  by_cases hall : ∀ (j : Nat) (x : Int), l[j]? = some x → p x = false
  · have e1 : idxVal p l = -1 := idxVal_none hall
    have e2 : l.filter (fun x => !p x) = l := List.filter_eq_self.2 fun x hx => by
      obtain ⟨j, hj, he⟩ := List.getElem_of_mem hx
      simp [hall j x (by simp [hj, he])]
    have H1 := Lib.hid e1; have H2 := Lib.hid e2; clear e1 e2 hall
    go_enter Tryz.func70, Tryz.ntmps70
    go_wp2_with fail
    refine Hif.out.mono ?_
    rintro e w1 ⟨rfl, hb⟩
    rw [H1.out]
    go_wp2_with fail
    go_ret
    exact ⟨v, rfl, by rw [H2.out]; exact hl.below hb, hb.mono hB⟩
  · obtain ⟨k, x, hk, hpx, hlow⟩ : ∃ (k : Nat) (x : Int), l[k]? = some x ∧ p x = true ∧ ∀ (j : Nat) (y : Int), j < k → l[j]? = some y → p y = false := by
      cases hfi : l.findIdx? p with
      | none =>
        exfalso; refine hall fun j x hj => ?_
        have := List.findIdx?_eq_none_iff.1 hfi x (List.mem_of_getElem? hj)
        exact this
      | some k =>
        obtain ⟨h1, h2, h3⟩ := List.findIdx?_eq_some_iff_getElem.1 hfi
        refine ⟨k, l[k], by simp, h2, fun j y hj hy => ?_⟩
        have h4 : j < l.length := by omega
        have := h3 j hj
        have hy' : l[j] = y := by rw [List.getElem?_eq_getElem h4] at hy; exact Option.some.inj hy
        rw [hy'] at this; simpa using this
    have hlt : k < l.length := by
      rcases Nat.lt_or_ge k l.length with h' | h'
      · exact h'
      · rw [List.getElem?_eq_none h'] at hk; cases hk
    have e1 : idxVal p l = k := idxVal_some hk hpx hlow
    have hst := DelRel.start hk hpx hlow
    obtain ⟨g, cap, cur, rfl, hBg, _, hcap, hm, _, _⟩ := hl.open (by omega)
    unfold maxLen at hm
    have hne : ((k : Int) == -1) = false := beq_eq_false_iff_ne.2 (by omega)
    have H1 := Lib.hid e1; have Hst := Lib.hid hst; clear e1 hst hall hlow hk
    go_enter Tryz.func70, Tryz.ntmps70
    go_wp2_with fail
    refine Hif.out.mono ?_
    rintro e w1 ⟨rfl, hb⟩
    rw [H1.out]
    have ho1 := hl.below hb
    have hb1 : Below base w w1 := hb.mono hB
    clear hl hb
    go_wp2_with fail
    go_loopw [5, 6] (fun s5 s6 wr => ∃ (i j : Nat) (ys : List Int), s5 = .int .i64 i ∧ s6 = .int .i64 j ∧ Hid (DelRel p l i j ys) ∧ Own encI 3 1 base wr (.slice (some ⟨g, 0, none⟩) l.length cap) ys ∧ Below base w wr) (fun _ s6 _ => l.length - (intOf s6).toNat)
    case atStart => exact ⟨k, k + 1, l, rfl, by go_num, Hst.out, ho1, hb1⟩
    case round =>
      obtain ⟨i, j, ys, rfl, rfl, hd, ho, hbr⟩ := hrel
      have hij := hd.out.1
      have hjn := hd.out.2.1
      have hysl := hd.out.2.2.1
      have Hysl := Lib.hid hysl; clear hysl
      by_cases hlt' : j < l.length
      · obtain ⟨x', hxj⟩ := get_ex hlt'
        have hyj := hd.out.next hxj
        obtain ⟨c1, _, _⟩ := own_cell1 (val := .int .i64) encI_enc ho hyj
        have hk1 : (j : Int) < (l.length : Int) := by omega
        have hpc := Hp.out wr x' (List.mem_of_getElem? hxj) (hw.trans hbr) (Nat.le_trans hB hbr.size)
        have Hpc := Lib.hid hpc; clear hpc hyj
        have Hxj := Lib.hid hxj; clear hxj
        have hf' := Hf.out
        unfold Clo at hf'
        go_wp2_with fail
        refine Hpc.out.mono ?_
        rintro e w2 ⟨rfl, hb2⟩
        have ho2 := ho.below hb2
        have hbr2 : Below base w w2 := hbr.trans (hb2.mono (Nat.le_trans hB hbr.size))
        clear c1
        cases hpv : p x' with
        | true =>
          have hd2 := hd.out.skip Hxj.out hpv
          have Hd2 := Lib.hid hd2; clear hd2 hpv
          go_wp2_with fail
          go_roundw
          case rel => exact ⟨i, j + 1, ys, rfl, by go_num, Hd2.out, ho2, hbr2⟩
          case measure => simp [intOf]; omega
        | false =>
          have hd2 := hd.out.keep Hxj.out hpv
          have Hd2 := Lib.hid hd2; clear hd2 hpv
          obtain ⟨y', hyi⟩ := get_ex (l := ys) (k := i) (by rw [Hysl.out]; omega)
          obtain ⟨c2, f2, _⟩ := own_cell1 (val := .int .i64) encI_enc ho2 hyi
          have ho3 := Own.set1 (val := .int .i64) encI_enc ho2 (i := i) (by rw [Hysl.out]; omega) x'
          have hk2 : (i : Int) < (l.length : Int) := by omega
          have Ho3 := Lib.hid ho3; clear ho3 hyi
          go_wp2_with fail
          go_roundw
          case rel => exact ⟨i + 1, j + 1, ys.set i x', by go_num, by go_num, Hd2.out, Ho3.out, hbr2.setCell (p := ⟨g, i, none⟩) hBg _⟩
          case measure => simp [intOf]; omega
      · obtain rfl : j = l.length := by omega
        have hfin := hd.out.done
        have Hfin := Lib.hid hfin; clear hfin
        obtain ⟨cs, hrun, ho2⟩ := run_clear_own (c := cap - i) elInt encI_enc (fun z hz u hu => by
          have : (Tryz.prog.info? 3).bind (·.zero) = some (.int .i64 0) := by kernel_rfl
          rw [this] at hz; cases hz
          simp [Value.cells] at hu; subst hu; rfl) ho (k := i) (by rw [Hysl.out]; omega)
        simp only [Nat.mul_one] at hrun
        have hci : ¬ cap = i := by omega
        have hcap2 : (i : Int) ≤ (cap : Int) := by omega
        have hil : (i : Int) ≤ (l.length : Int) := by omega
        have Ho2 := Lib.hid ho2; clear ho2
        go_wp2_with fail
        go_ret
        refine ⟨.slice (some ⟨g, 0, none⟩) i cap, rfl, ?_, Bset hbr hBg _⟩
        have := Ho2.out
        rwa [Hfin.out] at this
end Go.Proofs.YtepdedfmdafnkaaGreatDoor
