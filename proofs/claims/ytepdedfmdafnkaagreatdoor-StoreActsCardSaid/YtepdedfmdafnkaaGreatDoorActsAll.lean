/- DoW, AsStore, ActsW, in one text. -/
import Derived.Test.YtepdedfmdafnkaaGreatDoorModel
import Derived.Deep.CutBlock
import Derived.Deep.DeepCutAuto
import Derived.Deep.RegionHeld3
namespace Go.Proofs.YtepdedfmdafnkaaGreatDoor
open Go.RowKit Go.Maps

def cpN : Str := [116, 104, 101, 47, 99, 111, 112, 121]

set_option maxHeartbeats 4000000 in
set_option maxRecDepth 20000 in
theorem do_any (E : Nat → Addr) (B : Nat) (w0 : World) (hE : Errs allE E B w0) (hA : AsVar w0) (hgB : 12 < B) (sb mb xb : Nat) (v : Value) (st : St) (x : Ac) (hx : acOk x) (hxn : x.n ≤ 9223372036854775807) (w : World) (h : Both w0 sb mb xb v st st w) :
    Calls Tryz.prog 23 #[stP sb, stP xb, .agg #[S x.kind, S x.name, S x.s, .int .i64 x.n]] w fun e w' => e = .returned (.int .i64 1) ∧ ∃ v' st', Both w0 sb mb xb v' st' st' w' := by
  have hBw := hE.le
  have hsl := h.sto.lt
  have hml := h.sto.ltm
  have hxl := h.mdl.lt
  have g1 := h.h1
  have g2 := h.h2
  have g3 := h.h3
  have H := Lib.hid (h.below ((Below.refl _ w).alloc (Nat.le_refl _) (.cells #[S x.kind, S x.name, S x.s, .int .i64 x.n] 28)))
  have hA0 := heap_alloc_new w (.cells #[S x.kind, S x.name, S x.s, .int .i64 x.n] 28)
  clear h
  go_enter Tryz.func23, Tryz.ntmps23
  obtain ⟨A, hA1⟩ : ∃ A, w.heap.size = A := ⟨_, rfl⟩
  rw [hA1] at hA0 hsl hml hxl
  go_upto_block 0 with fail
  try rw [hA1]
  generalize w.alloc (.cells #[S x.kind, S x.name, S x.s, .int .i64 x.n] 28) = w4 at *
  have Cs := fun (w6 : World) (h6 : w6.heap[A]? = w4.heap[A]?) => (⟨by rw [cell_of_row w6 A 1 _ _ (0, 0) (h6.trans hA0)]; rfl, by rw [cell_of_row w6 A 2 _ _ (0, 0) (h6.trans hA0)]; rfl, by rw [cell_of_row w6 A 3 _ _ (0, 0) (h6.trans hA0)]; rfl⟩ : w6.cell? ⟨A, 1, none⟩ = some (S x.name) ∧ w6.cell? ⟨A, 2, none⟩ = some (S x.s) ∧ w6.cell? ⟨A, 3, none⟩ = some (.int .i64 x.n))
  have CS := Lib.hid Cs
  have hAl := (Array.getElem?_eq_some_iff.1 hA0).1
  have Hsz : ∀ {w6 : World}, w6.heap[A]? = w4.heap[A]? → A + 1 ≤ w6.heap.size := fun h6 => (Array.getElem?_eq_some_iff.1 (h6.trans hA0)).1
  have hAl' : A < A + 1 := Nat.lt_succ_self A
  obtain ⟨k1, k2, k3⟩ := CS.out w4 rfl
  clear Cs hA0
  go_cut [7] (fun sm wx => sm = .bool true ∧ ∃ v' st', Both w0 sb mb xb v' st' st' wx)
  case first =>
    by_cases e0 : x.kind = [112, 117, 116]
    case pos =>
      have f0 : (x.kind == [112, 117, 116]) = true := by simpa using e0
      clear e0
      as_aux_lemma =>
        have hpl := plain_put st x.name x.s
        have hcd := coded_self hpl

        have HD := Lib.hid (H.out.drew)
        go_wp2_with fail
        go_region_held3 (fun w' => w'.cell? ⟨A, 1, none⟩ = some (S x.name) ∧ w'.cell? ⟨A, 2, none⟩ = some (S x.s) ∧ w'.cell? ⟨A, 3, none⟩ = some (.int .i64 x.n)) (exact ⟨k1, k2, k3⟩) (first
          | (go_at_call 10; refine (put_any E B sb mb st x.name x.s _ ((hE.sub (by decide)).below' HD.out.bel hBw) HD.out.sto (by have := hx.1; omega) (by rcases hx.2 with h | h <;> omega) (by omega) (by omega)).mono ?_; rintro e w5 ⟨ev, rfl, hev, h5, hb5⟩; have H5 := Lib.hid (HD.out.turnS h5 hb5); have HV5 := Lib.hid (hev.any hpl); have hA5 : w5.heap[A]? = w4.heap[A]? := hb5.block A hAl (by omega) (by omega); clear k1 k2 k3; obtain ⟨k1, k2, k3⟩ := CS.out w5 hA5; clear hev h5 hb5 HD)
          | (go_at_call 50; refine (putM_any w0.heap.size xb v st x.name x.s _ H5.out.mdl (by have := hx.1; omega) (by rcases hx.2 with h | h <;> omega) H5.out.hB).mono ?_; rintro e w6 ⟨v6, rfl, h6, hb6⟩; have H6 := Lib.hid (H5.out.turnM h6 hb6); have hA6 : w6.heap[A]? = w4.heap[A]? := (hb6.block A (Nat.lt_of_lt_of_le hAl' (Hsz hA5)) (by omega) (by omega)).trans hA5; clear k1 k2 k3; obtain ⟨k1, k2, k3⟩ := CS.out w6 hA6; clear h6 hb6 H5)
          | (go_at_call 42; refine (coded2_any E B (putE st x.name x.s) _ _ _ (hE.below' H6.out.bel hBw) (hA.below H6.out.bel (by omega)) (HV5.out _)).mono ?_; rintro e w7 ⟨rfl, hb7⟩; have hcd' := hcd; rw [hcd]; have hA7 : w7.heap[A]? = w4.heap[A]? := (hb7.block A (Nat.lt_of_lt_of_le hAl' (Hsz hA6))).trans hA6; have H7 := Lib.hid (H6.out.below hb7); clear k1 k2 k3; obtain ⟨k1, k2, k3⟩ := CS.out w7 hA7; clear hb7 H6 hcd'))
        all_goals
          go_wp2_with fail
          go_meet
          exact ⟨rfl, _, _, H7.out⟩
    have f0 : (x.kind == [112, 117, 116]) = false := by simpa using e0
    clear e0
    by_cases e1 : x.kind = [103, 101, 116]
    case pos =>
      have f1 : (x.kind == [103, 101, 116]) = true := by simpa using e1
      clear e1
      as_aux_lemma =>
        go_wp2_with fail
        refine (get_any E B sb mb st x.name _ ((hE.sub (by decide)).below' H.out.bel hBw) H.out.sto (by have := hx.1; omega)).mono ?_
        rintro e w5 ⟨ev, rfl, hev, hb5⟩
        have H5 := Lib.hid (H.out.below hb5)
        have hpl : (if (getO st.objs x.name).isSome then Er.nil else .bare 6).isPlain = true := by split <;> rfl
        have hcd : codedB (if (getO st.objs x.name).isSome then Er.nil else .bare 6) (if (getO st.objs x.name).isSome then 0 else 6) = true := by split <;> rfl
        have HV5 := Lib.hid (hev.any hpl)
        have hA5 : w5.heap[A]? = w4.heap[A]? := hb5.block A hAl
        clear k1 k2 k3
        obtain ⟨k1, k2, k3⟩ := CS.out w5 hA5
        generalize hT : ((getO st.objs x.name).map (·.text)).getD [] = T
        have HT := Lib.hid hT
        clear hT hev hb5
        go_wp2_with fail
        refine (getM_any w0.heap.size xb v st x.name _ H5.out.mdl).mono ?_
        rintro e w6 ⟨rfl, hb6⟩
        have H6 := Lib.hid (H5.out.below hb6)
        rw [HT.out]
        clear hb6
        generalize (if (getO st.objs x.name).isSome = true then Er.nil else Er.bare 6) = er at *
        generalize (if (getO st.objs x.name).isSome = true then (0 : Int) else 6) = cd at *
        go_wp2_with fail
        refine (coded2_any E B er _ _ _ (hE.below' H6.out.bel hBw) (hA.below H6.out.bel (by omega)) (HV5.out _)).mono ?_
        rintro e w7 ⟨rfl, hb7⟩
        rw [hcd]
        have H7 := Lib.hid (H6.out.below hb7)
        clear hb7
        go_wp2_with fail
        go_meet
        exact ⟨rfl, _, _, H7.out⟩
    have f1 : (x.kind == [103, 101, 116]) = false := by simpa using e1
    clear e1
    by_cases e2 : x.kind = [100, 114, 111, 112]
    case pos =>
      have f2 : (x.kind == [100, 114, 111, 112]) = true := by simpa using e2
      clear e2
      as_aux_lemma =>
        have hpl := plain_drop st x.name
        have hcd := coded_self hpl

        have HD := Lib.hid (H.out.drew)
        go_wp2_with fail
        go_region_held3 (fun w' => w'.cell? ⟨A, 1, none⟩ = some (S x.name) ∧ w'.cell? ⟨A, 2, none⟩ = some (S x.s) ∧ w'.cell? ⟨A, 3, none⟩ = some (.int .i64 x.n)) (exact ⟨k1, k2, k3⟩) (first
          | (go_at_call 16; refine (drop_any E B sb mb st x.name _ ((hE.sub (by decide)).below' HD.out.bel hBw) HD.out.sto (by have := hx.1; omega)).mono ?_; rintro e w5 ⟨ev, rfl, hev, h5, hb5⟩; have H5 := Lib.hid (HD.out.turnS h5 hb5); have HV5 := Lib.hid (hev.any hpl); have hA5 : w5.heap[A]? = w4.heap[A]? := hb5.block A hAl (by omega) (by omega); clear k1 k2 k3; obtain ⟨k1, k2, k3⟩ := CS.out w5 hA5; clear hev h5 hb5 HD)
          | (go_at_call 52; refine (dropM_any w0.heap.size xb v st x.name _ H5.out.mdl H5.out.hB).mono ?_; rintro e w6 ⟨v6, rfl, h6, hb6⟩; have H6 := Lib.hid (H5.out.turnM h6 hb6); have hA6 : w6.heap[A]? = w4.heap[A]? := (hb6.block A (Nat.lt_of_lt_of_le hAl' (Hsz hA5)) (by omega) (by omega)).trans hA5; clear k1 k2 k3; obtain ⟨k1, k2, k3⟩ := CS.out w6 hA6; clear h6 hb6 H5)
          | (go_at_call 42; refine (coded2_any E B (dropE st x.name) _ _ _ (hE.below' H6.out.bel hBw) (hA.below H6.out.bel (by omega)) (HV5.out _)).mono ?_; rintro e w7 ⟨rfl, hb7⟩; have hcd' := hcd; rw [hcd]; have hA7 : w7.heap[A]? = w4.heap[A]? := (hb7.block A (Nat.lt_of_lt_of_le hAl' (Hsz hA6))).trans hA6; have H7 := Lib.hid (H6.out.below hb7); clear k1 k2 k3; obtain ⟨k1, k2, k3⟩ := CS.out w7 hA7; clear hb7 H6 hcd'))
        all_goals
          go_wp2_with fail
          go_meet
          exact ⟨rfl, _, _, H7.out⟩
    have f2 : (x.kind == [100, 114, 111, 112]) = false := by simpa using e2
    clear e2
    by_cases e3 : x.kind = [115, 119, 97, 112]
    case pos =>
      have f3 : (x.kind == [115, 119, 97, 112]) = true := by simpa using e3
      clear e3
      as_aux_lemma =>
        have hpl := plain_swap st x.name x.s
        have hcd := coded_self hpl

        have HD := Lib.hid (H.out.drew)
        go_wp2_with fail
        go_region_held3 (fun w' => w'.cell? ⟨A, 1, none⟩ = some (S x.name) ∧ w'.cell? ⟨A, 2, none⟩ = some (S x.s) ∧ w'.cell? ⟨A, 3, none⟩ = some (.int .i64 x.n)) (exact ⟨k1, k2, k3⟩) (first
          | (go_at_call 14; refine (swap_any E B sb mb st x.name x.s _ ((hE.sub (by decide)).below' HD.out.bel hBw) HD.out.sto (by rcases hx.2 with h | h <;> omega) (by omega) (by omega)).mono ?_; rintro e w5 ⟨ev, rfl, hev, h5, hb5⟩; have H5 := Lib.hid (HD.out.turnS h5 hb5); have HV5 := Lib.hid (hev.any hpl); have hA5 : w5.heap[A]? = w4.heap[A]? := hb5.block A hAl (by omega) (by omega); clear k1 k2 k3; obtain ⟨k1, k2, k3⟩ := CS.out w5 hA5; clear hev h5 hb5 HD)
          | (go_at_call 53; refine (swapM_any w0.heap.size xb v st x.name x.s _ H5.out.mdl (by rcases hx.2 with h | h <;> omega)).mono ?_; rintro e w6 ⟨rfl, h6, hb6⟩; have H6 := Lib.hid (H5.out.turnM h6 hb6); have hA6 : w6.heap[A]? = w4.heap[A]? := (hb6.block A (Nat.lt_of_lt_of_le hAl' (Hsz hA5)) (by omega) (by omega)).trans hA5; clear k1 k2 k3; obtain ⟨k1, k2, k3⟩ := CS.out w6 hA6; clear h6 hb6 H5)
          | (go_at_call 42; refine (coded2_any E B (swapE st x.name x.s) _ _ _ (hE.below' H6.out.bel hBw) (hA.below H6.out.bel (by omega)) (HV5.out _)).mono ?_; rintro e w7 ⟨rfl, hb7⟩; have hcd' := hcd; rw [hcd]; have hA7 : w7.heap[A]? = w4.heap[A]? := (hb7.block A (Nat.lt_of_lt_of_le hAl' (Hsz hA6))).trans hA6; have H7 := Lib.hid (H6.out.below hb7); clear k1 k2 k3; obtain ⟨k1, k2, k3⟩ := CS.out w7 hA7; clear hb7 H6 hcd'))
        all_goals
          go_wp2_with fail
          go_meet
          exact ⟨rfl, _, _, H7.out⟩
    have f3 : (x.kind == [115, 119, 97, 112]) = false := by simpa using e3
    clear e3
    by_cases e4 : x.kind = [99, 117, 116]
    case pos =>
      have f4 : (x.kind == [99, 117, 116]) = true := by simpa using e4
      clear e4
      as_aux_lemma =>
        have hpl := plain_cut st x.n
        have hcd := coded_self hpl
        have hcc := Lib.hid (cutE_code st x.n)
        have HD := Lib.hid (H.out.drew)
        go_wp2_with fail
        go_region_held3 (fun w' => w'.cell? ⟨A, 1, none⟩ = some (S x.name) ∧ w'.cell? ⟨A, 2, none⟩ = some (S x.s) ∧ w'.cell? ⟨A, 3, none⟩ = some (.int .i64 x.n)) (exact ⟨k1, k2, k3⟩) (first
          | (go_at_call 17; refine (cutSt_any E B sb mb st x.n _ ((hE.sub (by decide)).below' HD.out.bel hBw) HD.out.sto hxn).mono ?_; rintro e w5 ⟨ev, rfl, hev, h5, hb5⟩; have H5 := Lib.hid (HD.out.turnS h5 hb5); have HV5 := Lib.hid (hev.any hpl); have hA5 : w5.heap[A]? = w4.heap[A]? := hb5.block A hAl (by omega) (by omega); clear k1 k2 k3; obtain ⟨k1, k2, k3⟩ := CS.out w5 hA5; clear hev h5 hb5 HD)
          | (go_at_call 54; refine (cutM_any w0.heap.size xb v st x.n _ H5.out.mdl hxn).mono ?_; rintro e w6 ⟨rfl, h6, hb6⟩; rw [← hcc.out]; have H6 := Lib.hid (H5.out.turnM h6 hb6); have hA6 : w6.heap[A]? = w4.heap[A]? := (hb6.block A (Nat.lt_of_lt_of_le hAl' (Hsz hA5)) (by omega) (by omega)).trans hA5; clear k1 k2 k3; obtain ⟨k1, k2, k3⟩ := CS.out w6 hA6; clear h6 hb6 H5)
          | (go_at_call 42; refine (coded2_any E B (cutE st x.n) _ _ _ (hE.below' H6.out.bel hBw) (hA.below H6.out.bel (by omega)) (HV5.out _)).mono ?_; rintro e w7 ⟨rfl, hb7⟩; have hcd' := hcd; rw [hcd]; have hA7 : w7.heap[A]? = w4.heap[A]? := (hb7.block A (Nat.lt_of_lt_of_le hAl' (Hsz hA6))).trans hA6; have H7 := Lib.hid (H6.out.below hb7); clear k1 k2 k3; obtain ⟨k1, k2, k3⟩ := CS.out w7 hA7; clear hb7 H6 hcd'))
        all_goals
          go_wp2_with fail
          go_meet
          exact ⟨rfl, _, _, H7.out⟩
    have f4 : (x.kind == [99, 117, 116]) = false := by simpa using e4
    clear e4
    by_cases e5 : x.kind = [111, 110]
    case pos =>
      have f5 : (x.kind == [111, 110]) = true := by simpa using e5
      clear e5
      as_aux_lemma =>
        go_wp2_with fail
        refine (on_any sb mb st _ H.out.sto).mono ?_
        rintro e w5 ⟨rfl, h5, hb5⟩
        have H5 := Lib.hid (H.out.turnS h5 hb5)
        clear h5 hb5
        go_wp2_with fail
        refine (onM_any w0.heap.size xb v st _ H5.out.mdl).mono ?_
        rintro e w6 ⟨rfl, h6, hb6⟩
        have H6 := Lib.hid (H5.out.turnM h6 hb6)
        clear h6 hb6 k1 k2 k3
        go_wp2_with fail
        go_meet
        exact ⟨rfl, _, _, H6.out⟩
    have f5 : (x.kind == [111, 110]) = false := by simpa using e5
    clear e5
    by_cases e6 : x.kind = [110, 101, 120, 116]
    case pos =>
      have f6 : (x.kind == [110, 101, 120, 116]) = true := by simpa using e6
      clear e6
      as_aux_lemma =>
        by_cases hb : nextBad st x.n
        case pos =>
          go_wp2_with fail
          refine (next_any E B sb mb st x.n _ ((hE.sub (by decide)).below' H.out.bel hBw) H.out.sto).mono ?_
          rintro e w5 ⟨ev, rfl, hev, h5, hb5⟩
          rw [if_pos hb] at hev ⊢
          have H5 := Lib.hid (H.out.turnS h5 hb5)
          have HV5 := Lib.hid (hev.any (by rfl))
          have hA5 : w5.heap[A]? = w4.heap[A]? := hb5.block A hAl (by omega) (by omega)
          clear k1 k2 k3
          obtain ⟨k1, k2, k3⟩ := CS.out w5 hA5
          clear hev h5 hb5
          have HB := Lib.hid hb
          clear hb
          generalize hdd : (0 : Int) = dd at *
          have HDD := Lib.hid hdd; clear hdd
          go_wp2_with fail
          refine (nextM_any w0.heap.size xb v st x.n _ H5.out.mdl).mono ?_
          rintro e w6 ⟨rfl, h6, hb6⟩
          rw [if_pos HB.out, if_pos HB.out, HDD.out]
          have H6 := Lib.hid (H5.out.turnM h6 hb6)
          clear h6 hb6
          go_wp2_with fail
          refine (coded2_any E B ((.bare 2)) _ _ _ (hE.below' H6.out.bel hBw) (hA.below H6.out.bel (by omega)) (HV5.out _)).mono ?_
          rintro e w7 ⟨rfl, hb7⟩
          rw [show codedB (.bare 2) 2 = true from rfl]
          have H7 := Lib.hid (H6.out.below hb7)
          clear hb7
          have fdd : (dd == dd) = true := by simp
          go_wp2_with fail
          go_meet
          exact ⟨by simp, _, _, H7.out⟩
        case neg =>
          go_wp2_with fail
          refine (next_any E B sb mb st x.n _ ((hE.sub (by decide)).below' H.out.bel hBw) H.out.sto).mono ?_
          rintro e w5 ⟨ev, rfl, hev, h5, hb5⟩
          rw [if_neg hb] at hev ⊢
          have H5 := Lib.hid (H.out.turnS h5 hb5)
          have HV5 := Lib.hid (hev.any (by rfl))
          have hA5 : w5.heap[A]? = w4.heap[A]? := hb5.block A hAl (by omega) (by omega)
          clear k1 k2 k3
          obtain ⟨k1, k2, k3⟩ := CS.out w5 hA5
          clear hev h5 hb5
          have HB := Lib.hid hb
          clear hb
          generalize hdd : st.day + x.n = dd at *
          have HDD := Lib.hid hdd; clear hdd
          go_wp2_with fail
          refine (nextM_any w0.heap.size xb v st x.n _ H5.out.mdl).mono ?_
          rintro e w6 ⟨rfl, h6, hb6⟩
          rw [if_neg HB.out, if_neg HB.out, HDD.out]
          have H6 := Lib.hid (H5.out.turnM h6 hb6)
          clear h6 hb6
          go_wp2_with fail
          refine (coded2_any E B (.nil) _ _ _ (hE.below' H6.out.bel hBw) (hA.below H6.out.bel (by omega)) (HV5.out _)).mono ?_
          rintro e w7 ⟨rfl, hb7⟩
          rw [show codedB .nil 0 = true from rfl]
          have H7 := Lib.hid (H6.out.below hb7)
          clear hb7
          have fdd : (dd == dd) = true := by simp
          go_wp2_with fail
          go_meet
          exact ⟨by simp, _, _, H7.out⟩
    have f6 : (x.kind == [110, 101, 120, 116]) = false := by simpa using e6
    clear e6
    as_aux_lemma =>
      clear k1 k2 k3
      go_wp2_with fail
      refine (copy_any sb mb st _ H.out.sto).mono ?_
      rintro e w5 ⟨wb, wm, rfl, hwb, hwm, hcp, hb5⟩
      have H5 := Lib.hid (H.out.below hb5)
      have C5 := Lib.hid hcp
      have hsl := H.out.sto.lt
      have hml := H.out.sto.ltm
      have hxl := H.out.mdl.lt
      have hne : (wb ≠ sb ∧ wb ≠ mb ∧ wm ≠ sb ∧ wm ≠ mb) ∧ wb ≠ xb ∧ wm ≠ xb := by omega
      have hw0 := H.out.bel.size
      have hwb' : w0.heap.size ≤ wb := by omega
      have hwm' : w0.heap.size ≤ wm := by omega
      clear hb5 hcp
      go_wp2_with fail
      refine (same_true sb mb wb wm st st _ H5.out.sto C5.out rfl rfl rfl rfl).mono ?_
      rintro e w6 ⟨rfl, hb6⟩
      have H6 := Lib.hid (H5.out.below hb6)
      have C6 := Lib.hid (C5.out.below hb6)
      clear hb6
      go_wp2_with fail
      refine (on_any wb wm st _ C6.out).mono ?_
      rintro e w7 ⟨rfl, h7, hb7⟩
      have H7 := Lib.hid (H6.out.turnC C6.out hwb' hwm' hne.1 hne.2 hb7)
      have C7 := Lib.hid h7
      clear h7 hb7
      go_wp2_with fail
      refine (put_any E B wb wm _ cpN [120] _ ((hE.sub (by decide)).below' H7.out.bel hBw) C7.out (by decide) (by decide) (by omega) (by omega)).mono ?_
      rintro e w8 ⟨ev8, rfl, -, -, hb8⟩
      have H8 := Lib.hid (H7.out.turnC C7.out hwb' hwm' hne.1 hne.2 hb8)
      clear hb8
      go_wp2_with fail
      refine (get_any E B sb mb st cpN _ ((hE.sub (by decide)).below' H8.out.bel hBw) H8.out.sto (by decide)).mono ?_
      rintro e w9 ⟨ev, rfl, hev, hb9⟩
      have H9 := Lib.hid (H8.out.below hb9)
      generalize ((getO st.objs cpN).map (·.text)).getD [] = T
      clear hb9
      go_wp2_with fail
      refine (findM_any w0.heap.size xb v st cpN _ H9.out.mdl).mono ?_
      rintro e w10 ⟨r, rfl, hr, hb10⟩
      have H10 := Lib.hid (H9.out.below hb10)
      clear hb10
      rcases hr.got H9.out.mdl.ok.ris with ⟨k, y, rfl, -, -, -, hg⟩ | ⟨rfl, hg⟩
      · rw [hg] at hev
        obtain rfl : ev = .nilIface := hev
        have f1 : (0 : Int) ≤ (k : Int) := by omega
        clear hr hg
        go_wp2_with fail
        go_meet
        exact ⟨rfl, _, _, H10.out⟩
      · rw [hg] at hev
        obtain ⟨u1, x1, rfl⟩ := ErV.iface hev (by simp)
        clear hr hg hev
        go_wp2_with fail
        go_meet
        exact ⟨rfl, _, _, H10.out⟩
  case rest =>
    obtain ⟨rfl, v', st', h⟩ := hcut
    go_wp2_with fail
    go_ret
    exact ⟨rfl, v', st', h⟩
end Go.Proofs.YtepdedfmdafnkaaGreatDoor
namespace Go.Proofs.YtepdedfmdafnkaaGreatDoor
open Go.RowKit Go.Maps

theorem sameTexts_self (v u : Value) (l : List Str) (w : World) (hl : StrsAt w v l) (hm : StrsAt w u l) :
    Calls Tryz.prog 57 #[v, u] w fun e w' => e = .returned (.bool true) ∧ Below w.heap.size w w' :=
  (sameTexts_any v u l l w hl hm).mono fun _ _ ⟨h1, h2⟩ => ⟨by rw [h1]; simp, h2⟩

set_option maxHeartbeats 4000000 in
set_option maxRecDepth 20000 in
theorem asStore_any (E : Nat → Addr) (B : Nat) (w0 : World) (hE : Errs allE E B w0) (sb mb xb : Nat) (v : Value) (st : St) (w : World) (h : Both w0 sb mb xb v st st w) :
    Calls Tryz.prog 25 #[stP sb, stP xb] w fun e w' => e = .returned (.int .i64 1) ∧ Below w.heap.size w w' := by
  have hBw := hE.le
  have H := Lib.hid h; clear h
  have HD := Lib.hid H.out.drew
  have c1 := HD.out.mdl.c1
  have c2 := HD.out.mdl.c2
  have c3 := HD.out.mdl.c3
  have hb1 : Below w.heap.size w w.drew := Bdn (Below.refl _ _) 1
  have f1 : (st.head == st.head) = true := by simp
  have f2 : (st.day == st.day) = true := by simp
  have f3 : ((!st.off) == st.off) = false := by cases st.off <;> rfl
  go_enter Tryz.func25, Tryz.ntmps25
  go_wp2_with fail
  go_region_held3 (fun w' => w'.cell? ⟨xb, 1, none⟩ = some (S st.head) ∧ w'.cell? ⟨xb, 2, none⟩ = some (.int .i64 st.day) ∧ w'.cell? ⟨xb, 3, none⟩ = some (.bool st.off)) (exact ⟨c1, c2, c3⟩) (first
      | (go_at_call 21; refine (namesSt_any sb mb st _ HD.out.sto).mono ?_; rintro e w2 ⟨u2, rfl, ho2, hb⟩; have hb2 := hb1.trans (hb.mono hb1.size); have H2 := Lib.hid (HD.out.below hb); have O2 := Lib.hid ho2; clear c1 c2 c3; have c1 := H2.out.mdl.c1; have c2 := H2.out.mdl.c2; have c3 := H2.out.mdl.c3; clear hb hb1 ho2)
      | (go_at_call 58; refine (namesM_any w0.heap.size xb v st _ H2.out.mdl).mono ?_; rintro e w3 ⟨u3, rfl, ho3, hb⟩; have hb3 := hb2.trans (hb.mono hb2.size); have H3 := Lib.hid (H2.out.below hb); have A2 := Lib.hid ((O2.out.below hb).at encS_enc); have A3 := Lib.hid (ho3.at encS_enc); clear c1 c2 c3; have c1 := H3.out.mdl.c1; have c2 := H3.out.mdl.c2; have c3 := H3.out.mdl.c3; clear hb hb2 ho3 O2)
      | (go_at_call 57; refine (sameTexts_self _ _ _ _ A2.out A3.out).mono ?_; rintro e w4 ⟨rfl, hb⟩; have hb4 := hb3.trans (hb.mono hb3.size); have H4 := Lib.hid (H3.out.below hb); clear c1 c2 c3; have c1 := H4.out.mdl.c1; have c2 := H4.out.mdl.c2; have c3 := H4.out.mdl.c3; clear hb hb3 A2 A3)
      | (go_at_call 15; refine (head_any sb mb st _ H4.out.sto).mono ?_; rintro e w5 ⟨rfl, rfl⟩)
      | (go_at_call 20; refine (daySt_any sb mb st _ H4.out.sto).mono ?_; rintro e w5 ⟨rfl, rfl⟩)
      | (go_at_call 12; refine (power_any sb mb st _ H4.out.sto).mono ?_; rintro e w5 ⟨rfl, rfl⟩))
  all_goals
    clear c1 c2 c3 f1 f2 f3
    obtain ⟨a, c, b, o, rfl, ha, -, hm, hx⟩ := H4.out.mdl.own.at encO_enc
    unfold maxLen at hm
    have hn := H4.out.mdl.ok.num
    have c0 := H4.out.mdl.c0
    go_wp2_with fail
    go_loopw [5] (fun i wr => ∃ k : Nat, k ≤ st.objs.length ∧ i = .int .i64 k ∧ Below w4.heap.size w4 wr) (fun i _ => st.objs.length - (intOf i).toNat)
    case atStart => exact ⟨0, by omega, rfl, Below.refl _ _⟩
    case round =>
      obtain ⟨k, hk, rfl, hb⟩ := hrel
      have c0 := (hb.cell (World.block_lt_of_cell? w4 _ c0)).trans c0
      have hb' := hb4.trans (hb.mono hb4.size)
      by_cases hlt : k < st.objs.length
      case neg =>
        have f : decide ((k : Int) < (st.objs.length : Int)) = false := by simp; omega
        go_wp2_with fail
        go_ret
        exact ⟨rfl, hb'⟩
      obtain ⟨x, hxk⟩ := get_ex hlt
      have q0 := hx k x hxk 0 _ rfl
      have q1 := hx k x hxk 1 _ rfl
      have q2 := hx k x hxk 2 _ rfl
      have i1 := idx_at (c := c) 3 Tryz.underlying50 szOb ha k hlt
      have f : (k : Int) < (st.objs.length : Int) := by omega
      simp only [Nat.add_zero] at q0
      have hg := getO_of_mem H4.out.sto.ok.ris (List.mem_of_getElem? hxk)
      have hxl := H4.out.sto.ok.nam x (List.mem_of_getElem? hxk)
      have Q := Lib.hid (⟨q0, q1, q2⟩ : _ ∧ _ ∧ _)
      have HR := Lib.hid (H4.out.below hb)
      have HG := Lib.hid hg
      clear hxk hg
      have q0 := (hb.cell (World.block_lt_of_cell? w4 _ q0)).trans q0
      have q1 := (hb.cell (World.block_lt_of_cell? w4 _ q1)).trans q1
      have q2 := (hb.cell (World.block_lt_of_cell? w4 _ q2)).trans q2
      go_wp2_with fail
      refine (get_any E B sb mb st x.name _ ((hE.sub (by decide)).below' HR.out.bel hBw) HR.out.sto (by omega)).mono ?_
      rintro e w6 ⟨ev, rfl, hev, hb6⟩
      rw [HG.out] at hev ⊢
      obtain rfl : ev = .nilIface := hev
      have H6 := Lib.hid (HR.out.below hb6)
      have h46 := hb.trans (hb6.mono hb.size)
      have H6D := Lib.hid H6.out.drew
      have h46D : Below w4.heap.size w4 w6.drew := Bdn h46 1
      clear c0 q0 q1 q2 hb6
      obtain ⟨q0, q1, q2⟩ := Q.out
      have q0 := (h46D.cell (World.block_lt_of_cell? w4 _ q0)).trans q0
      have q1 := (h46D.cell (World.block_lt_of_cell? w4 _ q1)).trans q1
      have q2 := (h46D.cell (World.block_lt_of_cell? w4 _ q2)).trans q2
      have c0 := H6D.out.mdl.c0
      have g1 : (x.text == x.text) = true := by simp
      have g2 : (x.day == x.day) = true := by simp
      go_wp2_with fail
      go_region_held3 (fun w' => w'.cell? ⟨xb, 0, none⟩ = some (.slice a st.objs.length c) ∧ w'.cell? ⟨b, o + k * 3, none⟩ = some (S x.name) ∧ w'.cell? ⟨b, o + k * 3 + 1, none⟩ = some (S x.text) ∧ w'.cell? ⟨b, o + k * 3 + 2, none⟩ = some (.int .i64 x.day)) (exact ⟨c0, q0, q1, q2⟩) (first
          | (go_at_call 26; refine (born_any sb mb st x.name _ H6D.out.sto (by omega)).mono ?_; rintro e w7 ⟨rfl, hb7⟩; rw [HG.out]; have h47 := h46D.trans (hb7.mono h46D.size); have H7 := Lib.hid (H6D.out.below hb7); clear c0 q0 q1 q2; obtain ⟨q0, q1, q2⟩ := Q.out; have q0 := (h47.cell (World.block_lt_of_cell? w4 _ q0)).trans q0; have q1 := (h47.cell (World.block_lt_of_cell? w4 _ q1)).trans q1; have q2 := (h47.cell (World.block_lt_of_cell? w4 _ q2)).trans q2; have c0 := H7.out.mdl.c0; clear hb7))
      all_goals
        clear c0 q0 q1 q2
        go_wp2_with fail
        go_roundw
        case rel => exact ⟨k + 1, by omega, by go_num, h47⟩
        case measure => simp [intOf]; omega
end Go.Proofs.YtepdedfmdafnkaaGreatDoor
namespace Go.Proofs.YtepdedfmdafnkaaGreatDoor
open Go.RowKit Go.Maps

theorem same_place {l : List Ob} {n : Str} {x y : Ob} {i j : Nat} (hx : getO l n = some x) (hy : getO l n = some y) (hi : l[i]? = some x) (hj : l[j]? = some y) (hr : Rising l) : i = j := by
  obtain rfl : x = y := Option.some.inj (hx.symm.trans hy)
  have hne := List.pairwise_iff_getElem.1 hr
  obtain ⟨hi1, hi2⟩ := List.getElem?_eq_some_iff.1 hi
  obtain ⟨hj1, hj2⟩ := List.getElem?_eq_some_iff.1 hj
  rcases Nat.lt_trichotomy i j with h | h | h
  · have := hne i j hi1 hj1 h
    rw [hi2, hj2] at this
    have := bef_asym this
    simp_all
  · exact h
  · have := hne j i hj1 hi1 h
    rw [hi2, hj2] at this
    have := bef_asym this
    simp_all

set_option maxHeartbeats 4000000 in
set_option maxRecDepth 20000 in
theorem acts_any (E : Nat → Addr) (B : Nat) (v1 : Value) (l : List Ac) (n : Str) (w : World) (hE : Errs allE E B w) (hA : AsVar w) (hgB : 12 < B) (hl : ActsAt w v1 l) (hn : ∀ a ∈ l, a.n ≤ 9223372036854775807) :
    Calls Tryz.prog 4 #[v1, S n] w fun e w' => e = .returned (.bool true) ∧ Below w.heap.size w w' := by
  have HL := Lib.hid hl
  obtain ⟨a1, c1, b1, o1, rfl, ha1, -, hm1, hx1⟩ := hl
  unfold maxLen at hm1
  go_enter Tryz.func4, Tryz.ntmps4
  go_wp2_with fail
  refine (stored_any E B _ hE hA hgB).mono ?_
  rintro e w1 ⟨rfl, hb1⟩
  go_wp2_with fail
  refine (longActs_any _ l _ (HL.out.below hb1)).mono ?_
  rintro e w2 ⟨rfl | ⟨rfl, h80, hok⟩, hb2⟩
  · go_wp2_with fail
    go_ret
    exact ⟨rfl, hb1.trans (hb2.mono hb1.size)⟩
  have hb2' := hb1.trans (hb2.mono hb1.size)
  by_cases h40 : n.length ≤ 40
  case neg =>
    have g : (40 : Int) < (n.length : Int) := by omega
    go_wp2_with fail
    go_ret
    exact ⟨rfl, hb2'⟩
  have g40 : decide ((40 : Int) < (n.length : Int)) = false := by simp; omega
  have HK := Lib.hid hok
  clear hb2 hok
  go_wp2_with fail
  refine (new_any _).mono ?_
  rintro e w3 ⟨sb, mb, rfl, hst, hsb, hmb, hb3⟩
  have hBw := hE.le
  have hsb : w.heap.size ≤ sb := Nat.le_trans hb2'.size hsb
  have hmb : w.heap.size ≤ mb := Nat.le_trans hb2'.size hmb
  have hb3' := hb2'.trans (hb3.mono hb2'.size)
  clear hb3 hb2'
  go_wp2_with fail
  refine (newMod_any _).mono ?_
  rintro e w4 ⟨xb, rfl, hxb, hmd, hb4⟩
  have hsl := hst.lt
  have hml := hst.ltm
  have hz := hb3'.size
  have H4 : Both w sb mb xb (.slice none 0 0) St.new St.new w4 := { sto := hst.below hb4, mdl := ⟨hmd.blk, own_base hmd.own hz, hmd.ok⟩, bel := hb3'.trans (hb4.mono hz), h1 := hsb, h2 := hmb, h3 := Nat.le_trans hz hxb, n1 := by omega, n2 := by omega }
  have H4 := Lib.hid H4
  clear hb4 hmd hst hb3' hz
  go_wp2_with fail
  go_loopw [8] (fun i wr => ∃ (k : Nat) (v : Value) (st : St), i = .int .i64 k ∧ k ≤ l.length ∧ Both w sb mb xb v st st wr) (fun i _ => l.length - (intOf i).toNat)
  case atStart => exact ⟨0, _, _, rfl, by omega, H4.out⟩
  case round =>
    obtain ⟨k, v, st, rfl, hk, h⟩ := hrel
    have H := Lib.hid h
    clear h H4
    by_cases hlt : k < l.length
    case pos =>
      obtain ⟨x, hxk⟩ := get_ex hlt
      have q0 := hx1 k x hxk 0 _ rfl
      have q1 := hx1 k x hxk 1 _ rfl
      have q2 := hx1 k x hxk 2 _ rfl
      have q3 := hx1 k x hxk 3 _ rfl
      have q0 := (H.out.bel.cell (World.block_lt_of_cell? w _ q0)).trans q0
      have q1 := (H.out.bel.cell (World.block_lt_of_cell? w _ q1)).trans q1
      have q2 := (H.out.bel.cell (World.block_lt_of_cell? w _ q2)).trans q2
      have q3 := (H.out.bel.cell (World.block_lt_of_cell? w _ q3)).trans q3
      have i1 := idx_at (c := c1) 4 Tryz.underlying22 szAct ha1 k hlt
      have f : (k : Int) < (l.length : Int) := by omega
      have hxo := HK.out x (List.mem_of_getElem? hxk)
      have hxn := hn x (List.mem_of_getElem? hxk)
      simp only [Nat.add_zero] at q0
      clear hxk
      go_wp2_with fail
      refine (do_any E B w hE hA hgB sb mb xb v st x hxo hxn _ H.out).mono ?_
      rintro e w5 ⟨rfl, v5, st5, h5⟩
      have H5 := Lib.hid h5
      clear h5
      go_wp2_with fail
      go_roundw
      case rel => exact ⟨k + 1, v5, st5, by go_num, by omega, H5.out⟩
      case measure => simp [intOf]; omega
    have f : decide ((k : Int) < (l.length : Int)) = false := by simp; omega
    clear hx1 ha1 hm1
    go_wp2_with fail
    refine (findM_any w.heap.size xb v st n _ H.out.mdl).mono ?_
    rintro e w6 ⟨r, rfl, hr, hb6⟩
    have H6 := Lib.hid (H.out.below hb6)
    clear hb6
    rcases hr.got H.out.mdl.ok.ris with ⟨j, y, rfl, hj, hyj, hyn, hg⟩ | ⟨rfl, hg⟩
    · obtain ⟨a, c, b, o, rfl, ha, -, hm, hx⟩ := H6.out.mdl.own.at encO_enc
      unfold maxLen at hm
      have HY := Lib.hid hyj
      have HG := Lib.hid hg
      have hb6D : Below w6.heap.size w6 w6.drew := Bdn (Below.refl _ _) 1
      have H6D := Lib.hid H6.out.drew
      have q2 := hx j y hyj 2 _ rfl
      have i2 := idx_at (c := c) 3 Tryz.underlying50 szOb ha j hj
      have c0 := H6D.out.mdl.c0
      have gj : (0 : Int) ≤ (j : Int) := by omega
      have Q2 := Lib.hid (fun (wz : World) (hz : Below w6.heap.size w6 wz) => (hz.cell (World.block_lt_of_cell? w6 _ q2)).trans q2)
      have q2 := Q2.out _ hb6D
      clear hr hg hyj hx
      go_wp2_with fail
      go_region_held3 (fun w' => w'.cell? ⟨xb, 0, none⟩ = some (.slice a st.objs.length c) ∧ w'.cell? ⟨b, o + j * 3 + 2, none⟩ = some (.int .i64 y.day)) (exact ⟨c0, q2⟩) (first
        | (go_at_call 24; refine (findM_any w.heap.size xb _ st n _ H6D.out.mdl).mono ?_; rintro e w7 ⟨r, rfl, hr, hb7⟩; obtain ⟨j', y', rfl, hj', hyj', -, hg'⟩ := (hr.got H6D.out.mdl.ok.ris).resolve_right (fun h => by rw [HG.out] at h; cases h.2); obtain rfl : j' = j := same_place hg' HG.out hyj' HY.out H6D.out.mdl.ok.ris; have H7 := Lib.hid (H6D.out.below hb7); clear c0 q2; have c0 := H7.out.mdl.c0; have q2 := Q2.out _ (hb6D.trans (hb7.mono hb6D.size)); clear hr hb7 hg' hyj'))
      all_goals
        go_wp2_with fail
        refine (asStore_any E B w hE sb mb xb _ st _ H7.out).mono ?_
        rintro e w8 ⟨rfl, hb8⟩
        have H8 := Lib.hid (H7.out.below hb8)
        clear hb8
        go_wp2_with fail
        refine (born_any sb mb st n _ H8.out.sto (by omega)).mono ?_
        rintro e w9 ⟨rfl, hb9⟩
        have H9 := Lib.hid (H8.out.below hb9)
        rw [HG.out]
        clear hb9
        go_wp2_with fail
        refine (same_true sb mb sb mb st st _ H9.out.sto H9.out.sto rfl rfl rfl rfl).mono ?_
        rintro e w10 ⟨rfl, hb10⟩
        have H10 := Lib.hid (H9.out.below hb10)
        clear hb10
        go_wp2_with fail
        refine (same_nil sb _).mono ?_
        rintro e w11 ⟨rfl, rfl⟩
        go_wp2_with fail
        refine (same_nils _).mono ?_
        rintro e w12 ⟨rfl, rfl⟩
        go_wp2_with fail
        go_ret
        exact ⟨rfl, H10.out.bel⟩
    · have HG := Lib.hid hg
      have H7 := H6
      clear hr hg
      go_wp2_with fail
      refine (asStore_any E B w hE sb mb xb _ st _ H7.out).mono ?_
      rintro e w8 ⟨rfl, hb8⟩
      have H8 := Lib.hid (H7.out.below hb8)
      clear hb8
      go_wp2_with fail
      refine (born_any sb mb st n _ H8.out.sto (by omega)).mono ?_
      rintro e w9 ⟨rfl, hb9⟩
      have H9 := Lib.hid (H8.out.below hb9)
      rw [HG.out]
      clear hb9
      go_wp2_with fail
      refine (same_true sb mb sb mb st st _ H9.out.sto H9.out.sto rfl rfl rfl rfl).mono ?_
      rintro e w10 ⟨rfl, hb10⟩
      have H10 := Lib.hid (H9.out.below hb10)
      clear hb10
      go_wp2_with fail
      refine (same_nil sb _).mono ?_
      rintro e w11 ⟨rfl, rfl⟩
      go_wp2_with fail
      refine (same_nils _).mono ?_
      rintro e w12 ⟨rfl, rfl⟩
      go_wp2_with fail
      go_ret
      exact ⟨rfl, H10.out.bel⟩
end Go.Proofs.YtepdedfmdafnkaaGreatDoor
