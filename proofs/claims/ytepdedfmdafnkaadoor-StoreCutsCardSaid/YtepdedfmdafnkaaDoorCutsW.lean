/- deedboxlaw2.StoreCuts: the walk. -/
import Derived.Test.YtepdedfmdafnkaaDoorCutsP
import Derived.Test.YtepdedfmdafnkaaDoorStored
import Derived.Test.YtepdedfmdafnkaaDoorStoreNames
import Derived.Test.YtepdedfmdafnkaaDoorOwnInts
import Derived.Deep.CutBlock
import Derived.Deep.DeepCutAuto
namespace Go.Proofs.YtepdedfmdafnkaaDoor
open Go.RowKit Go.Maps

section
variable {w w' wr : World} {sb mb : Nat} {s s' : St}
theorem StoreAt.grown (h : StoreAt w sb mb s) {row : Option Nat} (hg : w.grownBy w' row) (h1 : row ≠ some sb) (h2 : row ≠ some mb) : StoreAt w' sb mb s :=
  ⟨(hg.block sb h.lt (fun e => h1 e.symm)).trans h.blk, h.own.kept hg (fun e => h2 e.symm), h.ok⟩
theorem Own.apart {α : Type} {enc : α → List Value} {e : TypeId} {sz B : Nat} {v : Value} {l : List α} (h : Own enc e sz B w v l) (hs : StoreAt w sb mb s) (he : e ≠ 73) : v.ownBlock ≠ some sb ∧ v.ownBlock ≠ some mb := by
  obtain ⟨_, h2⟩ := h
  rcases h2 with ⟨rfl, _⟩ | ⟨g, cap, cur, rfl, _, hg, _⟩
  · exact ⟨by simp [Value.ownBlock], by simp [Value.ownBlock]⟩
  · obtain ⟨es, clock, hb, _⟩ := hs.own
    constructor
    · intro e1
      have : g = sb := by simpa [Value.ownBlock] using e1
      subst this
      rw [hs.blk] at hg
      cases hg
      exact he rfl
    · intro e1
      have : g = mb := by simpa [Value.ownBlock] using e1
      subst this
      rw [hb] at hg; cases hg
theorem Own.but {α : Type} {enc : α → List Value} {e : TypeId} {sz B : Nat} {v : Value} {l : List α} (h : Own enc e sz B w v l) (hs : StoreAt w sb mb s) (he : e ≠ 73) (hb : But2 sb mb w w') : Own enc e sz B w' v l := by
  obtain ⟨n1, n2⟩ := h.apart hs he
  obtain ⟨h1, h2⟩ := h
  refine ⟨h1, ?_⟩
  rcases h2 with h0 | ⟨g, cap, cur, rfl, hB, hg, rest⟩
  · exact .inl h0
  · have hlt := (Array.getElem?_eq_some_iff.1 hg).1
    exact .inr ⟨g, cap, cur, rfl, hB, (hb.block g hlt (fun e1 => n1 (by rw [e1]; rfl)) (fun e1 => n2 (by rw [e1]; rfl))).trans hg, rest⟩
end
theorem tStr : (9 : Nat) ≠ 73 := by decide

/-- The store, and two slices of the call's own. -/
structure CutsM (w wr : World) (sb mb : Nat) (st : St) (u v : Value) (hv th : List Str) : Prop where
  sto : StoreAt wr sb mb st
  bel : Below w.heap.size w wr
  ou : Own encS 9 1 w.heap.size wr u hv
  ov : Own encS 9 1 w.heap.size wr v th
  dis : ∀ g, u.ownBlock = some g → v.ownBlock ≠ some g

section
variable {w wr wx : World} {sb mb : Nat} {st st' : St} {u v u' : Value} {hv th : List Str} {n : Str} {o : Obj}
theorem CutsM.turn (h : CutsM w wr sb mb st u v hv th) (hB : w.heap.size ≤ sb) (hB2 : w.heap.size ≤ mb) (hs : StoreAt wx sb mb st') (hb : But2 sb mb wr wx) : CutsM w wx sb mb st' u v hv th :=
  { sto := hs, bel := hb.under h.bel hB hB2 h.bel.size, ou := h.ou.but h.sto tStr hb, ov := h.ov.but h.sto tStr hb, dis := h.dis }
theorem CutsM.below (h : CutsM w wr sb mb st u v hv th) (hb : Below wr.heap.size wr wx) : CutsM w wx sb mb st u v hv th :=
  { sto := h.sto.below hb, bel := h.bel.trans (hb.mono h.bel.size), ou := h.ou.below hb, ov := h.ov.below hb, dis := h.dis }
theorem CutsM.new (h : CutsM w wr sb mb st u v hv th) (o : Obj) : CutsM w (wr.alloc o) sb mb st u v hv th := h.below ((Below.refl _ _).alloc (Nat.le_refl _) o)
theorem CutsM.appU (h : CutsM w wr sb mb st u v hv th) (ho : wx.ownsRow w.heap.size 9 1 u' (hv.length + 1) (hv.flatMap encS ++ encS n)) (hg : wr.grownBy wx u.ownBlock) (hn : u'.ownBlock = u.ownBlock ∨ u'.ownBlock = some wr.heap.size) : CutsM w wx sb mb st u' v (hv ++ [n]) th := by
  obtain ⟨n1, n2⟩ := h.ou.apart h.sto tStr
  refine { sto := h.sto.grown hg n1 n2, bel := Bapp h.bel h.ou hg (Nat.le_refl _) h.bel.size, ou := Own.snoc ho, ov := World.ownsRow.kept h.ov hg ?_, dis := fun g hg' => ?_ }
  · cases hv : v.ownBlock with
    | none => exact .inl rfl
    | some k => exact .inr fun e => h.dis k e.symm hv
  · rcases hn with e | e
    · exact h.dis g (e ▸ hg')
    · rw [e] at hg'
      cases hg'
      intro hv
      have := (World.ownsRow.lt h.ov _ hv).2
      omega
theorem CutsM.appV (h : CutsM w wr sb mb st u v hv th) (ho : wx.ownsRow w.heap.size 9 1 u' (th.length + 1) (th.flatMap encS ++ encS n)) (hg : wr.grownBy wx v.ownBlock) (hn : u'.ownBlock = v.ownBlock ∨ u'.ownBlock = some wr.heap.size) : CutsM w wx sb mb st u u' hv (th ++ [n]) := by
  obtain ⟨n1, n2⟩ := h.ov.apart h.sto tStr
  refine { sto := h.sto.grown hg n1 n2, bel := Bapp h.bel h.ov hg (Nat.le_refl _) h.bel.size, ov := Own.snoc ho, ou := World.ownsRow.kept h.ou hg ?_, dis := fun g hg' hv' => ?_ }
  · cases hu : u.ownBlock with
    | none => exact .inl rfl
    | some k => exact .inr fun e => h.dis k hu e.symm
  · rcases hn with e | e
    · exact h.dis g hg' (e ▸ hv')
    · rw [e] at hv'
      cases hv'
      have := (World.ownsRow.lt h.ou _ hg').2
      omega
end

set_option maxHeartbeats 4000000 in
set_option maxRecDepth 20000 in
theorem cuts_any (E : Nat → Addr) (B : Nat) (v1 v2 : Value) (names texts : List Str) (cut : Int) (w : World) (hE : Errs allE E B w) (hA : AsVar w) (hgB : 12 < B) (hi : StrsAt w v1 names) (hs : StrsAt w v2 texts) (hc : cut ≤ 9223372036854775807) :
    Calls Tryd.prog 5 #[v1, v2, .int .i64 cut] w fun e w' => e = .returned (.bool true) ∧ Below w.heap.size w w' := by
  have Hi := Lib.hid hi; have Hs := Lib.hid hs
  obtain ⟨a1, c1, b1, o1, rfl, ha1, -, hm1, hx1⟩ := hi
  obtain ⟨a2, c2, b2, o2, rfl, ha2, -, hm2, hx2⟩ := hs
  unfold maxLen at hm1 hm2
  by_cases h1 : names.length ≤ 30
  case neg =>
    have g1 : (30 : Int) < (names.length : Int) := by omega
    go_enter Tryd.func5, Tryd.ntmps5
    go_wp2_with fail
    refine (stored_any E B _ hE hA hgB).mono ?_
    rintro e w1 ⟨rfl, hb1⟩
    go_wp2_with fail
    go_ret
    exact ⟨rfl, hb1⟩
  have g1 : decide ((30 : Int) < (names.length : Int)) = false := by simp; omega
  by_cases h2 : texts.length ≤ 30
  case neg =>
    have g2 : (30 : Int) < (texts.length : Int) := by omega
    go_enter Tryd.func5, Tryd.ntmps5
    go_wp2_with fail
    refine (stored_any E B _ hE hA hgB).mono ?_
    rintro e w1 ⟨rfl, hb1⟩
    go_wp2_with fail
    go_ret
    exact ⟨rfl, hb1⟩
  have g2 : decide ((30 : Int) < (texts.length : Int)) = false := by simp; omega
  by_cases h3 : cut < 0
  case pos =>
    go_enter Tryd.func5, Tryd.ntmps5
    go_wp2_with fail
    refine (stored_any E B _ hE hA hgB).mono ?_
    rintro e w1 ⟨rfl, hb1⟩
    go_wp2_with fail
    go_ret
    exact ⟨rfl, hb1⟩
  have g3 : 0 ≤ cut := by omega
  clear h3
  go_enter Tryd.func5, Tryd.ntmps5
  go_wp2_with fail
  refine (stored_any E B _ hE hA hgB).mono ?_
  rintro e w1 ⟨rfl, hb1⟩
  go_wp2_with fail
  refine (new_any _).mono ?_
  rintro e w2 ⟨sb, mb, rfl, hst, hsb, hmb, hb2⟩
  have hBw := hE.le
  have hsb : w.heap.size ≤ sb := Nat.le_trans hb1.size hsb
  have hmb : w.heap.size ≤ mb := Nat.le_trans hb1.size hmb
  have hb2' := hb1.trans (hb2.mono hb1.size)
  clear hb2
  go_wp2_with fail
  refine (cutSt_any E B sb mb St.new cut _ ((hE.sub (by decide)).below' hb2' hBw) hst hc).mono ?_
  rintro e w3 ⟨ev, rfl, hev, hst3, hb3⟩
  rw [if_neg (by omega : ¬ cut < 0), if_neg (by decide)] at hev
  obtain rfl : ev = .nilIface := hev
  rw [if_neg (by simp [St.new]; omega)] at hst3
  have hb3' := hb3.under hb2' hsb hmb hb2'.size
  clear hb3 hst
  go_upto_block 0 with fail
  go_cut [9, 10, 11, 12] (fun u v hd _ wx => ∃ st hv th head, hd = S head ∧ hv.length ≤ 30 ∧ Cuts st hv th head ∧ CutsM w wx sb mb st u v hv th)
  case first =>
    go_wp2_with fail
    go_loopw [9, 10, 11, 12] (fun u v hd i wr => ∃ (k : Nat) (st : St) (hv th : List Str) (head : Str), i = .int .i64 k ∧ hd = S head ∧ k ≤ 30 ∧ hv.length ≤ k ∧ Cuts st hv th head ∧ CutsM w wr sb mb st u v hv th) (fun _ _ _ i _ => 31 - (intOf i).toNat)
    case atStart => exact ⟨0, _, [], [], [], rfl, rfl, by omega, by simp, cuts_new cut, { sto := hst3, bel := hb3', ou := Own.nil encS _ 1 _ _, ov := Own.nil encS _ 1 _ _, dis := fun g h => by simp [Value.ownBlock] at h }⟩
    case round =>
      obtain ⟨k, st, hv, th, head, rfl, rfl, hk, hlv, C, R⟩ := hrel
      have HC := Lib.hid C; have HR := Lib.hid R
      clear C R
      by_cases hkn : k < names.length
      case neg =>
        have f1 : decide ((k : Int) < (names.length : Int)) = false := by simp; omega
        go_wp2_with fail
        go_meet
        exact ⟨st, hv, th, head, rfl, by omega, HC.out, HR.out⟩
      by_cases hkt : k < texts.length
      case neg =>
        have f1 : (k : Int) < (names.length : Int) := by omega
        have f2 : decide ((k : Int) < (texts.length : Int)) = false := by simp; omega
        go_wp2_with fail
        go_meet
        exact ⟨st, hv, th, head, rfl, by omega, HC.out, HR.out⟩
      have f1 : (k : Int) < (names.length : Int) := by omega
      have f2 : (k : Int) < (texts.length : Int) := by omega
      go_wp2_with fail
      refine (power_any sb mb st _ HR.out.sto).mono ?_
      rintro e w4 ⟨rfl, rfl⟩
      obtain ⟨off, hoff⟩ : ∃ off, st.off = off := ⟨_, rfl⟩
      rw [hoff]
      have HO := Lib.hid hoff; clear hoff
      cases off with
      | true =>
        go_wp2_with fail
        go_meet
        exact ⟨st, hv, th, head, rfl, by omega, HC.out, HR.out⟩
      | false =>
        obtain ⟨n, hn⟩ := get_ex hkn
        obtain ⟨t, ht⟩ := get_ex hkt
        have cw1 := hx1 k n hn 0 _ rfl
        have cw2 := hx2 k t ht 0 _ rfl
        have cc1 := fun (x : World) (hb : Below w.heap.size w x) => (hb.cell (World.block_lt_of_cell? w _ cw1)).trans cw1
        have cc2 := fun (x : World) (hb : Below w.heap.size w x) => (hb.cell (World.block_lt_of_cell? w _ cw2)).trans cw2
        have i1 := idx_at (c := c1) 1 Tryd.underlying45 szStr ha1 k hkn
        have i2 := idx_at (c := c2) 1 Tryd.underlying45 szStr ha2 k hkt
        simp only [Nat.mul_one, Nat.add_zero] at cc1 cc2 i1 i2
        have d1 := cc1 _ HR.out.bel
        have d2 := cc2 _ HR.out.bel
        have CC1 := Lib.hid cc1; have CC2 := Lib.hid cc2
        clear cw1 cw2 cc1 cc2 hn ht
        go_wp2_with fail
        all_goals first
          | (go_ret; exact ⟨rfl, HR.out.bel⟩)
          | skip
        have R4 := HR.out.below (Bd1 (Below.refl _ _))
        have HR4 := Lib.hid R4
        have e1 := CC1.out _ R4.bel
        have e2 := CC2.out _ R4.bel
        clear R4 d1 d2
        by_cases he : putE st n t = .nil
        case neg =>
          have HE := Lib.hid he; clear he
          go_region_with (go_at_call 22; refine (put_any E B sb mb st n t _ ((hE.sub (by decide)).below' HR4.out.bel hBw) HR4.out.sto (by omega) (by omega) (by omega) (by omega)).mono ?_; rintro e w5 ⟨ev, rfl, hev, h5, hb5⟩; obtain ⟨ux, xx, rfl⟩ := hev.iface HE.out; have R5 := Lib.hid (HR4.out.turn hsb hmb h5 hb5); have C5 := Lib.hid (HC.out.putBad HR4.out.sto.ok.ris HO.out HE.out); clear hev h5 hb5)
          all_goals
            go_wp2_with fail
            go_roundw
            case rel => exact ⟨k + 1, _, hv, th, head, by go_num, rfl, by omega, by omega, C5.out, R5.out⟩
            case measure => simp [intOf]; omega
        case pos =>
          have HE := Lib.hid he; clear he
          go_region_with (go_at_call 22; refine (put_any E B sb mb st n t _ ((hE.sub (by decide)).below' HR4.out.bel hBw) HR4.out.sto (by omega) (by omega) (by omega) (by omega)).mono ?_; rintro e w5 ⟨ev, rfl, hev, h5, hb5⟩; rw [HE.out] at hev; obtain rfl : ev = .nilIface := hev; have R5 := Lib.hid (HR4.out.turn hsb hmb h5 hb5); have C5 := Lib.hid (HC.out.put HR4.out.sto.ok.ris HO.out HE.out); have d1 := CC1.out _ R5.out.bel; have d2 := CC2.out _ R5.out.bel; clear h5 hb5)
          all_goals
            clear e1 e2
            go_wp2_with (first
              | (at_builtin; refine wpList_app rfl _ _ _ rfl w.heap.size elStr _ hv.length _ rfl (R5.out.ou.alloc _) (.slice (some ⟨w5.heap.size, 0, none⟩) 1 1) 1 [S n] rfl (src_one rfl rfl (by simp [Value.oneCell'])) (by unfold maxLen; omega) (by omega) (by have := R5.out.bel.size; simp; omega) ?_; intro u6 w6 ho6 hg6 hn6; have R6 := Lib.hid ((R5.out.new _).appU ho6 hg6 hn6); have d3 := CC2.out _ R6.out.bel; clear d1 d2 ho6 hg6 hn6)
              | (at_builtin; refine wpList_app rfl _ _ _ rfl w.heap.size elStr _ th.length _ rfl (R6.out.ov.alloc _) (.slice (some ⟨w6.heap.size, 0, none⟩) 1 1) 1 [S t] rfl (src_one rfl rfl (by simp [Value.oneCell'])) (by have := HC.out.len; unfold maxLen; omega) (by have := HC.out.len; omega) (by have := R6.out.bel.size; simp; omega) ?_; intro u7 w7 ho7 hg7 hn7; have R7 := Lib.hid ((R6.out.new _).appV ho7 hg7 hn7); have d4 := CC1.out _ R7.out.bel; clear d3 ho7 hg7 hn7))
            by_cases he2 : swapE (putS st n t) head n = .nil
            case neg =>
              have HE2 := Lib.hid he2; clear he2
              refine (swap_any E B sb mb (putS st n t) head n _ ((hE.sub (by decide)).below' R7.out.bel hBw) R7.out.sto (by omega) (by omega) (by omega)).mono ?_
              rintro e w8 ⟨ev8, rfl, hev8, h8, hb8⟩
              obtain ⟨ux, xx, rfl⟩ := hev8.iface HE2.out
              have R8 := Lib.hid (R7.out.turn hsb hmb h8 hb8)
              clear h8 hb8 hev8 d4
              go_wp2_with fail
              go_roundw
              case rel => exact ⟨k + 1, _, _, _, head, by go_num, rfl, by omega, by simp; omega, C5.out.1.swapBad C5.out.2 HE2.out, R8.out⟩
              case measure => simp [intOf]; omega
            case pos =>
              have HE2 := Lib.hid he2; clear he2
              refine (swap_any E B sb mb (putS st n t) head n _ ((hE.sub (by decide)).below' R7.out.bel hBw) R7.out.sto (by omega) (by omega) (by omega)).mono ?_
              rintro e w8 ⟨ev8, rfl, hev8, h8, hb8⟩
              rw [HE2.out] at hev8
              obtain rfl : ev8 = .nilIface := hev8
              have R8 := Lib.hid (R7.out.turn hsb hmb h8 hb8)
              have d5 := CC1.out _ R8.out.bel
              clear h8 hb8 d4
              go_wp2_with fail
              go_roundw
              case rel => exact ⟨k + 1, _, _, _, n, by go_num, rfl, by omega, by simp; omega, C5.out.1.swap C5.out.2 HE2.out, R8.out⟩
              case measure => simp [intOf]; omega
  case rest =>
    obtain ⟨st, hv, th, head, rfl, hl, C, R⟩ := hcut
    have HC := Lib.hid C; have HR := Lib.hid R
    obtain ⟨a3, c3, b3, o3, hu3, -, -, -, -⟩ := R.ou.at encS_enc
    subst hu3
    obtain ⟨a4, c4, b4, o4, hu4, -, -, -, -⟩ := R.ov.at encS_enc
    subst hu4
    have hhd := C.hd
    have hn1 := C.cnt1
    have hn2 := C.cnt2
    have HLn := Lib.hid C.len
    clear C R
    go_wp2_with fail
    refine (head_any sb mb st _ HR.out.sto).mono ?_
    rintro e w4 ⟨rfl, rfl⟩
    rw [hhd]
    go_wp2_with fail
    refine (namesSt_any sb mb st _ HR.out.sto).mono ?_
    rintro e w5 ⟨v5, rfl, ho5, hb5⟩
    obtain ⟨a5, c5, b5, o5, rfl, -, -, -, -⟩ := ho5.at encS_enc
    rw [List.length_map]
    have R5 := Lib.hid (HR.out.below hb5)
    have k1 : decide ((st.objs.length : Int) < (hv.length : Int)) = false := by simp; omega
    have k1' : decide (st.objs.length < hv.length) = false := by simp; omega
    have k2 : decide ((hv.length : Int) + 1 < (st.objs.length : Int)) = false := by simp; omega
    clear hb5 ho5 HR
    go_wp2_with fail
    refine (namesSt_any sb mb st _ R5.out.sto).mono ?_
    rintro e w6 ⟨v6, rfl, ho6, hb6⟩
    obtain ⟨a6, c6, b6, o6, rfl, -, -, -, -⟩ := ho6.at encS_enc
    rw [List.length_map]
    have R6 := Lib.hid (R5.out.below hb6)
    clear hb6 ho6 R5
    go_wp2_with fail
    have hr0 : ∀ o, Below w.heap.size w o → True := fun _ _ => trivial
    clear hr0
    go_loopw [13] (fun i wr => ∃ (k : Nat) (st : St), i = .int .i64 k ∧ k ≤ hv.length ∧ Left st hv th k ∧ CutsM w wr sb mb st (.slice a3 hv.length c3) (.slice a4 th.length c4) hv th) (fun i _ => hv.length - (intOf i).toNat)
    case atStart => exact ⟨0, st, rfl, by omega, HC.out.left, R6.out⟩
    case round =>
      obtain ⟨k, st, rfl, hk, L, R⟩ := hrel
      have HL := Lib.hid L; have HR := Lib.hid R
      clear R6
      by_cases hlt : k < hv.length
      · obtain ⟨n, hn⟩ := get_ex hlt
        obtain ⟨t, ht⟩ := get_ex (l := th) (k := k) (by have := HLn.out; omega)
        have hgot := L.got k n t (Nat.le_refl _) hn ht
        obtain ⟨a, c, b3, o3, hva, ha3, -, -, hx3⟩ := R.ou.at encS_enc
        cases hva
        obtain ⟨a, c, b4, o4, hvb, ha4, -, -, hx4⟩ := R.ov.at encS_enc
        cases hvb
        have cw1 := hx3 k n hn 0 _ rfl
        have cw2 := hx4 k t ht 0 _ rfl
        have i1 := idx_at (c := c3) 1 Tryd.underlying45 szStr ha3 k hlt
        have i2 := idx_at (c := c4) 1 Tryd.underlying45 szStr ha4 k (by have := HLn.out; omega)
        have f1 : (k : Int) < (hv.length : Int) := by omega
        have f2 : (k : Int) < (th.length : Int) := by have := HLn.out; omega
        have cc2 := fun (x : World) (hb : Below wr.heap.size wr x) => (hb.cell (World.block_lt_of_cell? wr _ cw2)).trans cw2
        have cc1 := fun (x : World) (hb : Below wr.heap.size wr x) => (hb.cell (World.block_lt_of_cell? wr _ cw1)).trans cw1
        simp only [Nat.mul_one, Nat.add_zero] at cw1 cw2 cc1 cc2 i1 i2
        have CC1 := Lib.hid cc1; have CC2 := Lib.hid cc2; have Hn := Lib.hid hn; have Hgot := Lib.hid hgot
        have hnl : n.length ≤ 20000 := by
          cases hg : getO st.objs n with
          | none => rw [hg] at hgot; cases hgot
          | some o => exact (getO_mem hg).2 ▸ R.sto.ok.nam o (getO_mem hg).1
        clear L R cc1 cc2 cw2 hn ht hgot
        go_wp2_with fail
        have hsome : (getO st.objs n).isSome = true := by
          have := Hgot.out
          cases hg : getO st.objs n with
          | none => rw [hg] at this; cases this
          | some o => rfl
        refine (get_any E B sb mb st n _ ((hE.sub (by decide)).below' HR.out.bel hBw) HR.out.sto (by omega)).mono ?_
        rintro e w7 ⟨ev7, rfl, hev7, hb7⟩
        rw [Hgot.out]
        rw [if_pos hsome] at hev7
        obtain rfl : ev7 = .nilIface := hev7
        have R7 := Lib.hid (HR.out.below hb7)
        have d1 := CC1.out _ hb7
        have d2 := CC2.out _ hb7
        have HS := Lib.hid hsome
        have HB7 := Lib.hid hb7
        clear hb7 cw1 hsome
        rw [Option.getD_some]
        obtain ⟨off, hoff⟩ : ∃ off, st.off = off := ⟨_, rfl⟩
        have HO := Lib.hid hoff; clear hoff
        cases off with
        | true =>
          have hde : dropE st n = .bare 12 := by unfold dropE; rw [if_pos HO.out]
          have HD := Lib.hid hde; clear hde
          go_wp2_with fail
          refine (drop_any E B sb mb st n _ ((hE.sub (by decide)).below' R7.out.bel hBw) R7.out.sto (by omega)).mono ?_
          rintro e w8 ⟨ev8, rfl, hev8, h8, hb8⟩
          rw [HD.out] at hev8
          obtain ⟨ux, xx, rfl⟩ := hev8.iface (by simp)
          have R8 := Lib.hid (R7.out.turn hsb hmb h8 hb8)
          clear h8 hb8 hev8 d1 d2
          go_wp2_with fail
          go_roundw
          case rel => exact ⟨k + 1, _, by go_num, by omega, HL.out.drop R7.out.sto.ok.ris HC.out.nod Hn.out, R8.out⟩
          case measure => simp [intOf]; omega
        | false =>
          have hde : dropE st n = .nil := by
            unfold dropE
            rw [if_neg (by rw [HO.out]; decide), if_neg (fun e => by have := HS.out; rw [e] at this; cases this)]
          have hof : (dropS st n).off = false := by
            unfold dropS
            split <;> exact HO.out
          have HD := Lib.hid hde; have HF := Lib.hid hof; clear hde hof
          go_wp2_with fail
          refine (drop_any E B sb mb st n _ ((hE.sub (by decide)).below' R7.out.bel hBw) R7.out.sto (by omega)).mono ?_
          rintro e w8 ⟨ev8, rfl, hev8, h8, hb8⟩
          rw [HD.out] at hev8
          obtain rfl : ev8 = .nilIface := hev8
          have R8 := Lib.hid (R7.out.turn hsb hmb h8 hb8)
          clear h8 hb8 d1 d2
          go_wp2_with fail
          refine (power_any sb mb _ _ R8.out.sto).mono ?_
          rintro e w9 ⟨rfl, rfl⟩
          rw [HF.out]
          go_wp2_with fail
          go_roundw
          case rel => exact ⟨k + 1, _, by go_num, by omega, HL.out.drop R7.out.sto.ok.ris HC.out.nod Hn.out, R8.out⟩
          case measure => simp [intOf]; omega
      · have f1 : decide ((k : Int) < (hv.length : Int)) = false := by simp; omega
        clear L R
        go_wp2_with fail
        refine (on_any sb mb st _ HR.out.sto).mono ?_
        rintro e w7 ⟨rfl, h7, hb7⟩
        have R7 := Lib.hid (HR.out.turn hsb hmb h7 hb7)
        clear h7 hb7
        go_wp2_with fail
        refine (power_any sb mb _ _ R7.out.sto).mono ?_
        rintro e w8 ⟨rfl, rfl⟩
        go_wp2_with fail
        refine (cutSt_any E B sb mb _ 0 _ ((hE.sub (by decide)).below' R7.out.bel hBw) R7.out.sto (by decide)).mono ?_
        rintro e w9 ⟨ev, rfl, hev, h9, hb9⟩
        obtain rfl : ev = .nilIface := hev
        rw [if_neg (by decide : ¬ ((0 : Int) < 0 ∨ false = true))] at h9
        have R9 := Lib.hid (R7.out.turn hsb hmb h9 hb9)
        clear h9 hb9
        go_wp2_with fail
        refine (namesSt_any sb mb _ _ R9.out.sto).mono ?_
        rintro e w10 ⟨v10, rfl, ho10, hb10⟩
        have R10 := Lib.hid (R9.out.below hb10)
        go_wp2_with fail
        refine (inTexts_any [] v10 _ _ (ho10.at encS_enc)).mono ?_
        rintro e w11 ⟨rfl, hb11⟩
        have R11 := Lib.hid (R10.out.below hb11)
        have hno : decide (([] : Str) ∈ List.map (fun x => x.name) st.objs) = false := decide_eq_false HL.out.noEmpty
        simp only [hno]
        go_wp2_with fail
        go_ret
        exact ⟨rfl, R11.out.bel⟩
end Go.Proofs.YtepdedfmdafnkaaDoor
