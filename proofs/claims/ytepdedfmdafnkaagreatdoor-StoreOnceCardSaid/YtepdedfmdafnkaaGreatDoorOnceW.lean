/- deedboxlaw2.StoreOnce: the walk. -/
import Derived.Test.YtepdedfmdafnkaaGreatDoorOnceP
import Derived.Test.YtepdedfmdafnkaaGreatDoorStored
import Derived.Test.YtepdedfmdafnkaaGreatDoorStoreNames
import Derived.Test.YtepdedfmdafnkaaGreatDoorStoreEq
import Derived.Test.YtepdedfmdafnkaaGreatDoorStoreCp
import Derived.Test.YtepdedfmdafnkaaGreatDoorActs
import Derived.Deep.CutBlock
import Derived.Deep.DeepCutAuto
namespace Go.Proofs.YtepdedfmdafnkaaGreatDoor
open Go.RowKit Go.Maps

section
variable {w w' wr : World} {sb mb sb' mb' : Nat} {s s' : St}
theorem StoreAt.but (h : StoreAt w sb' mb' s) (hb : But2 sb mb w w') (h1 : sb' ≠ sb) (h2 : sb' ≠ mb) (h3 : mb' ≠ sb) (h4 : mb' ≠ mb) : StoreAt w' sb' mb' s :=
  ⟨(hb.block sb' h.lt h1 h2).trans h.blk, by
    obtain ⟨es, clock, hx, F, hs, hD⟩ := h.own
    exact ⟨es, clock, (hb.block mb' h.ltm h3 h4).trans hx, F, hs, hD⟩, h.ok⟩
end

set_option maxHeartbeats 4000000 in
set_option maxRecDepth 20000 in
theorem once_any (E : Nat → Addr) (B : Nat) (v : Value) (l : List Ac) (w : World) (hE : Errs allE E B w) (hA : AsVar w) (hgB : 12 < B) (hl : ActsAt w v l) (hn : ∀ a ∈ l, a.n ≤ 9223372036854775807) :
    Calls Tryz.prog 3 #[v] w fun e w' => e = .returned (.bool true) ∧ Below w.heap.size w w' := by
  have HL := Lib.hid hl
  have hif := isIfaceE
  obtain ⟨a1, c1, b1, o1, rfl, ha1, -, hm1, hx1⟩ := hl
  unfold maxLen at hm1
  go_enter Tryz.func3, Tryz.ntmps3
  go_wp2_with fail
  refine (stored_any E B _ hE hA hgB).mono ?_
  rintro e w1 ⟨rfl, hb1⟩
  go_wp2_with fail
  refine (longActs_any _ l _ (HL.out.below hb1)).mono ?_
  rintro e w2 ⟨rfl | ⟨rfl, h80, hok⟩, hb2⟩
  · go_wp2_with fail
    go_ret
    exact ⟨rfl, hb1.trans (hb2.mono hb1.size)⟩
  have hb2' := hb1.trans (hb2.mono hb1.size)
  have HK := Lib.hid hok
  clear hb2 hok
  go_wp2_with fail
  refine (new_any _).mono ?_
  rintro e w3 ⟨sb, mb, rfl, hst, hsb, hmb, hb3⟩
  have hBw := hE.le
  have hsb : w.heap.size ≤ sb := Nat.le_trans hb2'.size hsb
  have hmb : w.heap.size ≤ mb := Nat.le_trans hb2'.size hmb
  have hb3' := hb2'.trans (hb3.mono hb2'.size)
  clear hb3 hb2'
  go_wp2_with fail
  go_loopw [5] (fun i wr => ∃ (k : Nat) (st : St), i = .int .i64 k ∧ k ≤ l.length ∧ StoreAt wr sb mb st ∧ Below w.heap.size w wr) (fun i _ => l.length - (intOf i).toNat)
  case atStart => exact ⟨0, _, rfl, by omega, hst, hb3'⟩
  case round =>
    obtain ⟨k, st, rfl, hk, h, hb⟩ := hrel
    have H := Lib.hid h; have HB := Lib.hid hb
    clear h hb hst hb3'
    by_cases hlt : k < l.length
    case neg =>
      have f : decide ((k : Int) < (l.length : Int)) = false := by simp; omega
      go_wp2_with fail
      go_ret
      exact ⟨rfl, HB.out⟩
    obtain ⟨x, hxk⟩ := get_ex hlt
    have q0 := hx1 k x hxk 0 _ rfl
    have q1 := hx1 k x hxk 1 _ rfl
    have q2 := hx1 k x hxk 2 _ rfl
    have q3 := hx1 k x hxk 3 _ rfl
    have q0 := (HB.out.cell (World.block_lt_of_cell? w _ q0)).trans q0
    have q1 := (HB.out.cell (World.block_lt_of_cell? w _ q1)).trans q1
    have q2 := (HB.out.cell (World.block_lt_of_cell? w _ q2)).trans q2
    have q3 := (HB.out.cell (World.block_lt_of_cell? w _ q3)).trans q3
    have i1 := idx_at (c := c1) 4 Tryz.underlying22 szAct ha1 k hlt
    have f : (k : Int) < (l.length : Int) := by omega
    have hxo := HK.out x (List.mem_of_getElem? hxk)
    have hxn := hn x (List.mem_of_getElem? hxk)
    simp only [Nat.add_zero] at q0
    clear hxk
    go_wp2_with fail
    have hA0 := heap_alloc_new wr (.cells #[S x.kind, S x.name, S x.s, .int .i64 x.n] 28)
    have HBa := Lib.hid (HB.out.alloc HB.out.size (.cells #[S x.kind, S x.name, S x.s, .int .i64 x.n] 28))
    have Ha := Lib.hid (H.out.below ((Below.refl _ wr).alloc (Nat.le_refl _) (.cells #[S x.kind, S x.name, S x.s, .int .i64 x.n] 28)))
    obtain ⟨A, hA1⟩ : ∃ A, wr.heap.size = A := ⟨_, rfl⟩
    have hsA : sb < A := by rw [← hA1]; exact H.out.lt
    have hmA : mb < A := by rw [← hA1]; exact H.out.ltm
    rw [hA1] at hA0
    have hAs : A < (wr.alloc (.cells #[S x.kind, S x.name, S x.s, .int .i64 x.n] 28)).heap.size := by simp; omega
    rw [hA1]
    clear q0 q1 q2 q3
    generalize wr.alloc (.cells #[S x.kind, S x.name, S x.s, .int .i64 x.n] 28) = w4 at *
    clear hA1
    refine (copy_any sb mb st _ Ha.out).mono ?_
    rintro e w5 ⟨wb, wm, rfl, hwb, hwm, hcp, hb5⟩
    have HB5 := Lib.hid (HBa.out.trans (hb5.mono HBa.out.size))
    have H5 := Lib.hid (Ha.out.below hb5)
    have HC5 := Lib.hid hcp
    have hA5 := Lib.hid ((hb5.block A hAs).trans hA0)
    have hne : wb ≠ sb ∧ wb ≠ mb ∧ wm ≠ sb ∧ wm ≠ mb ∧ wb ≠ A ∧ wm ≠ A := by omega
    have k0 : w5.cell? ⟨A, 0, none⟩ = some (S x.kind) := by rw [cell_of_row w5 A 0 _ _ (0, 0) hA5.out]; rfl
    have Cs := fun (w6 : World) (h6 : w6.heap[A]? = w5.heap[A]?) => (⟨by rw [cell_of_row w6 A 1 _ _ (0, 0) (h6.trans hA5.out)]; rfl, by rw [cell_of_row w6 A 2 _ _ (0, 0) (h6.trans hA5.out)]; rfl, by rw [cell_of_row w6 A 3 _ _ (0, 0) (h6.trans hA5.out)]; rfl⟩ : w6.cell? ⟨A, 1, none⟩ = some (S x.name) ∧ w6.cell? ⟨A, 2, none⟩ = some (S x.s) ∧ w6.cell? ⟨A, 3, none⟩ = some (.int .i64 x.n))
    have CS := Lib.hid Cs
    have hA5l := (Array.getElem?_eq_some_iff.1 hA5.out).1
    clear hb5 hcp hA0 Ha HBa H HB Cs
    go_upto_block 2 with fail
    go_cut [8] (fun _ wx => ∃ st', StoreAt wx sb mb st' ∧ StoreAt wx wb wm st ∧ Below w.heap.size w wx ∧ st.day ≤ st'.day ∧ st'.objs.length ≤ st.objs.length + 1)
    case first =>
      by_cases e1 : x.kind = [112, 117, 116]
      case pos =>
        have g1 : (x.kind == [112, 117, 116]) = true := by simpa using e1
        clear e1 k0
        as_aux_lemma =>
          obtain ⟨k1, k2, k3⟩ := CS.out w5 rfl
          go_wp2_with fail
          refine (put_any E B sb mb st x.name x.s _ ((hE.sub (by decide)).below' HB5.out hBw) H5.out (by have := hxo.1; omega) (by rcases hxo.2 with h | h <;> omega) (by omega) (by omega)).mono ?_
          rintro e w6 ⟨ev, rfl, hev, h6, hb6⟩
          have hA6 : w6.heap[A]? = w5.heap[A]? := hb6.block A hA5l (by omega) (by omega)
          have HC6 := Lib.hid (HC5.out.but hb6 hne.1 hne.2.1 hne.2.2.1 hne.2.2.2.1)
          have HB6 := Lib.hid (hb6.under HB5.out hsb hmb HB5.out.size)
          have hA6l := (Array.getElem?_eq_some_iff.1 (hA6.trans hA5.out)).1
          clear k1 k2 k3
          obtain ⟨k1, k2, k3⟩ := CS.out w6 hA6
          rcases put_ways st x.name x.s H5.out.ok.ris with ⟨hs, he⟩ | ⟨hg, m, hm, hgt, hcase, hday, hln⟩
          · rw [hs] at h6
            obtain ⟨ux, xx, rfl⟩ := hev.iface he
            have H6 := Lib.hid h6
            clear h6 hb6 hev he hs
            go_wp2_with fail
            refine (get_any E B sb mb st x.name _ ((hE.sub (by decide)).below' HB6.out hBw) H6.out (by have := hxo.1; omega)).mono ?_
            rintro e w7 ⟨bad, rfl, hbad, hb7⟩
            have hA7 := (hb7.block A hA6l).trans hA6
            have H7 := Lib.hid (H6.out.below hb7); have HC7 := Lib.hid (HC6.out.below hb7)
            have HB7 := Lib.hid (HB6.out.trans (hb7.mono HB6.out.size))
            clear k1 k2 k3
            obtain ⟨k1, k2, k3⟩ := CS.out w7 hA7
            have hA7l := (Array.getElem?_eq_some_iff.1 (hA7.trans hA5.out)).1
            have hbad := Lib.hid hbad
            generalize hT : ((getO st.objs x.name).map (·.text)).getD [] = T
            have HT := Lib.hid hT
            clear hT hb7
            go_wp2_with fail
            refine (get_any E B wb wm st x.name _ ((hE.sub (by decide)).below' HB7.out hBw) HC7.out (by have := hxo.1; omega)).mono ?_
            rintro e w8 ⟨also, rfl, halso, hb8⟩
            have hA8 := (hb8.block A hA7l).trans hA7
            have H8 := Lib.hid (H7.out.below hb8); have HC8 := Lib.hid (HC7.out.below hb8)
            have HB8 := Lib.hid (HB7.out.trans (hb8.mono HB7.out.size))
            have hbad := hbad.out.below hb8
            clear k1 k2 k3
            obtain ⟨k1, k2, k3⟩ := CS.out w8 hA8
            rw [HT.out]
            clear hb8
            obtain ⟨off, hoff⟩ : ∃ off, st.off = off := ⟨_, rfl⟩
            have HO := Lib.hid hoff; clear hoff
            cases hsm : (getO st.objs x.name).isSome with
            | true =>
              rw [hsm, if_pos rfl] at hbad halso
              obtain rfl : bad = .nilIface := hbad
              obtain rfl : also = .nilIface := halso
              clear hsm
              cases off with
              | true =>
                go_wp2_with fail
                refine (power_any sb mb st _ H8.out).mono ?_
                rintro e w9 ⟨rfl, rfl⟩
                rw [HO.out]
                go_wp2_with fail
                go_meet
                exact ⟨st, H8.out, HC8.out, HB8.out, Int.le_refl _, Nat.le_succ _⟩
              | false =>
                go_wp2_with fail
                refine (power_any sb mb st _ H8.out).mono ?_
                rintro e w9 ⟨rfl, rfl⟩
                rw [HO.out]
                go_wp2_with fail
                refine (same_true wb wm sb mb st st _ HC8.out H8.out rfl rfl rfl rfl).mono ?_
                rintro e w9 ⟨rfl, hb9⟩
                have H9 := Lib.hid (H8.out.below hb9); have HC9 := Lib.hid (HC8.out.below hb9)
                have HB9 := Lib.hid (HB8.out.trans (hb9.mono HB8.out.size))
                have hA9 := (hb9.block A (Array.getElem?_eq_some_iff.1 (hA8.trans hA5.out)).1).trans hA8
                clear k1 k2 k3
                obtain ⟨k1, k2, k3⟩ := CS.out w9 hA9
                clear hb9
                go_wp2_with fail
                go_meet
                exact ⟨st, H9.out, HC9.out, HB9.out, Int.le_refl _, Nat.le_succ _⟩
            | false =>
              rw [hsm, if_neg (by decide)] at hbad halso
              obtain ⟨u1, x1, rfl⟩ := hbad.iface (by simp)
              obtain ⟨u2, x2, rfl⟩ := halso.iface (by simp)
              clear hsm hbad halso
              cases off with
              | true =>
                go_wp2_with fail
                refine (power_any sb mb st _ H8.out).mono ?_
                rintro e w9 ⟨rfl, rfl⟩
                rw [HO.out]
                go_wp2_with fail
                go_meet
                exact ⟨st, H8.out, HC8.out, HB8.out, Int.le_refl _, Nat.le_succ _⟩
              | false =>
                go_wp2_with fail
                refine (power_any sb mb st _ H8.out).mono ?_
                rintro e w9 ⟨rfl, rfl⟩
                rw [HO.out]
                go_wp2_with fail
                refine (same_true wb wm sb mb st st _ HC8.out H8.out rfl rfl rfl rfl).mono ?_
                rintro e w9 ⟨rfl, hb9⟩
                have H9 := Lib.hid (H8.out.below hb9); have HC9 := Lib.hid (HC8.out.below hb9)
                have HB9 := Lib.hid (HB8.out.trans (hb9.mono HB8.out.size))
                have hA9 := (hb9.block A (Array.getElem?_eq_some_iff.1 (hA8.trans hA5.out)).1).trans hA8
                clear k1 k2 k3
                obtain ⟨k1, k2, k3⟩ := CS.out w9 hA9
                clear hb9
                go_wp2_with fail
                go_meet
                exact ⟨st, H9.out, HC9.out, HB9.out, Int.le_refl _, Nat.le_succ _⟩
          · obtain ⟨st', hst'⟩ : ∃ st', putS st x.name x.s = st' := ⟨_, rfl⟩
            rw [hst'] at h6 hgt hcase hday hln
            clear hst'
            have H6 := Lib.hid h6
            clear h6 hb6
            go_wp2_with fail
            refine (get_any E B sb mb st' x.name _ ((hE.sub (by decide)).below' HB6.out hBw) H6.out (by have := hxo.1; omega)).mono ?_
            rintro e w7 ⟨bad, rfl, hbad, hb7⟩
            have hsm : (getO st'.objs x.name).isSome = true := by
              cases hq : getO st'.objs x.name with
              | none => rw [hq] at hgt; cases hgt
              | some o => rfl
            rw [hsm, if_pos rfl] at hbad
            obtain rfl : bad = .nilIface := hbad
            rw [hgt, Option.getD_some]
            have hA7 := (hb7.block A hA6l).trans hA6
            have H7 := Lib.hid (H6.out.below hb7); have HC7 := Lib.hid (HC6.out.below hb7)
            have HB7 := Lib.hid (HB6.out.trans (hb7.mono HB6.out.size))
            have hev := hev.below hb7
            clear k1 k2 k3
            obtain ⟨k1, k2, k3⟩ := CS.out w7 hA7
            have hA7l := (Array.getElem?_eq_some_iff.1 (hA7.trans hA5.out)).1
            obtain ⟨T, hT⟩ : ∃ T, x.s.take m = T := ⟨_, rfl⟩
            have hTl : T.length = m := by rw [← hT, List.length_take]; omega
            have hTe : (ByteArray.mk x.s.toArray).extract 0 T.length = ⟨T.toArray⟩ := by
              have := take_ext x.s T.length
              rw [hTl, hT] at this
              rw [hTl]
              exact (Value.string.inj this).symm
            have f1 : decide ((x.s.length : Int) < (T.length : Int)) = false := by simp; omega
            have f2 : (T.length : Int) ≤ (x.s.length : Int) := by omega
            have hTw : m = x.s.length → (T == x.s) = true := fun e => by rw [← hT, e, List.take_length]; simp
            rw [hT]
            have HTW := Lib.hid hTw; have HD := Lib.hid hday; have HN := Lib.hid hln; have HCS := Lib.hid hcase
            clear hb7 hsm hgt hTw hT hTl hday hln hcase hm
            go_wp2_with fail
            refine (get_any E B wb wm st x.name _ ((hE.sub (by decide)).below' HB7.out hBw) HC7.out (by have := hxo.1; omega)).mono ?_
            rintro e w8 ⟨also, rfl, halso, hb8⟩
            have hA8 := (hb8.block A hA7l).trans hA7
            have H8 := Lib.hid (H7.out.below hb8); have HC8 := Lib.hid (HC7.out.below hb8)
            have HB8 := Lib.hid (HB7.out.trans (hb8.mono HB7.out.size))
            have hev := hev.below hb8
            rw [hg] at halso ⊢
            rw [if_neg (by decide)] at halso
            obtain ⟨u2, x2, rfl⟩ := halso.iface (by simp)
            clear k1 k2 k3
            obtain ⟨k1, k2, k3⟩ := CS.out w8 hA8
            clear hb8 halso hg
            rcases HCS.out with ⟨he, hm⟩ | ⟨he, hof⟩
            · rw [he] at hev
              obtain rfl : ev = .nilIface := hev
              have f3 := HTW.out hm
              clear he hm
              go_wp2_with fail
              go_meet
              exact ⟨st', H8.out, HC8.out, HB8.out, by rw [HD.out]; exact Int.le_refl _, by rw [HN.out]; exact Nat.le_refl _⟩
            · obtain ⟨ux, xx, rfl⟩ := hev.iface he
              have HO := Lib.hid hof
              clear hev he hof
              go_wp2_with fail
              refine (power_any sb mb st' _ H8.out).mono ?_
              rintro e w9 ⟨rfl, rfl⟩
              rw [HO.out]
              go_wp2_with fail
              go_meet
              exact ⟨st', H8.out, HC8.out, HB8.out, by rw [HD.out]; exact Int.le_refl _, by rw [HN.out]; exact Nat.le_refl _⟩
      have g1 : (x.kind == [112, 117, 116]) = false := by simpa using e1
      clear e1
      by_cases e2 : x.kind = [115, 119, 97, 112]
      case pos =>
        have g2 : (x.kind == [115, 119, 97, 112]) = true := by simpa using e2
        clear e2 k0
        as_aux_lemma =>
          obtain ⟨k1, k2, k3⟩ := CS.out w5 rfl
          go_wp2_with fail
          refine (swap_any E B sb mb st x.name x.s _ ((hE.sub (by decide)).below' HB5.out hBw) H5.out (by rcases hxo.2 with h | h <;> omega) (by omega) (by omega)).mono ?_
          rintro e w6 ⟨ev, rfl, hev, h6, hb6⟩
          have hA6 : w6.heap[A]? = w5.heap[A]? := hb6.block A hA5l (by omega) (by omega)
          have HC6 := Lib.hid (HC5.out.but hb6 hne.1 hne.2.1 hne.2.2.1 hne.2.2.2.1)
          have HB6 := Lib.hid (hb6.under HB5.out hsb hmb HB5.out.size)
          have hday := swapS_day st x.name x.s
          have hob := swapS_objs st x.name x.s
          have hways := swap_ways st x.name x.s
          clear k1 k2 k3
          obtain ⟨k1, k2, k3⟩ := CS.out w6 hA6
          obtain ⟨st', hst'⟩ : ∃ st', swapS st x.name x.s = st' := ⟨_, rfl⟩
          rw [hst'] at h6 hday hob hways
          have H6 := Lib.hid h6; have HD := Lib.hid hday; have HN := Lib.hid hob
          clear h6 hb6 hst' hday hob
          rcases hways with ⟨he, h1, h2⟩ | ⟨he, h1⟩
          · rw [he] at hev
            obtain rfl : ev = .nilIface := hev
            clear he
            have hd1 := fun n => (head_any wb wm st (w6.drewN n) (HC6.out.below (Bdn (Below.refl _ _) n))).mono (R' := fun e w' => e = .returned (S x.name) ∧ w' = w6.drewN n) (fun e w' ⟨ha, hb⟩ => ⟨by rw [ha, h1], hb.symm⟩)
            have hd2 := fun n => (head_any sb mb st' (w6.drewN n) (H6.out.below (Bdn (Below.refl _ _) n))).mono (R' := fun e w' => e = .returned (S x.s) ∧ w' = w6.drewN n) (fun e w' ⟨ha, hb⟩ => ⟨by rw [ha, h2], hb.symm⟩)
            clear h1 h2
            go_wp2_with fail
            go_quiet (first | (go_at_call_of 15 (stP wb); exact Calls.quiet_of_same (hd1 _)) | (go_at_call_of 15 (stP sb); exact Calls.quiet_of_same (hd2 _)))
            go_wp2_with fail
            go_meet
            exact ⟨st', H6.out.below (Bdn (Below.refl _ _) _), HC6.out.below (Bdn (Below.refl _ _) _), Bdn HB6.out _, by rw [HD.out]; exact Int.le_refl _, by rw [HN.out]; omega⟩
          · obtain ⟨ux, xx, rfl⟩ := hev.iface he
            clear hev he
            have hd1 := fun n => (head_any wb wm st (w6.drewN n) (HC6.out.below (Bdn (Below.refl _ _) n))).mono (R' := fun e w' => e = .returned (S st.head) ∧ w' = w6.drewN n) (fun e w' ⟨ha, hb⟩ => ⟨ha, hb.symm⟩)
            have hd2 := fun n => (head_any sb mb st' (w6.drewN n) (H6.out.below (Bdn (Below.refl _ _) n))).mono (R' := fun e w' => e = .returned (S st.head) ∧ w' = w6.drewN n) (fun e w' ⟨ha, hb⟩ => ⟨by rw [ha, h1], hb.symm⟩)
            clear h1
            go_wp2_with fail
            go_quiet (first | (go_at_call_of 15 (stP wb); exact Calls.quiet_of_same (hd1 _)) | (go_at_call_of 15 (stP sb); exact Calls.quiet_of_same (hd2 _)))
            go_wp2_with fail
            go_meet
            exact ⟨st', H6.out.below (Bdn (Below.refl _ _) _), HC6.out.below (Bdn (Below.refl _ _) _), Bdn HB6.out _, by rw [HD.out]; exact Int.le_refl _, by rw [HN.out]; omega⟩
      have g2 : (x.kind == [115, 119, 97, 112]) = false := by simpa using e2
      clear e2
      by_cases e3 : x.kind = [100, 114, 111, 112]
      case pos =>
        have g3 : (x.kind == [100, 114, 111, 112]) = true := by simpa using e3
        clear e3 k0
        as_aux_lemma =>
          obtain ⟨k1, k2, k3⟩ := CS.out w5 rfl
          go_wp2_with fail
          refine (drop_any E B sb mb st x.name _ ((hE.sub (by decide)).below' HB5.out hBw) H5.out (by have := hxo.1; omega)).mono ?_
          rintro e w6 ⟨ev, rfl, hev, h6, hb6⟩
          have hA6 : w6.heap[A]? = w5.heap[A]? := hb6.block A hA5l (by omega) (by omega)
          have HC6 := Lib.hid (HC5.out.but hb6 hne.1 hne.2.1 hne.2.2.1 hne.2.2.2.1)
          have HB6 := Lib.hid (hb6.under HB5.out hsb hmb HB5.out.size)
          have hA6l := (Array.getElem?_eq_some_iff.1 (hA6.trans hA5.out)).1
          clear k1 k2 k3
          obtain ⟨k1, k2, k3⟩ := CS.out w6 hA6
          rcases drop_ways st x.name with ⟨he, hg, hday, hln⟩ | ⟨he, hs⟩
          · obtain ⟨st', hst'⟩ : ∃ st', dropS st x.name = st' := ⟨_, rfl⟩
            rw [hst'] at h6 hg hday hln
            rw [he] at hev
            obtain rfl : ev = .nilIface := hev
            have H6 := Lib.hid h6; have HD := Lib.hid hday; have HN := Lib.hid hln
            clear h6 hb6 hst' hday hln he
            go_wp2_with fail
            refine (get_any E B sb mb st' x.name _ ((hE.sub (by decide)).below' HB6.out hBw) H6.out (by have := hxo.1; omega)).mono ?_
            rintro e w7 ⟨bad, rfl, hbad, hb7⟩
            rw [hg] at hbad ⊢
            rw [if_neg (by decide)] at hbad
            obtain ⟨u1, x1, rfl⟩ := hbad.iface (by simp)
            have H7 := Lib.hid (H6.out.below hb7); have HC7 := Lib.hid (HC6.out.below hb7)
            have HB7 := Lib.hid (HB6.out.trans (hb7.mono HB6.out.size))
            clear hbad hb7 hg
            go_wp2_with fail
            go_meet
            exact ⟨st', H7.out, HC7.out, HB7.out, by rw [HD.out]; exact Int.le_refl _, by have := HN.out; omega⟩
          · rw [hs] at h6
            obtain ⟨ux, xx, rfl⟩ := hev.iface he
            have H6 := Lib.hid h6
            clear h6 hb6 hev he hs
            go_wp2_with fail
            refine (get_any E B sb mb st x.name _ ((hE.sub (by decide)).below' HB6.out hBw) H6.out (by have := hxo.1; omega)).mono ?_
            rintro e w7 ⟨bad, rfl, hbad, hb7⟩
            have H7 := Lib.hid (H6.out.below hb7); have HC7 := Lib.hid (HC6.out.below hb7)
            have HB7 := Lib.hid (HB6.out.trans (hb7.mono HB6.out.size))
            generalize ((getO st.objs x.name).map (·.text)).getD [] = T
            clear hbad hb7
            go_wp2_with fail
            refine (same_true wb wm sb mb st st _ HC7.out H7.out rfl rfl rfl rfl).mono ?_
            rintro e w8 ⟨rfl, hb8⟩
            have H8 := Lib.hid (H7.out.below hb8); have HC8 := Lib.hid (HC7.out.below hb8)
            have HB8 := Lib.hid (HB7.out.trans (hb8.mono HB7.out.size))
            clear hb8
            go_wp2_with fail
            go_meet
            exact ⟨st, H8.out, HC8.out, HB8.out, Int.le_refl _, Nat.le_succ _⟩
      have g3 : (x.kind == [100, 114, 111, 112]) = false := by simpa using e3
      clear e3
      by_cases e4 : x.kind = [99, 117, 116]
      case pos =>
        have g4 : (x.kind == [99, 117, 116]) = true := by simpa using e4
        clear e4 k0
        as_aux_lemma =>
          obtain ⟨k1, k2, k3⟩ := CS.out w5 rfl
          go_wp2_with fail
          refine (cutSt_any E B sb mb st x.n _ ((hE.sub (by decide)).below' HB5.out hBw) H5.out hxn).mono ?_
          rintro e w6 ⟨ev, rfl, hev, h6, hb6⟩
          have HC6 := HC5.out.but hb6 hne.1 hne.2.1 hne.2.2.1 hne.2.2.2.1
          have HB6 := hb6.under HB5.out hsb hmb HB5.out.size
          clear hev k1 k2 k3
          go_wp2_with fail
          go_meet
          refine ⟨_, h6, HC6, HB6, ?_, ?_⟩
          · split <;> exact Int.le_refl _
          · split <;> exact Nat.le_succ _
      have g4 : (x.kind == [99, 117, 116]) = false := by simpa using e4
      clear e4
      by_cases e5 : x.kind = [111, 110]
      case pos =>
        have g5 : (x.kind == [111, 110]) = true := by simpa using e5
        clear e5 k0
        as_aux_lemma =>
          go_wp2_with fail
          refine (on_any sb mb st _ H5.out).mono ?_
          rintro e w6 ⟨rfl, h6, hb6⟩
          have HC6 := Lib.hid (HC5.out.but hb6 hne.1 hne.2.1 hne.2.2.1 hne.2.2.2.1)
          have HB6 := Lib.hid (hb6.under HB5.out hsb hmb HB5.out.size)
          have H6 := Lib.hid h6
          clear h6 hb6
          go_wp2_with fail
          refine (power_any sb mb _ _ H6.out).mono ?_
          rintro e w7 ⟨rfl, rfl⟩
          go_wp2_with fail
          go_meet
          exact ⟨_, H6.out, HC6.out, HB6.out, Int.le_refl _, Nat.le_succ _⟩
      have g5 : (x.kind == [111, 110]) = false := by simpa using e5
      clear e5
      as_aux_lemma =>
        obtain ⟨k1, k2, k3⟩ := CS.out w5 rfl
        go_wp2_with fail
        refine (next_any E B sb mb st x.n _ ((hE.sub (by decide)).below' HB5.out hBw) H5.out).mono ?_
        rintro e w6 ⟨ev, rfl, hev, h6, hb6⟩
        have hA6 : w6.heap[A]? = w5.heap[A]? := hb6.block A hA5l (by omega) (by omega)
        have HC6 := Lib.hid (HC5.out.but hb6 hne.1 hne.2.1 hne.2.2.1 hne.2.2.2.1)
        have HB6 := Lib.hid (hb6.under HB5.out hsb hmb HB5.out.size)
        clear k1 k2 k3
        obtain ⟨k1, k2, k3⟩ := CS.out w6 hA6
        have hd0 := H5.out.ok.day0
        have hd1 := H5.out.ok.day1
        unfold nextS at h6
        by_cases hb : nextBad st x.n
        · rw [if_pos hb] at hev h6 ⊢
          obtain ⟨ux, xx, rfl⟩ := hev.iface (by simp)
          have H6 := Lib.hid h6
          clear h6 hb6 hev hb
          go_wp2_with fail
          go_quiet (fail)
          go_wp2_with fail
          go_meet
          exact ⟨st, H6.out.below (Bdn (Below.refl _ _) _), HC6.out.below (Bdn (Below.refl _ _) _), Bdn HB6.out _, Int.le_refl _, Nat.le_succ _⟩
        · rw [if_neg hb] at hev h6 ⊢
          obtain rfl : ev = .nilIface := hev
          have hn0 : 0 ≤ x.n ∧ x.n ≤ 100000 - st.day := by
            have hb' : ¬ (x.n < 0 ∨ 100000 - st.day < x.n) := hb
            omega
          obtain ⟨hn0, hn1⟩ := hn0
          have H6 := Lib.hid h6
          have hd1 := fun n => (daySt_any wb wm st (w6.drewN n) (HC6.out.below (Bdn (Below.refl _ _) n))).mono (R' := fun e w' => e = .returned (.int .i64 st.day) ∧ w' = w6.drewN n) (fun e w' ⟨ha, hb⟩ => ⟨ha, hb.symm⟩)
          have hd2 := fun n => (daySt_any sb mb _ (w6.drewN n) (H6.out.below (Bdn (Below.refl _ _) n))).mono (R' := fun e w' => e = .returned (.int .i64 (st.day + x.n)) ∧ w' = w6.drewN n) (fun e w' ⟨ha, hb⟩ => ⟨ha, hb.symm⟩)
          have hwr : IntKind.i64.wrap (st.day + x.n) = st.day + x.n := IntWalk.i64_in _ (by omega)
          clear h6 hb6 hb
          go_wp2_with fail
          go_quiet (first | (go_at_call_of 20 (stP wb); exact Calls.quiet_of_same (hd1 _)) | (go_at_call_of 20 (stP sb); exact Calls.quiet_of_same (hd2 _)))
          go_wp2_with fail
          go_meet
          exact ⟨_, H6.out.below (Bdn (Below.refl _ _) _), HC6.out.below (Bdn (Below.refl _ _) _), Bdn HB6.out _, by show st.day ≤ st.day + x.n; omega, Nat.le_succ _⟩
    case rest =>
      obtain ⟨st', h6, h7, hb6, hd, hl⟩ := hcut
      have c2 := h6.c2
      have H6 := Lib.hid h6; have H7 := Lib.hid h7; have HB6 := Lib.hid hb6
      have g1 : decide (st'.day < st.day) = false := by simp; omega
      clear h6 h7 hb6
      as_aux_lemma =>
        go_wp2_with fail
        refine (daySt_any sb mb st' _ H6.out).mono ?_
        rintro e w6 ⟨rfl, rfl⟩
        go_wp2_with fail
        refine (daySt_any wb wm st _ H7.out).mono ?_
        rintro e w7 ⟨rfl, rfl⟩
        go_wp2_with fail
        refine (namesSt_any sb mb st' _ H6.out).mono ?_
        rintro e w8 ⟨v8, rfl, ho8, hb8⟩
        obtain ⟨a8, c8, b8, o8, rfl, -, -, -, -⟩ := ho8.at encS_enc
        rw [List.length_map]
        have H8 := Lib.hid (H6.out.below hb8); have H9 := Lib.hid (H7.out.below hb8)
        have HB8 := Lib.hid (HB6.out.trans (hb8.mono HB6.out.size))
        clear hb8 ho8
        go_wp2_with fail
        refine (namesSt_any wb wm st _ H9.out).mono ?_
        rintro e w9 ⟨v9, rfl, ho9, hb9⟩
        obtain ⟨a9, c9, b9, o9, rfl, -, -, -, -⟩ := ho9.at encS_enc
        rw [List.length_map]
        have H10 := Lib.hid (H8.out.below hb9)
        have HB10 := Lib.hid (HB8.out.trans (hb9.mono HB8.out.size))
        have hln := H7.out.ok.num
        have f1 : decide ((st.objs.length : Int) + 1 < (st'.objs.length : Int)) = false := by simp; omega
        have f2 : (st.objs.length : Int) ≤ 200 := by omega
        clear hb9 ho9
        go_wp2_with fail
        exact ⟨⟨k + 1, st', by go_num, by omega, H10.out, HB10.out⟩, by simp [intOf]; omega⟩
end Go.Proofs.YtepdedfmdafnkaaGreatDoor
