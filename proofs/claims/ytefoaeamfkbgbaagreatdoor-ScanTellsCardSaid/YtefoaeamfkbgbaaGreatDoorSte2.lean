/- deedboxref3.RowsOf: the walk. Printed by gen_ro.py. scan.Find's values lie where nothing lay before; scan.Rows of no store. Values put in order one by one. Of no program. coded and faulted of the packages of statements. deedboxlaw1.faulted at the fault's own numbers. coded and faulted answer true at the error's own numbers. -/
import Derived.Test.YtefoaeamfkbgbaaGreatDoorSte1
import Derived.Test.YtefoaeamfkbgbaaGreatDoorP21
import Derived.Test.YtefoaeamfkbgbaaGreatDoorP20
import Derived.Test.YtefoaeamfkbgbaaGreatDoorP22
import Derived.Test.YtefoaeamfkbgbaaGreatDoorP12
import Derived.Test.YtefoaeamfkbgbaaGreatDoorP18
import Derived.Test.YtefoaeamfkbgbaaGreatDoorP5
import Derived.Deep.RegionLaw
import Derived.Deep.DeepCutAuto
import Derived.BigQuiet
import Derived.Test.YtefoaeamfkbgbaaGreatDoorP7
import Derived.Test.YtefoaeamfkbgbaaGreatDoorP1
import Derived.Deep.RegionWith
import Derived.Test.YtefoaeamfkbgbaaGreatDoorP11
import Derived.Test.YtefoaeamfkbgbaaGreatDoorP15
import Derived.Test.YtefoaeamfkbgbaaGreatDoorP9
namespace Go.Proofs.YtefoaeamfkbgbaaGreatDoor
open Go.RowKit Go.Maps
theorem faultRow {W : World} {g : Nat} {a b : Value} {t : TypeId} (h : W.heap[g]? = some (.cells #[a, b] t (0, 0))) : W.cell? ⟨g, 0, none⟩ = some a ∧ W.cell? ⟨g, 1, none⟩ = some b ∧ ∀ j, W.frozen? ⟨g, j, none⟩ = false := by
  refine ⟨?_, ?_, fun j => frozen_row h⟩ <;> (rw [cell_of_row W _ _ _ _ (0, 0) h]; rfl)
theorem rowsAt_away {W : World} {G : Nat} {x y : Int} {ty : TypeId} {u : Value} {l : List Rw} (hG : W.heap[G]? = some (.cells #[.int .i64 x, .int .i64 y] ty (0, 0))) (p q : Value) (hu : RowsAt W u l) : RowsAt ((W.setCell ⟨G, 0, none⟩ p).setCell ⟨G, 1, none⟩ q) u l := by
  obtain ⟨a, c, b, o, hv, ha, hc, hm, hx⟩ := hu
  refine ⟨a, c, b, o, hv, ha, hc, hm, fun k y hk j v hv' => ?_⟩
  have hbF : b ≠ G := by
    rintro rfl
    have c1 := hx k y hk 0 _ rfl
    rw [cell_of_row W _ _ _ _ (0, 0) hG] at c1
    rcases Nat.lt_or_ge (o + k * 3) 2 with h | h
    · have : o + k * 3 = 0 ∨ o + k * 3 = 1 := by omega
      rcases this with e | e <;> rw [e] at c1 <;> simp at c1
    · rw [Array.getElem?_eq_none (by simp; omega)] at c1; cases c1
  have h3 := hx k y hk j v hv'
  rw [World.cell?_setCell_other _ _ _ _ (by intro e; have := congrArg Addr.block e; simp at this; omega), World.cell?_setCell_other _ _ _ _ (by intro e; have := congrArg Addr.block e; simp at this; omega)]
  exact h3
theorem snapCheck_pos {s : Sn} (h : snapCheck s ≠ .nil) : 0 < (snapCheck s).code := by
  unfold snapCheck at h ⊢
  split
  · decide
  · rename_i h0
    rw [if_neg h0] at h
    split
    · decide
    · rename_i h1
      rw [if_neg h1] at h
      split
      · rename_i h2; exact listCheck_code' h2
      · rename_i h2
        rw [if_neg h2] at h
        exact firstFrom_code h
/-- Nothing that was there has turned, but rows of type e. -/
def KeptBut (e : TypeId) (w w' : World) : Prop := w.heap.size ≤ w'.heap.size ∧ ∀ (k : Nat) (o : Obj), w.heap[k]? = some o → (∀ cs, o ≠ .cells cs e (0, 0)) → w'.heap[k]? = some o
theorem KeptBut.refl (e : TypeId) (w : World) : KeptBut e w w := ⟨Nat.le_refl _, fun _ _ h _ => h⟩
theorem KeptBut.below {e : TypeId} {w0 w w' : World} (h : KeptBut e w0 w) (hb : Below w.heap.size w w') : KeptBut e w0 w' := ⟨Nat.le_trans h.1 hb.size, fun k o hk ho => rowKept (h.2 k o hk ho) hb⟩
theorem KeptBut.grown {α : Type} {enc : α → List Value} {e : TypeId} {sz B : Nat} {w0 w w' : World} {v : Value} {l : List α} (h : KeptBut e w0 w) (ho : Own enc e sz B w v l) (hg : w.grownBy w' v.ownBlock) : KeptBut e w0 w' :=
  ⟨Nat.le_trans h.1 hg.size, fun k o hk hne => by
    have h1 := h.2 k o hk hne
    exact (hg.block k (Array.getElem?_eq_some_iff.1 h1).1 (fun e1 => own_ne ho h1 hne e1.symm)).trans h1⟩
theorem KeptBut.own {α : Type} {enc : α → List Value} {e e' : TypeId} {sz B : Nat} {w w' : World} {v : Value} {l : List α} (hk : KeptBut e w w') (hne : e' ≠ e) (h : Own enc e' sz B w v l) : Own enc e' sz B w' v l := by
  obtain ⟨h0, h3⟩ := h
  refine ⟨h0, ?_⟩
  rcases h3 with h4 | ⟨g, cap, cur, rfl, hB, hg, rest⟩
  · exact .inl h4
  · exact .inr ⟨g, cap, cur, rfl, hB, hk.2 g _ hg (fun cs hc => by cases hc; exact hne rfl), rest⟩
theorem tag_fst (l : List Rw) (q : Int) : (l.map fun r => (r, q)).map (·.1) = l := by simp [Function.comp_def]
theorem tag_snd (l : List Rw) (q : Int) : (l.map fun r => (r, q)).map (·.2) = List.replicate l.length q := by
  induction l with
  | nil => rfl
  | cons x l ih => simpa [List.replicate_succ] using ih
def RoPost (os : List Ob) (s : Sn) (lo hi : Int) (w : World) (e : Ending) (w' : World) : Prop := ∃ u, e = .returned (.tuple #[u, faultOf (rowsE os s lo hi)]) ∧ RowsAt w' u (rowsL os s lo hi) ∧ Below w.heap.size w w'
theorem ro_end {os : List Ob} {s : Sn} {lo hi : Int} {w W : World} {Fb : Nat} {tmps : Array Value} {cc pp : Int} {u : Value} (h8 : tmps.getD 8 undef = u) (hp : tmps.getD 9 undef = .pointer (some ⟨Fb, 0, none⟩)) (hu : RowsAt W u (rowsL os s lo hi)) (hcc : ((rowsE os s lo hi).code : Int) = cc) (hpp : (rowsE os s lo hi).place = pp)
    (hF : W.heap[Fb]? = some (.cells #[.int .i64 0, .int .i64 0] 58 (0, 0))) (hb : Below w.heap.size w W) (hle : w.heap.size ≤ Fb) :
    bodyPost Tryz.prog Tryz.f23 (RoPost os s lo hi w) .ret ⟨tmps, []⟩ ((W.setCell ⟨Fb, 0, none⟩ (.int .i64 cc)).setCell ⟨Fb, 1, none⟩ (.int .i64 pp)) := by
  subst hcc hpp
  exact bodyPost_ret (fault_tc (g := Fb) rfl hp (set_two hF _ _) h8) rfl ⟨_, rfl, rowsAt_away hF _ _ hu, (hb.setCell (p := ⟨Fb, 0, none⟩) hle _).setCell (p := ⟨Fb, 1, none⟩) hle _⟩
theorem ro_end_drew {os : List Ob} {s : Sn} {lo hi : Int} {w W : World} {Fb : Nat} {tmps : Array Value} {cc pp : Int} {u : Value} (h8 : tmps.getD 8 undef = u) (hp : tmps.getD 9 undef = .pointer (some ⟨Fb, 0, none⟩)) (hu : RowsAt W u (rowsL os s lo hi)) (hcc : ((rowsE os s lo hi).code : Int) = cc) (hpp : (rowsE os s lo hi).place = pp)
    (hF : W.heap[Fb]? = some (.cells #[.int .i64 0, .int .i64 0] 58 (0, 0))) (hb : Below w.heap.size w W) (hle : w.heap.size ≤ Fb) :
    bodyPost Tryz.prog Tryz.f23 (RoPost os s lo hi w) .ret ⟨tmps, []⟩ ((W.setCell ⟨Fb, 0, none⟩ (.int .i64 cc)).setCell ⟨Fb, 1, none⟩ (.int .i64 pp)).drew := by
  subst hcc hpp
  exact bodyPost_ret (fault_tc (g := Fb) rfl hp (by rw [World.heap_drew]; exact set_two hF _ _) h8) rfl ⟨_, rfl, (rowsAt_away hF _ _ hu).below (Bdn (Below.refl _ _) 1), Bdn ((hb.setCell (p := ⟨Fb, 0, none⟩) hle _).setCell (p := ⟨Fb, 1, none⟩) hle _) 1⟩
set_option maxHeartbeats 8000000 in
set_option maxRecDepth 20000 in
theorem rowsOf_any (B xb : Nat) (vm : Value) (st : St) (s : Sn) (v : Value) (lo hi : Int) (w : World) (h : ModAt w B xb vm st) (ht : ∀ o ∈ st.objs, o.text.length ≤ 10000) (hl : FilesAt w v s.files) (hs : ∀ x ∈ s.files, midF x) :
    Calls Tryz.prog 23 #[stP xb, snapV s v, .int .i64 lo, .int .i64 hi] w (RoPost st.objs s lo hi w) := by
  have X := Lib.hid (fun W (hb : Below w.heap.size w W) => (⟨hl.below hb, h.below hb⟩ : FilesAt W v s.files ∧ ModAt W B xb vm st))
  have hTx : ∀ p, (textO st.objs p).length ≤ 10000 := fun p => by
    unfold textO
    cases hg : getO st.objs p with
    | none => simp
    | some o => exact ht o (getO_mem hg).1
  have HTx := Lib.hid hTx
  obtain ⟨Fb, hFb⟩ : ∃ Fb, w.heap.size + 1 = Fb := ⟨_, rfl⟩
  have hsz1 : (w.alloc (.cells #[.int .i64 s.id, .int .i64 s.parent, .int .i64 s.seq, .int .i64 s.day, .int .i64 s.index, S s.op, v] 25)).heap.size = w.heap.size + 1 := by simp
  have hsz2 : ((w.alloc (.cells #[.int .i64 s.id, .int .i64 s.parent, .int .i64 s.seq, .int .i64 s.day, .int .i64 s.index, S s.op, v] 25)).alloc (.cells #[.int .i64 0, .int .i64 0] 58)).heap.size = w.heap.size + 2 := by simp
  have hba1 : Below w.heap.size w (w.alloc (.cells #[.int .i64 s.id, .int .i64 s.parent, .int .i64 s.seq, .int .i64 s.day, .int .i64 s.index, S s.op, v] 25)) := (Below.refl _ _).alloc (Nat.le_refl _) _
  have hba2 : Below (w.alloc (.cells #[.int .i64 s.id, .int .i64 s.parent, .int .i64 s.seq, .int .i64 s.day, .int .i64 s.index, S s.op, v] 25)).heap.size (w.alloc (.cells #[.int .i64 s.id, .int .i64 s.parent, .int .i64 s.seq, .int .i64 s.day, .int .i64 s.index, S s.op, v] 25)) ((w.alloc (.cells #[.int .i64 s.id, .int .i64 s.parent, .int .i64 s.seq, .int .i64 s.day, .int .i64 s.index, S s.op, v] 25)).alloc (.cells #[.int .i64 0, .int .i64 0] 58)) := (Below.refl _ _).alloc (Nat.le_refl _) _
  have hba := hba1.trans (hba2.mono hba1.size)
  have hgb := rowKept (heap_alloc_new w (.cells #[.int .i64 s.id, .int .i64 s.parent, .int .i64 s.seq, .int .i64 s.day, .int .i64 s.index, S s.op, v] 25)) hba2
  have hgf := heap_alloc_new (w.alloc (.cells #[.int .i64 s.id, .int .i64 s.parent, .int .i64 s.seq, .int .i64 s.day, .int .i64 s.index, S s.op, v] 25)) (.cells #[.int .i64 0, .int .i64 0] 58)
  rw [hsz1, hFb] at hgf
  have HGb := Lib.hid (fun W (hb : Below ((w.alloc (.cells #[.int .i64 s.id, .int .i64 s.parent, .int .i64 s.seq, .int .i64 s.day, .int .i64 s.index, S s.op, v] 25)).alloc (.cells #[.int .i64 0, .int .i64 0] 58)).heap.size ((w.alloc (.cells #[.int .i64 s.id, .int .i64 s.parent, .int .i64 s.seq, .int .i64 s.day, .int .i64 s.index, S s.op, v] 25)).alloc (.cells #[.int .i64 0, .int .i64 0] 58)) W) => rowKept hgb hb)
  have HGf := Lib.hid (fun W (hb : Below ((w.alloc (.cells #[.int .i64 s.id, .int .i64 s.parent, .int .i64 s.seq, .int .i64 s.day, .int .i64 s.index, S s.op, v] 25)).alloc (.cells #[.int .i64 0, .int .i64 0] 58)).heap.size ((w.alloc (.cells #[.int .i64 s.id, .int .i64 s.parent, .int .i64 s.seq, .int .i64 s.day, .int .i64 s.index, S s.op, v] 25)).alloc (.cells #[.int .i64 0, .int .i64 0] 58)) W) => rowKept hgf hb)
  have HSz := Lib.hid hsz2
  have HN : Hid (w.heap.size ≤ Fb ∧ w.heap.size ≠ Fb ∧ Fb < w.heap.size + 2) := Lib.hid (by omega)
  have HS := Lib.hid hs
  obtain ⟨a, c, b, o, rfl, ha, hc, hcm, hx⟩ := hl
  unfold maxLen at hcm
  have HX := Lib.hid hx
  clear hba1 hba2 hsz1 hsz2 hgb hgf h hx hs ht hTx
  go_enter Tryz.func23, Tryz.ntmps23
  go_upto_region 1 with fail
  generalize (w.alloc (.cells #[.int .i64 s.id, .int .i64 s.parent, .int .i64 s.seq, .int .i64 s.day, .int .i64 s.index, S s.op, .slice a s.files.length c] 25)).alloc (.cells #[.int .i64 0, .int .i64 0] 58) = w0 at *
  try rw [hFb]
  clear hFb
  obtain ⟨c0, c1, c2, c3, c4, c5, c6⟩ := snRow7 (HGb.out _ (Below.refl _ _))
  have HFa := Lib.hid (snapFault_any s _ w0 (X.out _ hba).1 HS.out)
  go_wp2_with fail
  refine HFa.out.mono ?_
  rintro e w1 ⟨rfl, hb1⟩
  have hbw1 := hba.trans (hb1.mono hba.size)
  clear c0 c1 c2 c3 c4 c5 c6 HFa
  rw [show faultOf (snapCheck s) = .agg #[.int .i64 ((snapCheck s).code : Int), .int .i64 (snapCheck s).place] from rfl]
  obtain ⟨cc, hcc⟩ : ∃ cc : Nat, (snapCheck s).code = cc := ⟨_, rfl⟩
  obtain ⟨pp, hpp⟩ : ∃ pp : Int, (snapCheck s).place = pp := ⟨_, rfl⟩
  rw [hcc, hpp]
  have hb2 : Below w1.heap.size w1 (w1.alloc (.cells #[.int .i64 (cc : Nat), .int .i64 pp] 58)) := (Below.refl _ _).alloc (Nat.le_refl _) _
  have hgg := heap_alloc_new w1 (.cells #[.int .i64 (cc : Nat), .int .i64 pp] 58)
  have hb02 := hb1.trans (hb2.mono hb1.size)
  have hbw2 := hbw1.trans (hb2.mono hbw1.size)
  have hG0 : w0.heap.size ≤ w1.heap.size := hb1.size
  go_upto_region 2 with fail
  generalize w1.alloc (.cells #[.int .i64 (cc : Nat), .int .i64 pp] 58) = w2 at *
  obtain ⟨G, hG⟩ : ∃ G, w1.heap.size = G := ⟨_, rfl⟩
  rw [hG] at hgg hG0 ⊢
  have HCp : Hid ((snapCheck s).code = cc ∧ (snapCheck s).place = pp) := Lib.hid ⟨hcc, hpp⟩
  obtain ⟨e0, e1, ez⟩ := faultRow hgg
  clear hG hgg ez hb2
  by_cases hck : snapCheck s = .nil
  case neg =>
    have hpos := snapCheck_pos hck
    rw [hcc] at hpos
    have gp : (0 : Int) < (cc : Int) := by omega
    have HE2 : Hid (rowsE st.objs s lo hi = snapCheck s) := Lib.hid (by unfold rowsE; rw [if_pos hck])
    have HL2 : Hid (rowsL st.objs s lo hi = []) := Lib.hid (rowsL_bad (by rw [HE2.out]; exact hck))
    clear hck hcc hpp
    have hgf := HGf.out _ hb02
    obtain ⟨y0, y1, yz⟩ := faultRow hgf
    have gy0 := yz 0; have gy1 := yz 1
    have HFz := Lib.hid hgf
    clear yz hgf
    have hGF : ¬ G = Fb ∧ ¬ Fb = G := by have h1 := HSz.out; have h2 := HN.out; omega
    obtain ⟨k1, k2⟩ := hGF
    go_wp2_with fail
    go_region_law (fail)
    all_goals
      go_wp2_with fail
      first
        | exact ro_end_drew rfl rfl (by rw [HL2.out]; exact At.nil _ _ _) (by rw [HE2.out, HCp.out.1]) (by rw [HE2.out]; exact HCp.out.2) HFz.out hbw2 HN.out.1
        | exact ro_end rfl rfl (by rw [HL2.out]; exact At.nil _ _ _) (by rw [HE2.out, HCp.out.1]) (by rw [HE2.out]; exact HCp.out.2) HFz.out hbw2 HN.out.1
  have HR := Lib.hid ((snap_iff s).1 hck)
  have HCk := Lib.hid hck
  have hn60 := HR.out.lst.len
  have hc0 : cc = 0 := by rw [hck] at hcc; exact hcc.symm
  have g1 : decide ((0 : Int) < (cc : Int)) = false := by simp [hc0]
  have g2 : decide (0 < cc) = false := by simp [hc0]
  clear hck hcc hpp hc0 HCp
  go_wp2_with fail
  clear e0 e1 g1 g2
  go_loopw [8, 11, 12, 13] (fun r u q i wr => ∃ (k : Nat) (acc : List (Rw × Int)) (vo vq : Value), k ≤ s.files.length ∧ r = .slice none 0 0 ∧ vo = u ∧ vq = q ∧ i = .int .i64 k ∧ acc.length ≤ k * 40 ∧ Hid (acc = goOn st.objs lo hi (s.files.take k) []) ∧ Hid (∀ j < k, scanF st.objs lo hi s.files j = 0) ∧ Hid (Own encR 65 3 w2.heap.size wr vo (acc.map (·.1))) ∧ Hid (Own encI 3 1 w2.heap.size wr vq (acc.map (·.2))) ∧ Below w2.heap.size w2 wr) (fun _ _ _ i _ => s.files.length - (intOf i).toNat)
  case atStart => exact ⟨0, [], _, _, by omega, rfl, rfl, rfl, rfl, Nat.zero_le _, Lib.hid (by rw [List.take_zero]; rfl), Lib.hid fun j hj => absurd hj (by omega), Lib.hid (Own.nil _ _ _ _ _), Lib.hid (Own.nil _ _ _ _ _), Below.refl _ _⟩
  case round =>
    obtain ⟨k, acc, vo, vq, hk, rfl, rfl, rfl, rfl, hal, hacc, hj, ho, hq, hb⟩ := hrel
    obtain ⟨wo, rfl⟩ : ∃ wo, wo = wr := ⟨wr, rfl⟩
    have hbwo := hbw2.trans (hb.mono hbw2.size)
    have hb0o := hb02.trans (hb.mono hb02.size)
    have b6 := (snRow7 (HGb.out _ hb0o)).2.2.2.2.2.2
    by_cases hlt : k < s.files.length
    case neg =>
      obtain rfl : k = s.files.length := by omega
      have f1 : decide ((s.files.length : Int) < (s.files.length : Int)) = false := by simp
      have HE2 : Hid (rowsE st.objs s lo hi = .nil) := Lib.hid (rowsE_all HCk.out hj.out)
      have HL2 : Hid (rowsL st.objs s lo hi = sortR (acc.map (·.1))) := Lib.hid (by rw [rowsL_good HE2.out, hacc.out, List.take_length])
      have HSo := Lib.hid (refSortRows_any vo (acc.map (·.1)) wo (ho.out.at encR_enc) (by rw [List.length_map]; omega))
      clear hal
      go_wp2_with fail
      refine HSo.out.mono ?_
      rintro e w3 ⟨v', rfl, hr, hb3⟩
      have HR3 := Lib.hid hr
      clear hr HSo b6
      go_wp2_with fail
      refine (refFine_any _).mono ?_
      rintro e w4 ⟨rfl, hb4⟩
      have hbw4 := hbwo.trans ((hb3.trans (hb4.mono hb3.size)).mono hbwo.size)
      have hb04 := hb0o.trans ((hb3.trans (hb4.mono hb3.size)).mono hb0o.size)
      have HR4 := Lib.hid (HR3.out.below hb4)
      have hgf := HGf.out _ hb04
      obtain ⟨y0, y1, yz⟩ := faultRow hgf
      have gy0 := yz 0; have gy1 := yz 1
      have HFz := Lib.hid hgf
      clear yz hgf
      unfold faultV
      go_wp2_with fail
      exact ro_end rfl rfl (by rw [HL2.out]; exact HR4.out) (by rw [HE2.out]; rfl) (by rw [HE2.out]; rfl) HFz.out hbw4 HN.out.1
    have f1 : (k : Int) < (s.files.length : Int) := by omega
    obtain ⟨x, hxk⟩ := get_ex hlt
    obtain ⟨c0, c1, c2, c3, c4, c5⟩ := flCells HX.out hbwo hxk
    have i1 := idx_at (c := c) 6 Tryz.underlying23 szFl ha k hlt
    have HXk := Lib.hid hxk
    have HMx := Lib.hid (HS.out x (List.mem_of_getElem? hxk))
    have HSf := Lib.hid (scanF_at (os := st.objs) (lo := lo) (hi := hi) hxk)
    have HGo := Lib.hid (goOn_next (os := st.objs) (lo := lo) (hi := hi) hxk)
    rw [← hacc.out] at HGo
    have HJ : Hid (scanF st.objs lo hi s.files k = 0 → ∀ j < k + 1, scanF st.objs lo hi s.files j = 0) := Lib.hid fun h j hj' => by
      rcases Nat.lt_or_ge j k with h' | h'
      · exact hj.out j h'
      · obtain rfl : j = k := by omega
        exact h
    have HBad : Hid (scanF st.objs lo hi s.files k ≠ 0 → rowsE st.objs s lo hi = .loc (scanF st.objs lo hi s.files k) k ∧ rowsL st.objs s lo hi = []) := Lib.hid fun h => by
      have e := rowsE_hit HCk.out hlt hj.out h
      exact ⟨e, rowsL_bad (by rw [e]; simp)⟩
    have hA : Below wo.heap.size wo (wo.alloc (.cells #[S x.path, S x.part, .int .i64 x.n, .int .i64 x.lo, .int .i64 x.hi, .int .i64 x.seq] 44)) := (Below.refl _ _).alloc (Nat.le_refl _) _
    have hgA := heap_alloc_new wo (.cells #[S x.path, S x.part, .int .i64 x.n, .int .i64 x.lo, .int .i64 x.hi, .int .i64 x.seq] 44)
    have hbwA := hbwo.trans (hA.mono hbwo.size)
    have hbA := hb.trans (hA.mono hb.size)
    clear hxk hacc
    go_upto_region 10 with fail
    clear c0 c1 c2 c3 c4 c5 i1 b6
    generalize wo.alloc (.cells #[S x.path, S x.part, .int .i64 x.n, .int .i64 x.lo, .int .i64 x.hi, .int .i64 x.seq] 44) = wA at *
    obtain ⟨P, hP⟩ : ∃ P, wo.heap.size = P := ⟨_, rfl⟩
    rw [hP] at hgA ⊢
    clear hP
    have HgA := Lib.hid hgA
    have HC := Lib.hid (fun W (h : Below wA.heap.size wA W) => rowF6 (rowKept hgA h))
    obtain ⟨c0, c1, c2, c3, c4, c5⟩ := HC.out wA (Below.refl _ _)
    have hB : Below wA.heap.size wA (wA.alloc (.cells #[S x.path, S x.part, .int .i64 x.n, .int .i64 x.lo, .int .i64 x.hi, .int .i64 x.seq] 44)) := (Below.refl _ _).alloc (Nat.le_refl _) _
    have hPr := pruneOf_any (.slice (some ⟨wA.heap.size, 0, none⟩) 1 1) [x] lo hi _ (file_new x wA 44 _ rfl) (by simp)
    rw [prune_one] at hPr
    have HPr := Lib.hid hPr
    have hbwB := hbwA.trans (hB.mono hbwA.size)
    have hbB := hbA.trans (hB.mono hbA.size)
    clear hgA hPr
    go_wp2_with fail
    refine HPr.out.mono ?_
    rintro e w3 ⟨v', rfl, hv', hb3⟩
    have hA3 := hB.trans (hb3.mono hB.size)
    have hbw3 := hbwB.trans (hb3.mono hbwB.size)
    have hb3' := hbB.trans (hb3.mono hbB.size)
    clear c0 c1 c2 c3 c4 c5 HPr hB
    cases hpx : pruneP lo hi x with
    | true =>
      rw [hpx, if_pos rfl] at hv'
      obtain ⟨a', c', rfl, -, -⟩ := hv'.form'
      have HS0 : Hid (scanF st.objs lo hi s.files k = 0) := Lib.hid (by rw [HSf.out, if_pos hpx])
      have HAc : Hid (acc = goOn st.objs lo hi (s.files.take (k + 1)) []) := Lib.hid (by rw [HGo.out, stepO_idle hpx])
      have HO3 := Lib.hid (ho.out.below (hA.trans (hA3.mono hA.size)))
      have HQ3 := Lib.hid (hq.out.below (hA.trans (hA3.mono hA.size)))
      clear hpx hv' ho hq hj
      simp only [List.length_nil]
      go_wp2_with fail
      go_roundw
      case rel => exact ⟨k + 1, acc, vo, vq, by omega, rfl, rfl, rfl, by go_num, by omega, HAc, Lib.hid (HJ.out HS0.out), HO3, HQ3, hb3'⟩
      case measure => simp [intOf]; omega
    | false =>
    rw [hpx, if_neg (by decide)] at hv'
    obtain ⟨a', c', rfl, -, -⟩ := hv'.form'
    have HSf2 : Hid (scanF st.objs lo hi s.files k = fileE st.objs x) := Lib.hid (by rw [HSf.out, if_neg (by rw [hpx]; decide)])
    have HPx := Lib.hid hpx
    have HO3 := Lib.hid (ho.out.below (hA.trans (hA3.mono hA.size)))
    have HQ3 := Lib.hid (hq.out.below (hA.trans (hA3.mono hA.size)))
    have hge := getM_any B xb vm st x.path w3 (X.out _ hbw3).2
    rw [show (((getO st.objs x.path).map (·.text)).getD []) = textO st.objs x.path from rfl] at hge
    obtain ⟨c0, -, -, -, -, -⟩ := HC.out w3 hA3
    have hb03 := hb02.trans (hb3'.mono hb02.size)
    clear hpx hv' ho hq hj HSf hA hbA hbB hbwA hbwB
    simp only [List.length_cons, List.length_nil]
    cases hsm : (getO st.objs x.path).isSome with
    | false =>
      rw [hsm, if_neg (by decide)] at hge
      have HGe := Lib.hid hge
      have HE6 := Lib.hid (HBad.out (by rw [HSf2.out, fileE_lack hsm]; decide))
      have HE7 : Hid (scanF st.objs lo hi s.files k = 6) := Lib.hid (by rw [HSf2.out, fileE_lack hsm])
      generalize textO st.objs x.path = T at *
      clear hsm hge
      go_wp2_with fail
      refine HGe.out.mono ?_
      rintro e w4 ⟨rfl, hb4⟩
      have hbw4 := hbw3.trans (hb4.mono hbw3.size)
      have hb04 := hb03.trans (hb4.mono hb03.size)
      have hgf := HGf.out _ hb04
      obtain ⟨y0, y1, yz⟩ := faultRow hgf
      have gy0 := yz 0; have gy1 := yz 1
      have HFz := Lib.hid hgf
      clear yz hgf c0
      go_wp2_with fail
      exact ro_end rfl rfl (by rw [HE6.out.2]; exact At.nil _ _ _) (by rw [HE6.out.1, HE7.out]; rfl) (by rw [HE6.out.1]; rfl) HFz.out hbw4 HN.out.1
    | true =>
    rw [hsm, if_pos rfl] at hge
    have HGe := Lib.hid hge
    have HSm := Lib.hid hsm
    have hTl := HTx.out x.path
    clear hge hsm
    obtain ⟨T, hT⟩ : ∃ T, textO st.objs x.path = T := ⟨_, rfl⟩
    rw [hT] at HGe hTl
    have HT := Lib.hid hT
    clear hT
    obtain ⟨y, cf, hyc⟩ : ∃ y cf, ofText x.path x.part T x.seq = (y, cf) := ⟨(ofText x.path x.part T x.seq).1, (ofText x.path x.part T x.seq).2, rfl⟩
    have HFe : Hid (fileE st.objs x = if cf ≠ 0 then cf else if y ≠ x then 3 else 0) := Lib.hid (fileE_text HSm.out (by rw [HT.out]; exact hyc))
    have HOf := Lib.hid (fun W => refOfText_any x.path x.part T x.seq W (by have := HMx.out.1; omega) (by have := HMx.out.2; omega) (.inl hTl) (by omega))
    unfold RofPost at HOf
    rw [hyc] at HOf
    have HTl := Lib.hid hTl
    clear hyc hTl
    go_wp2_with fail
    refine HGe.out.mono ?_
    rintro e w4 ⟨rfl, hb4⟩
    have hA4 := hA3.trans (hb4.mono hA3.size)
    have hbw4 := hbw3.trans (hb4.mono hbw3.size)
    have hb04 := hb03.trans (hb4.mono hb03.size)
    have hb4' := hb3'.trans (hb4.mono hb3'.size)
    clear c0 HGe
    obtain ⟨c0, c1, c2, c3, c4, c5⟩ := HC.out w4 hA4
    go_wp2_with fail
    refine (HOf.out w4).mono ?_
    rintro e w5 ⟨rfl, hb5⟩
    unfold fileV
    have hb6 := hb5.alloc hb5.size (.cells #[S y.path, S y.part, .int .i64 y.n, .int .i64 y.lo, .int .i64 y.hi, .int .i64 y.seq] 44)
    have hg6 := heap_alloc_new w5 (.cells #[S y.path, S y.part, .int .i64 y.n, .int .i64 y.lo, .int .i64 y.hi, .int .i64 y.seq] 44)
    have hA6 := hA4.trans (hb6.mono hA4.size)
    have hbw6 := hbw4.trans (hb6.mono hbw4.size)
    have hb06 := hb04.trans (hb6.mono hb04.size)
    have hb6' := hb4'.trans (hb6.mono hb4'.size)
    have HO6 := Lib.hid (HO3.out.below (hb4.trans (hb6.mono hb4.size)))
    have HQ6 := Lib.hid (HQ3.out.below (hb4.trans (hb6.mono hb4.size)))
    clear c0 c1 c2 c3 c4 c5 HOf hb5
    go_upto_region 16 with fail
    generalize w5.alloc (.cells #[S y.path, S y.part, .int .i64 y.n, .int .i64 y.lo, .int .i64 y.hi, .int .i64 y.seq] 44) = w6 at *
    obtain ⟨Y, hY⟩ : ∃ Y, w5.heap.size = Y := ⟨_, rfl⟩
    rw [hY] at hg6 ⊢
    clear hY
    obtain ⟨c0, c1, c2, c3, c4, c5⟩ := HC.out w6 hA6
    obtain ⟨d0, d1, d2, d3, d4, d5⟩ := rowF6 hg6
    have HgP := Lib.hid (rowKept (HgA.out) hA6)
    have hneq := fl_neq y x
    have hgd := fl_guard
    clear hg6 hb3 hb4 hb6 hA3 hA4 hb4' hb3' hb03 hb04 HO3 HQ3 hbw3 hbw4
    by_cases hcf : cf = 0
    case neg =>
      have g1 : ((cf : Int) == 0) = false := by simp; omega
      have g2 : (0 : Int) < (cf : Int) := by omega
      have hE7 : scanF st.objs lo hi s.files k = cf := by rw [HSf2.out, HFe.out, if_pos hcf]
      have HE6 := Lib.hid (HBad.out (by rw [hE7]; exact hcf))
      have HE7 := Lib.hid hE7
      have hgf := HGf.out _ hb06
      obtain ⟨y0, y1, yz⟩ := faultRow hgf
      have gy0 := yz 0; have gy1 := yz 1
      have HFz := Lib.hid hgf
      clear yz hgf hcf hE7
      go_wp2_with fail
      exact ro_end rfl rfl (by rw [HE6.out.2]; exact At.nil _ _ _) (by rw [HE6.out.1, HE7.out]; rfl) (by rw [HE6.out.1]; rfl) HFz.out hbw6 HN.out.1
    subst hcf
    by_cases hyx : y = x
    case neg =>
      rw [decide_eq_false hyx] at hneq
      have hE7 : scanF st.objs lo hi s.files k = 3 := by rw [HSf2.out, HFe.out, if_neg (by simp), if_pos hyx]
      have HE6 := Lib.hid (HBad.out (by rw [hE7]; decide))
      have HE7 := Lib.hid hE7
      have hgf := HGf.out _ hb06
      obtain ⟨y0, y1, yz⟩ := faultRow hgf
      have gy0 := yz 0; have gy1 := yz 1
      have HFz := Lib.hid hgf
      clear yz hgf hE7 hyx
      go_wp2_with fail
      exact ro_end rfl rfl (by rw [HE6.out.2]; exact At.nil _ _ _) (by rw [HE6.out.1, HE7.out]; rfl) (by rw [HE6.out.1]; rfl) HFz.out hbw6 HN.out.1
    obtain rfl := hyx.symm
    rw [decide_eq_true rfl] at hneq
    have hE7 : scanF st.objs lo hi s.files k = 0 := by rw [HSf2.out, HFe.out, if_neg (by simp), if_neg (by simp)]
    have HJ2 := Lib.hid (HJ.out hE7)
    clear hE7 HJ HBad HSf2 HFe
    cases hg : isG x with
    | false =>
      have g : (x.part == [45]) = false := hg
      have gb : (x.part != [45]) = true := by unfold isG at hg; simpa using hg
      have hAc := HGo.out.trans (stepO_data HPx.out hg)
      rw [HT.out] at hAc
      have HRd := Lib.hid (readData_any T w6 (.inl HTl.out) (by have := HTl.out; omega))
      have hl40 := dataL_40 T
      clear hg HGo
      go_wp2_with fail
      refine HRd.out.mono ?_
      rintro e w7 ⟨u1, rfl, hu1, hb7⟩
      clear d0 d1 d2 d3 d4 d5 hneq hgd
      rw [show faultOf (dataE T) = .agg #[.int .i64 ((dataE T).code : Nat), .int .i64 (dataE T).place] from rfl]
      have hu1' := hu1.here
      obtain ⟨a1, c1', rfl, -, -⟩ := hu1'.form'
      obtain ⟨cc, hcc⟩ : ∃ cc : Nat, (dataE T).code = cc := ⟨_, rfl⟩
      obtain ⟨pp, hpp⟩ : ∃ pp : Int, (dataE T).place = pp := ⟨_, rfl⟩
      rw [hcc, hpp]
      have hb8 := hb7.alloc hb7.size (.cells #[.int .i64 (cc : Nat), .int .i64 pp] 58)
      have HU8 := Lib.hid (hu1'.below ((Below.refl _ _).alloc (Nat.le_refl _) (.cells #[.int .i64 (cc : Nat), .int .i64 pp] 58)))
      obtain ⟨dl, hdl⟩ : ∃ dl, dataL T = dl := ⟨_, rfl⟩
      rw [hdl] at hAc HU8 hl40 ⊢
      have HAc := Lib.hid hAc
      clear hcc hpp hu1 hu1' HRd hb7 c0 c1 c2 c3 c4 c5 hdl hAc g gb
      go_upto_region 22 with fail
      generalize w7.alloc (.cells #[.int .i64 (cc : Nat), .int .i64 pp] 58) = w8 at *
      have HWi := Lib.hid (withinRows_any _ dl lo hi w8 HU8.out (by omega))
      have hwl := withinR_len dl lo hi
      go_wp2_with fail
      refine HWi.out.mono ?_
      rintro e w9 ⟨v9, rfl, hv9, hb9⟩
      have hb9' := hb8.trans (hb9.mono hb8.size)
      obtain ⟨wl, hwl'⟩ : ∃ wl, withinR dl lo hi = wl := ⟨_, rfl⟩
      rw [hwl'] at hv9 hwl HAc
      obtain ⟨a9, c9, rfl, -, -⟩ := (hv9.at encR_enc).form'
      have HV9 := Lib.hid hv9
      have HQ9 := Lib.hid (HQ6.out.below hb9')
      have HO9 := Lib.hid (HO6.out.below hb9')
      have HP9 := Lib.hid (rowKept HgP.out hb9')
      have hb9o := hb6'.trans (hb9'.mono hb6'.size)
      clear hv9 hwl' HWi HU8 hb8 hb9 HO6 HQ6 hb9' hA6 hb6' hb06 hbw6
      go_wp2_with fail
      go_loopw [12, 21] (fun q i wr => ∃ (m : Nat) (R : List Int) (vr : Value), m ≤ wl.length ∧ i = .int .i64 m ∧ vr = q ∧ R.length ≤ k * 40 + m ∧ Hid (R = acc.map (·.2) ++ List.replicate m x.seq) ∧ Hid (Own encI 3 1 w2.heap.size wr vr R) ∧ Hid (KeptBut 3 w9 wr) ∧ Below w2.heap.size w2 wr) (fun _ i _ => wl.length - (intOf i).toNat)
      case atStart => exact ⟨0, acc.map (·.2), _, by omega, rfl, rfl, by rw [List.length_map]; exact hal, Lib.hid (by simp), HQ9, Lib.hid (KeptBut.refl _ _), hb9o⟩
      case round =>
        obtain ⟨m, R, vr, hm, rfl, rfl, hRl, hR, hr, hkb, hbr⟩ := hrel
        obtain ⟨wp, rfl⟩ : ∃ wp, wp = wr := ⟨wr, rfl⟩
        by_cases hml : m < wl.length
        case neg =>
          obtain rfl : m = wl.length := by omega
          have f2 : decide ((wl.length : Int) < (wl.length : Int)) = false := by simp
          have hsrc := ((hkb.out.own (by decide) HV9.out).at encR_enc).src encR_enc (by decide)
          have hop := hkb.out.own (by decide) HO9.out
          obtain ⟨O, hO⟩ : ∃ O, acc.map (·.1) = O := ⟨_, rfl⟩
          have hOl : O.length ≤ k * 40 := by rw [← hO, List.length_map]; exact hal
          rw [hO] at hop
          have HOp := Lib.hid hop
          have HOe := Lib.hid hO
          have HRl : Hid (R.length ≤ k * 40 + wl.length) := Lib.hid hRl
          clear hO hop hRl
          go_wp2_with (at_builtin; refine wpList_app rfl _ _ _ rfl w2.heap.size elRw vo O.length _ rfl HOp.out _ _ _ rfl hsrc (by unfold maxLen; omega) (by omega) hbr.size ?_; intro v10 w10 hown hg10 _)
          have ho10 := own_app hown
          have hb10 := Bapp hbr HOp.out hg10 (Nat.le_refl _) hbr.size
          have hr10 := ((KeptBut.refl 65 wp).grown HOp.out hg10).own (by decide) hr.out
          go_roundw
          case rel => exact ⟨k + 1, acc ++ wl.map (fun r => (r, x.seq)), v10, vr, by omega, rfl, rfl, rfl, by go_num, by rw [List.length_append, List.length_map]; omega, Lib.hid HAc.out.symm, HJ2, Lib.hid (by rw [List.map_append, tag_fst, HOe.out]; exact ho10), Lib.hid (by rw [List.map_append, tag_snd, ← hR.out]; exact hr10), hb10⟩
          case measure => simp [intOf]; omega
        have f2 : (m : Int) < (wl.length : Int) := by omega
        obtain ⟨-, -, -, -, -, c5⟩ := rowF6 (f := x) (hkb.out.2 P _ HP9.out (fun cs h => by simp at h))
        go_wp2_with (at_builtin; refine wpList_app rfl _ _ _ rfl w2.heap.size elInt vr R.length _ rfl (hr.out.alloc _) (.slice (some ⟨wp.heap.size, 0, none⟩) 1 1) 1 (encI x.seq) rfl (src_one rfl rfl (by simp [Value.oneCell'])) (by unfold maxLen; omega) (by omega) (by have h2 := hbr.size; simp; omega) ?_; intro v10 w10 hown hg10 _)
        have ho10 := Own.snoc hown
        have hal' : Below wp.heap.size wp (wp.alloc (.cells #[.int .i64 x.seq] 3)) := (Below.refl _ _).alloc (Nat.le_refl _) _
        have hk10 := (hkb.out.below hal').grown (hr.out.alloc _) hg10
        have hb10 := Bapp (hbr.alloc hbr.size _) (hr.out.alloc _) hg10 (Nat.le_refl _) (by have := hbr.size; simp; omega)
        go_roundw
        case rel => exact ⟨m + 1, R ++ [x.seq], v10, by omega, by go_num, rfl, by simp; omega, Lib.hid (by rw [hR.out, List.append_assoc, List.replicate_succ']), Lib.hid ho10, Lib.hid hk10, hb10⟩
        case measure => simp [intOf]; omega
    | true =>
      have g : (x.part == [45]) = true := hg
      have gb : (x.part != [45]) = false := by unfold isG at hg; simpa using hg
      have hAc := HGo.out.trans (stepO_gone HPx.out hg)
      rw [HT.out] at hAc
      have HRg := Lib.hid (readGone_any T w6 (by have := HTl.out; omega))
      clear hg HGo
      go_wp2_with fail
      refine HRg.out.mono ?_
      rintro e w7 ⟨u1, rfl, hu1, hb7⟩
      clear d0 d1 d2 d3 d4 d5 hneq hgd
      rw [show faultOf (goneE T) = .agg #[.int .i64 ((goneE T).code : Nat), .int .i64 (goneE T).place] from rfl]
      have hu1' := hu1.here
      obtain ⟨a1, c1', rfl, -, -⟩ := hu1'.form'
      obtain ⟨cc, hcc⟩ : ∃ cc : Nat, (goneE T).code = cc := ⟨_, rfl⟩
      obtain ⟨pp, hpp⟩ : ∃ pp : Int, (goneE T).place = pp := ⟨_, rfl⟩
      rw [hcc, hpp]
      have hb8 := hb7.alloc hb7.size (.cells #[.int .i64 (cc : Nat), .int .i64 pp] 58)
      have HU8 := Lib.hid (hu1'.below ((Below.refl _ _).alloc (Nat.le_refl _) (.cells #[.int .i64 (cc : Nat), .int .i64 pp] 58)))
      obtain ⟨kl, hkl⟩ : ∃ kl, goneL T = kl := ⟨_, rfl⟩
      rw [hkl] at hAc HU8 ⊢
      have HAc := Lib.hid hAc
      have HO8 := Lib.hid (HO6.out.below hb8)
      have HQ8 := Lib.hid (HQ6.out.below hb8)
      have HP8 := Lib.hid (rowKept HgP.out hb8)
      have hb8o := hb6'.trans (hb8.mono hb6'.size)
      clear hcc hpp hu1 hu1' HRg hb7 c0 c1 c2 c3 c4 c5 hkl hAc g gb HO6 HQ6 hb8 hA6 hb6' hb06 hbw6
      go_upto_region 29 with fail
      generalize w7.alloc (.cells #[.int .i64 (cc : Nat), .int .i64 pp] 58) = w8 at *
      obtain ⟨ao, co, bo, oo, rfl, hao, hco, hcmo, hxo⟩ := HO8.out.at encR_enc
      obtain ⟨aq, cq, bq, oq, rfl, haq, hcq, hcmq, hxq⟩ := HQ8.out.at encI_enc
      have le1 : (acc.map (·.1)).length = acc.length := List.length_map ..
      have le2 : (acc.map (·.2)).length = acc.length := List.length_map ..
      rw [le1] at hao hco ⊢
      rw [le2] at haq hcq ⊢
      clear le1 le2
      unfold maxLen at hcmo hcmq
      have HXo := Lib.hid hxo
      have HXq := Lib.hid hxq
      clear hxo hxq
      go_wp2_with fail
      go_loopw [24, 25, 26] (fun lf th i wr => ∃ (m : Nat) (QF : List Rw) (QS : List Int) (vl vt : Value), m ≤ acc.length ∧ i = .int .i64 m ∧ vl = lf ∧ vt = th ∧ QF.length ≤ m ∧ QS.length ≤ m ∧ Hid (QF = ((acc.take m).filter fun z => !(decide (z.1.key ∈ kl) && decide (z.2 < x.seq))).map (·.1)) ∧ Hid (QS = ((acc.take m).filter fun z => !(decide (z.1.key ∈ kl) && decide (z.2 < x.seq))).map (·.2)) ∧ Hid (Own encR 65 3 w8.heap.size wr vl QF) ∧ Hid (Own encI 3 1 w8.heap.size wr vt QS) ∧ Below w8.heap.size w8 wr) (fun _ _ i _ => acc.length - (intOf i).toNat)
      case atStart => exact ⟨0, [], [], _, _, by omega, rfl, rfl, rfl, by simp, by simp, Lib.hid (by simp), Lib.hid (by simp), Lib.hid (Own.nil _ _ _ _ _), Lib.hid (Own.nil _ _ _ _ _), Below.refl _ _⟩
      case round =>
        obtain ⟨m, QF, QS, vl, vt, hm, rfl, rfl, rfl, hFl, hSl, hQF, hQS, hof, hos, hbr⟩ := hrel
        obtain ⟨wp, rfl⟩ : ∃ wp, wp = wr := ⟨wr, rfl⟩
        by_cases hml : m < acc.length
        case neg =>
          obtain rfl : m = acc.length := by omega
          have f2 : decide ((acc.length : Int) < (acc.length : Int)) = false := by simp
          have hqf := hQF.out
          have hqs := hQS.out
          rw [List.take_length, ← HAc.out] at hqf hqs
          have HQf := Lib.hid hqf
          have HQs := Lib.hid hqs
          have hgl := goOn_len st.objs lo hi (s.files.take (k + 1)) []
          rw [List.length_take, List.length_nil] at hgl
          have HGl := Lib.hid hgl
          have hbp := hb8o.trans (hbr.mono hb8o.size)
          clear hqf hqs hgl
          go_wp2_with fail
          go_roundw
          case rel => exact ⟨k + 1, goOn st.objs lo hi (s.files.take (k + 1)) [], vl, vt, by omega, rfl, rfl, rfl, by go_num, by have := HGl.out; omega, Lib.hid rfl, HJ2, Lib.hid (by rw [← HQf.out]; exact own_base hof.out hb8o.size), Lib.hid (by rw [← HQs.out]; exact own_base hos.out hb8o.size), hbp⟩
          case measure => simp [intOf]; omega
        have f2 : (m : Int) < (acc.length : Int) := by omega
        obtain ⟨z, hz⟩ := get_ex hml
        have hz1 : (acc.map (·.1))[m]? = some z.1 := by rw [List.getElem?_map, hz]; rfl
        have hz2 : (acc.map (·.2))[m]? = some z.2 := by rw [List.getElem?_map, hz]; rfl
        have i1 := idx_at (c := co) 3 Tryz.underlying39 szRw hao m hml
        have i2 := idx_at (c := cq) 1 Tryz.underlying26 szInt haq m hml
        simp only [Nat.mul_one] at i2
        have CZ := Lib.hid (fun W (h : Below w8.heap.size w8 W) => (⟨rwCells HXo.out h hz1, by
          have x0 := (h.cell (World.block_lt_of_cell? _ _ (HXq.out m _ hz2 0 _ rfl))).trans (HXq.out m _ hz2 0 _ rfl)
          simpa only [Nat.mul_one, Nat.add_zero] using x0, (rowF6 (f := x) (rowKept HP8.out h)).2.2.2.2.2⟩ : (W.cell? ⟨bo, oo + m * 3, none⟩ = some (S z.1.part) ∧ W.cell? ⟨bo, oo + m * 3 + 1, none⟩ = some (.int .i64 z.1.key) ∧ W.cell? ⟨bo, oo + m * 3 + 2, none⟩ = some (.int .i64 z.1.val)) ∧ W.cell? ⟨bq, oq + m, none⟩ = some (.int .i64 z.2) ∧ W.cell? ⟨P, 5, none⟩ = some (.int .i64 x.seq)))
        obtain ⟨⟨r0, r1, r2⟩, -, -⟩ := CZ.out wp hbr
        have HIn := Lib.hid (inInts_any z.1.key _ kl wp (HU8.out.below hbr))
        have HTk := Lib.hid (take_snoc' hz)
        have hstep : ∀ bb, (!(decide (z.1.key ∈ kl) && decide (z.2 < x.seq))) = bb → (acc.take (m + 1)).filter (fun z => !(decide (z.1.key ∈ kl) && decide (z.2 < x.seq))) = (acc.take m).filter (fun z => !(decide (z.1.key ∈ kl) && decide (z.2 < x.seq))) ++ (if bb = true then [z] else []) := fun bb hbb => by
          rw [HTk.out, List.filter_append]
          congr 1
          rw [List.filter_cons]
          simp only [hbb]
          cases bb <;> rfl
        have HStep := Lib.hid hstep
        clear hz hz1 hz2 hstep
        go_wp2_with fail
        refine HIn.out.mono ?_
        rintro e wi ⟨rfl, hbi⟩
        have hbri := hbr.trans (hbi.mono hbr.size)
        have HOf := Lib.hid (hof.out.below hbi)
        have HOs := Lib.hid (hos.out.below hbi)
        clear r0 r1 r2 HIn
        by_cases hskip : z.1.key ∈ kl ∧ z.2 < x.seq
        case pos =>
          obtain ⟨h1, h2⟩ := hskip
          have hS := HStep.out false (by rw [decide_eq_true h1, decide_eq_true h2]; rfl)
          rw [if_neg (by decide), List.append_nil] at hS
          have HS2 := Lib.hid hS
          rw [decide_eq_true h1]
          obtain ⟨⟨r0, r1, r2⟩, r3, r4⟩ := CZ.out wi hbri
          clear h1 hS
          go_wp2_with fail
          go_quiet (fail)
          go_wp2_with fail
          go_roundw
          case rel => exact ⟨m + 1, QF, QS, vl, vt, by omega, by go_num, rfl, rfl, by omega, by omega, Lib.hid (by rw [HS2.out]; exact hQF.out), Lib.hid (by rw [HS2.out]; exact hQS.out), Lib.hid (HOf.out.below (Bdn (Below.refl _ _) _)), Lib.hid (HOs.out.below (Bdn (Below.refl _ _) _)), Bdn hbri _⟩
          case measure => simp [intOf]; omega
        have hS := HStep.out true (by
          by_cases h1 : z.1.key ∈ kl
          · have h2 : ¬ z.2 < x.seq := fun h => hskip ⟨h1, h⟩
            rw [decide_eq_true h1, decide_eq_false h2]; rfl
          · rw [decide_eq_false h1]; rfl)
        rw [if_pos rfl] at hS
        have HS2 := Lib.hid hS
        clear hS
        by_cases h1 : z.1.key ∈ kl
        case' pos =>
          have h2 : decide (z.2 < x.seq) = false := decide_eq_false (fun h => hskip ⟨h1, h⟩)
          have h3 : x.seq ≤ z.2 := by have := of_decide_eq_false h2; omega
          rw [decide_eq_true h1]
          obtain ⟨⟨r0, r1, r2⟩, r3, r4⟩ := CZ.out wi hbri
          clear h1 hskip
          go_wp2_with fail
          go_quiet (fail)
          clear h2 h3
        case' neg =>
          rw [decide_eq_false h1]
          obtain ⟨⟨r0, r1, r2⟩, r3, r4⟩ := CZ.out wi hbri
          clear h1 hskip
          go_wp2_with fail
          go_quiet (fail)
        all_goals
          clear r0 r1 r2 r3 r4
          have hbd : Below w8.heap.size w8 (wi.drewN nq) := Bdn hbri nq
          have HOd := Lib.hid (HOf.out.below (Bdn (Below.refl _ wi) nq))
          have HSd := Lib.hid (HOs.out.below (Bdn (Below.refl _ wi) nq))
          obtain ⟨⟨r0, r1, r2⟩, r3, r4⟩ := CZ.out _ hbd
          clear HOf HOs
          generalize wi.drewN nq = wd at *
          go_wp2_with (first
            | (at_builtin; refine wpList_app rfl _ _ _ rfl w8.heap.size elRw vl QF.length _ rfl (HOd.out.alloc _) (.slice (some ⟨wd.heap.size, 0, none⟩) 1 1) 1 (encR z.1) rfl (src_one rfl rfl (by simp [Value.oneCell'])) (by unfold maxLen; omega) (by omega) (by have h1 := hbd.size; simp; omega) ?_; intro v1 w1' hown1 hg1 _; have hb1' := Bapp (hbd.alloc hbd.size _) (HOd.out.alloc _) hg1 (Nat.le_refl _) (by have := hbd.size; simp; omega); have HO1 := Lib.hid (Own.snoc hown1); have HS1 := Lib.hid ((((KeptBut.refl 65 wd).below ((Below.refl _ _).alloc (Nat.le_refl _) _)).grown (HOd.out.alloc _) hg1).own (by decide) HSd.out); clear r0 r1 r2 r3 r4 hown1 hg1; obtain ⟨⟨r0, r1, r2⟩, r3, r4⟩ := CZ.out _ hb1')
            | (at_builtin; refine wpList_app rfl _ _ _ rfl w8.heap.size elInt vt QS.length _ rfl (HS1.out.alloc _) (.slice (some ⟨w1'.heap.size, 0, none⟩) 1 1) 1 (encI z.2) rfl (src_one rfl rfl (by simp [Value.oneCell'])) (by unfold maxLen; omega) (by omega) (by have h1 := hb1'.size; simp; omega) ?_; intro v2 w2' hown2 hg2 _; have hb2' := Bapp (hb1'.alloc hb1'.size _) (HS1.out.alloc _) hg2 (Nat.le_refl _) (by have := hb1'.size; simp; omega); have HS2' := Lib.hid (Own.snoc hown2); have HO2 := Lib.hid ((((KeptBut.refl 3 w1').below ((Below.refl _ _).alloc (Nat.le_refl _) _)).grown (HS1.out.alloc _) hg2).own (by decide) HO1.out); clear r0 r1 r2 r3 r4 hown2 hg2))
          go_roundw
          case rel => exact ⟨m + 1, QF ++ [z.1], QS ++ [z.2], v1, v2, by omega, by go_num, rfl, rfl, by simp; omega, by simp; omega, Lib.hid (by rw [HS2.out, List.map_append, ← hQF.out]; rfl), Lib.hid (by rw [HS2.out, List.map_append, ← hQS.out]; rfl), HO2, HS2', hb2'⟩
          case measure => simp [intOf]; omega
end Go.Proofs.YtefoaeamfkbgbaaGreatDoor
namespace Go.Proofs.YtefoaeamfkbgbaaGreatDoor
open Go.RowKit Go.Maps
set_option maxHeartbeats 1000000 in
set_option maxRecDepth 20000 in
theorem scanFindO_any (E : Nat → Addr) (B : Nat) (sb mb : Nat) (st : St) (s : Sn) (v : Value) (key : Int) (w : World) (hE : Errs [1, 2, 3, 4, 5, 6, 8, 9, 10] E B w) (hT : LNum B w) (hM : LMax B w) (h : StoreAt w sb mb st) (hx : ∀ o ∈ st.objs, o.text.length ≤ 10000)
    (hl : FilesAt w v s.files) (hs : ∀ x ∈ s.files, midF x) (hn : (rowsL st.objs s key key).length ≤ 100000) :
    Calls Tryz.prog 25 #[stP sb, snapV s v, .int .i64 key] w fun e w' => ∃ u ev, e = .returned (.tuple #[u, ev]) ∧ ErV E w' ev (rowsE st.objs s key key) ∧ Own encI 3 1 w.heap.size w' u (valsR (rowsL st.objs s key key)) ∧ Below w.heap.size w w' := by
  have hBw := hE.le
  obtain ⟨l, hll⟩ : ∃ l, rowsL st.objs s key key = l := ⟨_, rfl⟩
  rw [hll] at hn
  have HLl := Lib.hid hll
  obtain ⟨a, c, rfl, -, -⟩ := At.form' hl
  have hba : Below w.heap.size w (w.alloc (.cells #[.int .i64 s.id, .int .i64 s.parent, .int .i64 s.seq, .int .i64 s.day, .int .i64 s.index, S s.op, .slice a s.files.length c] 25)) := (Below.refl _ _).alloc (Nat.le_refl _) _
  have HRo := Lib.hid (scanRows_any E B sb mb st s _ key key _ (hE.below' hba hBw) (hT.below' hba hBw) (hM.below' hba hBw) (h.below hba) hx (hl.below hba) hs)
  rw [hll] at HRo ⊢
  have HN := Lib.hid hn
  clear hE hT hM h hx hl hs hll hn
  go_enter Tryz.func25, Tryz.ntmps25
  go_wp2_with fail
  refine HRo.out.mono ?_
  rintro e w1 ⟨u, ev, rfl, hev, hu, hb1⟩
  have hbw1 := hba.trans (hb1.mono hba.size)
  obtain ⟨al, cl, bl, ol, rfl, hal, hcl, hcml, hxl⟩ := hu
  unfold maxLen at hcml
  have HEv := Lib.hid hev
  have HXl := Lib.hid hxl
  clear hev hxl
  go_wp2_with fail
  go_loopw [10, 23] (fun t10 i wr => ∃ (k : Nat) (vo : Value), k ≤ l.length ∧ i = .int .i64 k ∧ vo = t10 ∧ Hid (Own encI 3 1 w1.heap.size wr vo ((l.take k).map (·.val))) ∧ Below w1.heap.size w1 wr) (fun _ i _ => l.length - (intOf i).toNat)
  case atStart => exact ⟨0, _, by omega, rfl, rfl, Lib.hid (by rw [List.take_zero]; exact Own.nil _ _ _ _ _), Below.refl _ _⟩
  case round =>
    obtain ⟨k, vo, hk, rfl, rfl, ho, hb⟩ := hrel
    obtain ⟨wo, rfl⟩ : ∃ wo, wo = wr := ⟨wr, rfl⟩
    by_cases hlt : k < l.length
    case neg =>
      obtain rfl : k = l.length := by omega
      have f1 : decide ((l.length : Int) < (l.length : Int)) = false := by simp
      have ho2 := ho.out
      rw [List.take_length] at ho2
      have HSo := Lib.hid (sortI_any w1.heap.size vo _ wo ho2 hb.size (by rw [List.length_map]; exact HN.out))
      have hbwo := hbw1.trans (hb.mono hbw1.size)
      clear ho2
      go_wp2_with fail
      refine HSo.out.mono ?_
      rintro e w3 ⟨rfl, ho3, hb3⟩
      have HO3 := Lib.hid ho3
      clear ho3
      go_wp2_with fail
      go_ret2
      exact ⟨_, _, rfl, HEv.out.below (hb.trans hb3), own_base HO3.out hbw1.size, hbw1.trans ((hb.trans hb3).mono hbw1.size)⟩
    have f1 : (k : Int) < (l.length : Int) := by omega
    obtain ⟨x, hxk⟩ := get_ex hlt
    have i1 := idx_at (c := cl) 3 Tryz.underlying39 szRw hal k hlt
    obtain ⟨c0, c1, c2⟩ := rwCells HXl.out hb hxk
    have hwA : Below wo.heap.size wo (wo.alloc (.cells #[S x.part, .int .i64 x.key, .int .i64 x.val] 65)) := (Below.refl _ _).alloc (Nat.le_refl _) _
    have hgA := heap_alloc_new wo (.cells #[S x.part, .int .i64 x.key, .int .i64 x.val] 65)
    have HHo := Lib.hid (ho.out.below hwA)
    have HXk := Lib.hid hxk
    have hbA := hb.alloc hb.size (.cells #[S x.part, .int .i64 x.key, .int .i64 x.val] 65)
    have hlk : ((l.take k).map (·.val)).length = k := by rw [List.length_map, List.length_take]; omega
    obtain ⟨q, hq⟩ : ∃ q, (l.take k).map (·.val) = q := ⟨_, rfl⟩
    rw [hq] at HHo hlk
    have HQ := Lib.hid hq
    have HLk := Lib.hid hlk
    clear hxk hlk ho hq
    go_upto_region 6 with fail
    clear c0 c1 c2 i1
    generalize wo.alloc (.cells #[S x.part, .int .i64 x.key, .int .i64 x.val] 65) = wA at *
    have d2 : wA.cell? ⟨wo.heap.size, 2, none⟩ = some (.int .i64 x.val) := by rw [cell_of_row wA _ _ _ _ (0, 0) hgA]; rfl
    have HbA := Lib.hid hbA.size
    clear hgA hwA
    go_wp2_with (at_builtin; refine wpList_app rfl _ _ _ rfl w1.heap.size elInt vo q.length _ rfl (HHo.out.alloc _) (.slice (some ⟨wA.heap.size, 0, none⟩) 1 1) 1 (encI x.val) rfl (src_one rfl rfl (by simp [Value.oneCell'])) (by have h1 := HLk.out; have h2 := HN.out; unfold maxLen; omega) (by have h1 := HLk.out; have h2 := HN.out; omega) (by have := HbA.out; simp; omega) ?_; intro v' w2 hown hg _)
    have ho2 := Own.snoc hown
    have hb2 := (hbA.alloc hbA.size (.cells #[.int .i64 x.val] 3)).grown hg (by have := hbA.size; simp; omega) (fun b hb' => (World.ownsRow.lt HHo.out b hb').1)
    have HO2 := Lib.hid ho2
    clear hown hg ho2
    go_roundw
    case rel => exact ⟨k + 1, v', by omega, by go_num, rfl, Lib.hid (by rw [List.take_add_one, HXk.out, List.map_append, HQ.out]; exact HO2.out), hb2⟩
    case measure => simp [intOf]; omega
set_option maxRecDepth 20000 in
theorem scanRowsNil_any (E : Nat → Addr) (B : Nat) (s : Sn) (v : Value) (lo hi : Int) (w : World) (hE : Errs [3] E B w) (hl : FilesAt w v s.files) :
    Calls Tryz.prog 12 #[.pointer none, snapV s v, .int .i64 lo, .int .i64 hi] w fun e w' => ∃ ev, e = .returned (.tuple #[.slice none 0 0, ev]) ∧ ErV E w' ev (erOf 3) ∧ Below w.heap.size w w' := by
  obtain ⟨a, c, rfl, -, -⟩ := At.form' hl
  have hba : Below w.heap.size w (w.alloc (.cells #[.int .i64 s.id, .int .i64 s.parent, .int .i64 s.seq, .int .i64 s.day, .int .i64 s.index, S s.op, .slice a s.files.length c] 25)) := (Below.refl _ _).alloc (Nat.le_refl _) _
  have e3 : (w.alloc (.cells #[.int .i64 s.id, .int .i64 s.parent, .int .i64 s.seq, .int .i64 s.day, .int .i64 s.index, S s.op, .slice a s.files.length c] 25)).cell? ⟨2, 0, none⟩ = some (.iface 335 (.pointer (some (E 3)))) := (hE.below' hba hE.le).var 3 (by decide)
  clear hE hl
  go_enter Tryz.func12, Tryz.ntmps12
  go_upto_region 1 with fail
  generalize w.alloc (.cells #[.int .i64 s.id, .int .i64 s.parent, .int .i64 s.seq, .int .i64 s.day, .int .i64 s.index, S s.op, .slice a s.files.length c] 25) = w0 at *
  go_wp2_with fail
  go_quiet (fail)
  go_wp2_with fail
  go_ret2
  exact ⟨_, rfl, ⟨by omega, rfl⟩, Bdn hba _⟩
end Go.Proofs.YtefoaeamfkbgbaaGreatDoor
namespace Go.Proofs.YtefoaeamfkbgbaaGreatDoor
open Go.RowKit
/-- A number put behind all that are not above it. -/
def insV (x : Int) : List Int → List Int
  | [] => [x]
  | y :: r => if x < y then x :: y :: r else y :: insV x r
def insAll (l : List Int) : List Int := l.foldl (fun q x => insV x q) []
theorem insV_perm (x : Int) : ∀ l, (insV x l).Perm (x :: l)
  | [] => List.Perm.refl _
  | y :: r => by
    unfold insV
    split
    · exact List.Perm.refl _
    · exact ((insV_perm x r).cons y).trans (List.Perm.swap x y r)
theorem insV_up {x : Int} : ∀ {l : List Int}, l.Pairwise (· ≤ ·) → (insV x l).Pairwise (· ≤ ·)
  | [], _ => by simp [insV]
  | y :: r, h => by
    obtain ⟨h1, h2⟩ := List.pairwise_cons.1 h
    unfold insV
    split
    · rename_i hx
      refine List.pairwise_cons.2 ⟨fun z hz => ?_, h⟩
      rcases List.mem_cons.1 hz with rfl | hz
      · omega
      · have := h1 z hz; omega
    · rename_i hx
      refine List.pairwise_cons.2 ⟨fun z hz => ?_, insV_up h2⟩
      rcases List.mem_cons.1 ((insV_perm x r).mem_iff.1 hz) with rfl | hz
      · omega
      · exact h1 z hz
theorem insV_snoc (l : List Int) (x : Int) : insAll (l ++ [x]) = insV x (insAll l) := by simp [insAll, List.foldl_append]
theorem insFold : ∀ (l q : List Int), q.Pairwise (· ≤ ·) → (l.foldl (fun q x => insV x q) q).Pairwise (· ≤ ·) ∧ (l.foldl (fun q x => insV x q) q).Perm (q ++ l)
  | [], q, h => ⟨h, by simp⟩
  | x :: l, q, h => by
    obtain ⟨h1, h2⟩ := insFold l (insV x q) (insV_up h)
    refine ⟨h1, h2.trans ?_⟩
    have := (insV_perm x q).append_right l
    refine this.trans ?_
    exact (List.perm_middle (l₁ := q) (l₂ := l) (a := x)).symm
theorem insAll_up (l : List Int) : (insAll l).Pairwise (· ≤ ·) := (insFold l [] List.Pairwise.nil).1
theorem insAll_perm (l : List Int) : (insAll l).Perm l := (insFold l [] List.Pairwise.nil).2
theorem le_unique : ∀ {l m : List Int}, l.Pairwise (· ≤ ·) → m.Pairwise (· ≤ ·) → l.Perm m → l = m
  | [], m, _, _, h => (List.nil_perm.1 h).symm
  | x :: l, [], _, _, h => absurd h.length_eq (by simp)
  | x :: l, y :: m, h1, h2, h => by
    obtain ⟨h3, h4⟩ := List.pairwise_cons.1 h1
    obtain ⟨h5, h6⟩ := List.pairwise_cons.1 h2
    have e : x = y := by
      have hx := h.mem_iff.1 (List.mem_cons_self (a := x) (l := l))
      have hy := h.mem_iff.2 (List.mem_cons_self (a := y) (l := m))
      rcases List.mem_cons.1 hx with rfl | hx
      · rfl
      · rcases List.mem_cons.1 hy with hy | hy
        · exact hy.symm
        · have a := h5 x hx
          have b := h3 y hy
          omega
    subst e
    rw [le_unique h4 h6 (List.Perm.cons_inv h)]
theorem insAll_sort (l : List Int) : insAll l = sortI l := le_unique (insAll_up l) (sortedI_le l) ((insAll_perm l).trans (List.mergeSort_perm l _).symm)
theorem insV_at {x : Int} : ∀ {q : List Int} {p : Nat}, p ≤ q.length → (∀ j, j < p → ∀ y, q[j]? = some y → y ≤ x) → (∀ y, q[p]? = some y → x < y) → insV x q = q.take p ++ x :: q.drop p
  | [], 0, _, _, _ => rfl
  | [], _ + 1, h, _, _ => absurd h (by simp)
  | y :: r, 0, _, _, h => by
    unfold insV
    rw [if_pos (h y rfl)]
    rfl
  | y :: r, p + 1, h, h1, h2 => by
    unfold insV
    rw [if_neg (by have := h1 0 (by omega) y rfl; omega), insV_at (p := p) (by simpa using h) (fun j hj z hz => h1 (j + 1) (by omega) z (by simpa using hz)) (fun z hz => h2 z (by simpa using hz))]
    rfl
theorem insV_from {x : Int} {q : List Int} {p : Nat} (hu : q.Pairwise (· ≤ ·)) (hp : p ≤ q.length) (h1 : ∀ (j : Nat) (y : Int), p ≤ j → q[j]? = some y → x < y) (h2 : ∀ y, 0 < p → q[p - 1]? = some y → y ≤ x) : insV x q = q.take p ++ x :: q.drop p := by
  refine insV_at hp (fun j hj y hy => ?_) (fun y hy => h1 p y (Nat.le_refl _) hy)
  obtain ⟨hj1, hj2⟩ := List.getElem?_eq_some_iff.1 hy
  have hp1 : p - 1 < q.length := by omega
  have := h2 q[p - 1] (by omega) (List.getElem?_eq_getElem hp1)
  rcases Nat.lt_or_ge j (p - 1) with h | h
  · have := List.pairwise_iff_getElem.1 hu j (p - 1) hj1 hp1 h
    omega
  · obtain rfl : j = p - 1 := by omega
    rw [hj2] at this
    exact this
end Go.Proofs.YtefoaeamfkbgbaaGreatDoor
namespace Go.Proofs.YtefoaeamfkbgbaaGreatDoor
open Go.RowKit
def codedB (er : Er) (k : Int) : Bool := decide ((er.code : Int) = k) && decide (er.place = -1)
theorem coded3_any (E : Nat → Addr) (B : Nat) (er : Er) (v : Value) (k : Int) (w : World) (hE : Errs allE E B w) (hA : AsVar w) (hv : ErV E w v er) :
    Calls Tryz.prog 27 #[v, .int .i64 k] w fun e w' => e = .returned (.bool (codedB er k)) ∧ Below w.heap.size w w' := by
  unfold codedB
  by_cases h1 : (er.code : Int) = k
  · have g1 : ((er.code : Int) == k) = true := by simpa using h1
    have H1 := Lib.hid h1; clear h1
    by_cases h2 : er.place = -1
    · have g2 : (er.place == -1) = true := by simpa using h2
      have H2 := Lib.hid h2; clear h2
      go_enter Tryz.func27, Tryz.ntmps27
      go_wp2_with (go_at_call 73; refine (code_any E B er _ _ hE hA hv).mono ?_; rintro e w1 ⟨rfl, hb⟩)
      go_ret
      exact ⟨ret_bool (by simp [H1.out, H2.out]), hb⟩
    · have g2 : (er.place == -1) = false := by simpa using h2
      go_enter Tryz.func27, Tryz.ntmps27
      go_wp2_with (go_at_call 73; refine (code_any E B er _ _ hE hA hv).mono ?_; rintro e w1 ⟨rfl, hb⟩)
      go_ret
      exact ⟨ret_bool (by simp [H1.out, h2]), hb⟩
  · have g1 : ((er.code : Int) == k) = false := by simpa using h1
    go_enter Tryz.func27, Tryz.ntmps27
    go_wp2_with (go_at_call 73; refine (code_any E B er _ _ hE hA hv).mono ?_; rintro e w1 ⟨rfl, hb⟩)
    go_ret
    exact ⟨ret_bool (by simp [h1]), hb⟩
end Go.Proofs.YtefoaeamfkbgbaaGreatDoor
namespace Go.Proofs.YtefoaeamfkbgbaaGreatDoor
open Go.RowKit
theorem ErV.apart {E : Nat → Addr} {w w' : World} {v : Value} {er : Er} {g : Nat} {m : Int} (h : ErV E w v er) (hc : w.cell? ⟨g, 1, none⟩ = some (.int .i64 m)) (hw : ∀ p : Addr, p.block ≠ g → w'.cell? p = w.cell? p) : ErV E w' v er := by
  cases er with
  | nil => exact h
  | bare c => exact h
  | loc c i =>
    obtain ⟨hc', fb, hv, h0, h1⟩ := h
    have hne : fb ≠ g := by rintro rfl; rw [hc] at h1; cases h1
    exact ⟨hc', fb, hv, (hw ⟨fb, 0, none⟩ hne).trans h0, (hw ⟨fb, 1, none⟩ hne).trans h1⟩
theorem two_apart {W : World} {g : Nat} (x y : Value) : ∀ p : Addr, p.block ≠ g → ((W.setCell ⟨g, 0, none⟩ x).setCell ⟨g, 1, none⟩ y).cell? p = W.cell? p := fun p hne => by
  rw [World.cell?_setCell_other _ _ _ _ (fun e => hne (by rw [← e])), World.cell?_setCell_other _ _ _ _ (fun e => hne (by rw [← e]))]
theorem told_self (er : Er) : toldB er er.code er.place = true := by simp [toldB]
theorem faultedAt3_any (E : Nat → Addr) (B : Nat) (er : Er) (v : Value) (w : World) (hE : Errs allE E B w) (hA : AsVar w) (hgB : 12 < B) (hv : ErV E w v er) :
    Calls Tryz.prog 24 #[v, .agg #[.int .i64 (er.code : Nat), .int .i64 er.place]] w fun e w' => e = .returned (.bool true) ∧ Below w.heap.size w w' := by
  have h := faulted3_any E B er v er.code er.place w hE hA hgB hv
  rwa [told_self] at h
end Go.Proofs.YtefoaeamfkbgbaaGreatDoor
namespace Go.Proofs.YtefoaeamfkbgbaaGreatDoor
open Go.RowKit
theorem codedB_erOf (c : Nat) : codedB (erOf c) c = true := by
  unfold codedB erOf
  split
  · rename_i h; subst h; simp [Er.code, Er.place]
  · simp [Er.code, Er.place]
theorem codedT3_any (E : Nat → Addr) (B : Nat) (c : Nat) (v : Value) (w : World) (hE : Errs allE E B w) (hA : AsVar w) (hv : ErV E w v (erOf c)) :
    Calls Tryz.prog 27 #[v, .int .i64 (c : Int)] w fun e w' => e = .returned (.bool true) ∧ Below w.heap.size w w' := by
  have h := coded3_any E B (erOf c) v c w hE hA hv
  rwa [codedB_erOf] at h
end Go.Proofs.YtefoaeamfkbgbaaGreatDoor
