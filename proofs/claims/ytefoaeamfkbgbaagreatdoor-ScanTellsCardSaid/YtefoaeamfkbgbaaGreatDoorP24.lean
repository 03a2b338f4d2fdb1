/- scan.Rows: the walk. deedboxlaw1.dated: a closed fact of files of rows. deedboxlaw3.tabled, scanned: a closed fact. -/
import Derived.Test.YtefoaeamfkbgbaaGreatDoorP23
import Derived.Test.YtefoaeamfkbgbaaGreatDoorP14
import Derived.Test.YtefoaeamfkbgbaaGreatDoorP13
import Derived.Test.YtefoaeamfkbgbaaGreatDoorP15
import Derived.Deep.RegionHeld3
import Derived.Deep.RegionLaw
import Derived.Deep.DeepCutAuto
import Derived.Test.YtefoaeamfkbgbaaGreatDoorP8
import Derived.Test.YtefoaeamfkbgbaaGreatDoorP22
import Derived.Test.YtefoaeamfkbgbaaGreatDoorP16
import Derived.Test.YtefoaeamfkbgbaaGreatDoorP18
import Derived.Test.YtefoaeamfkbgbaaGreatDoorP4
import Derived.Deep.RegionWith
namespace Go.Proofs.YtefoaeamfkbgbaaGreatDoor
open Go.RowKit Go.Maps

theorem rowsO_len {os : List Ob} {f : Fl} (h : fileE os f = 0) : (rowsO os f).length ≤ 40 := by
  cases hg : isG f with
  | true => rw [rowsO_gone hg]; simp
  | false =>
    obtain ⟨hE, -, -⟩ := (read_known h).2.2 hg
    obtain ⟨-, -, -, -, e5⟩ := readEr_text hE
    unfold rowsO dataL
    rw [if_neg (by rw [hg]; decide), if_pos hE]
    unfold keysR at e5
    rwa [List.length_map] at e5
theorem leftO_len {os : List Ob} {l : List Fl} {lo hi : Int} {f : Fl} (h : fileE os f = 0) : (withinR (rowsO os f) lo hi).length ≤ 40 ∧ (leftO os l lo hi f).length ≤ 40 := by
  have h1 := rowsO_len h
  have h2 : (withinR (rowsO os f) lo hi).length ≤ (rowsO os f).length := List.length_filter_le _ _
  have h3 : (leftO os l lo hi f).length ≤ (withinR (rowsO os f) lo hi).length := List.length_filter_le _ _
  omega
theorem allUp_len {os : List Ob} {l : List Fl} {lo hi : Int} : ∀ {m : List Fl}, (∀ f ∈ m, fileE os f = 0) → (m.flatMap (leftO os l lo hi)).length ≤ m.length * 40
  | [], _ => by simp
  | f :: m, h => by
    have h1 := (leftO_len (l := l) (lo := lo) (hi := hi) (h f (by simp))).2
    have h2 := allUp_len (os := os) (l := l) (lo := lo) (hi := hi) (m := m) fun g hg => h g (by simp [hg])
    rw [List.flatMap_cons, List.length_append, List.length_cons]
    omega
theorem take_flat {α β : Type} {g : α → List β} {l : List α} {k : Nat} {x : α} (h : l[k]? = some x) : (l.take (k + 1)).flatMap g = (l.take k).flatMap g ++ g x := by
  rw [List.take_add_one, h, List.flatMap_append]
  simp
theorem snRow7 {W : World} {g : Nat} {s : Sn} {v : Value} {t : TypeId} (h : W.heap[g]? = some (.cells #[.int .i64 s.id, .int .i64 s.parent, .int .i64 s.seq, .int .i64 s.day, .int .i64 s.index, S s.op, v] t (0, 0))) :
    W.cell? ⟨g, 0, none⟩ = some (.int .i64 s.id) ∧ W.cell? ⟨g, 1, none⟩ = some (.int .i64 s.parent) ∧ W.cell? ⟨g, 2, none⟩ = some (.int .i64 s.seq) ∧ W.cell? ⟨g, 3, none⟩ = some (.int .i64 s.day) ∧ W.cell? ⟨g, 4, none⟩ = some (.int .i64 s.index) ∧ W.cell? ⟨g, 5, none⟩ = some (S s.op) ∧ W.cell? ⟨g, 6, none⟩ = some v := by
  refine ⟨?_, ?_, ?_, ?_, ?_, ?_, ?_⟩ <;> (rw [cell_of_row W _ _ _ _ (0, 0) h]; rfl)
/-- A reader made anew. -/
theorem read_new (os : List Ob) (w : World) (B m : Nat) (hm : w.heap.size = m) (hB : B ≤ m) :
    ReadAt os (((w.alloc (.map #[] 0)).alloc (.map #[] 0)).alloc (.cells #[.map (some m), .map (some (m + 1))] 98)) B (m + 1 + 1) m (m + 1) [] := by
  subst hm
  have h1 := World.ownsMap_made w Tryz.prog 9 heldR
  have h2 := World.ownsMap_made (w.alloc (.map #[] 0)) Tryz.prog 9 heldR
  rw [show (w.alloc (.map #[] 0)).heap.size = w.heap.size + 1 by simp] at h2
  have h3 := heap_alloc_new ((w.alloc (.map #[] 0)).alloc (.map #[] 0)) (.cells #[.map (some w.heap.size), .map (some (w.heap.size + 1))] 98)
  rw [show ((w.alloc (.map #[] 0)).alloc (.map #[] 0)).heap.size = w.heap.size + 1 + 1 by simp] at h3
  exact ⟨h3, by omega, by omega, [], [], 0, 0, Nat.le_refl _, Nat.le_refl _, (h1.alloc _).alloc _, h2.alloc _, Stock.nil _ _⟩
theorem own_app {α : Type} {enc : α → List Value} {e : TypeId} {sz B : Nat} {w : World} {v : Value} {l m : List α} (h : w.ownsRow B e sz v (l.length + m.length) (l.flatMap enc ++ m.flatMap enc)) : Own enc e sz B w v (l ++ m) := by
  unfold Own
  rw [List.flatMap_append, List.length_append]
  exact h
/-- An append in a region that draws, by what it is known to answer. -/
theorem step_run_app2 {P : Program} {ops : Array Oper} {o : Oper} {a : Act} {w : World} {K : Act → World → Prop} {Q : Exit → Act → World → Prop} {E : Prop}
    (hg : o.guard = none) (s x : Operand) (t : TypeId) (hop : o.op = Op.call { callee := Callee.builtin Builtin.append, args := #[s, x], argTypes := #[t, t] })
    (sv xv : Value) (hs : a.eval s = sv) (hx : a.eval x = xv) {v' : Value} {w' : World} (hrun : (Builtin.append_ #[t, t] o.type #[sv, xv]).run P w = .ok v' w') (hK : K (a.put o.dst v') w') :
    if Region.wanted o (yielded ops a.tmps) = true then Oper.wp P o a w K Q else E := by
  have hw : Region.wanted o (yielded ops a.tmps) = true := by simp [Region.wanted, hg]
  rw [if_pos hw]
  unfold Oper.wp execOp
  simp only [hop, resolve, invoke, builtin, Sem.run_bind, Sem.run_pure, Result.andThen_ok, List.map_toArray, List.map_cons, List.map_nil, hs, hx, hrun]
  exact hK

set_option maxHeartbeats 8000000 in
set_option maxRecDepth 20000 in
theorem scanRows_any (E : Nat → Addr) (B : Nat) (sb mb : Nat) (st : St) (s : Sn) (v : Value) (lo hi : Int) (w : World) (hE : Errs [1, 2, 3, 4, 5, 6, 8, 9, 10] E B w) (hT : LNum B w) (hM : LMax B w) (h : StoreAt w sb mb st) (hx : ∀ o ∈ st.objs, o.text.length ≤ 10000)
    (hl : FilesAt w v s.files) (hs : ∀ x ∈ s.files, midF x) :
    Calls Tryz.prog 12 #[stP sb, snapV s v, .int .i64 lo, .int .i64 hi] w fun e w' => ∃ u ev, e = .returned (.tuple #[u, ev]) ∧ ErV E w' ev (rowsE st.objs s lo hi) ∧ RowsAt w' u (rowsL st.objs s lo hi) ∧ Below w.heap.size w w' := by
  have hBw := hE.le
  have hif := isIfaceE
  have X := Lib.hid (fun W (hb : Below w.heap.size w W) => (⟨hE.below' hb hBw, hT.below' hb hBw, hM.below' hb hBw, h.below hb, hl.below hb⟩ : Errs [1, 2, 3, 4, 5, 6, 8, 9, 10] E B W ∧ LNum B W ∧ LMax B W ∧ StoreAt W sb mb st ∧ FilesAt W v s.files))
  obtain ⟨a, c, rfl, -, -⟩ := At.form' hl
  have hba : Below w.heap.size w (w.alloc (.cells #[.int .i64 s.id, .int .i64 s.parent, .int .i64 s.seq, .int .i64 s.day, .int .i64 s.index, S s.op, .slice a s.files.length c] 25)) := (Below.refl _ _).alloc (Nat.le_refl _) _
  have hg0 := heap_alloc_new w (.cells #[.int .i64 s.id, .int .i64 s.parent, .int .i64 s.seq, .int .i64 s.day, .int .i64 s.index, S s.op, .slice a s.files.length c] 25)
  have HX := Lib.hid hx; have HS := Lib.hid hs
  have HMm := Lib.hid (@run_makeMap Tryz.prog)
  clear hE hT hM h hl hx hs
  go_enter Tryz.func12, Tryz.ntmps12
  go_upto_region 3 with fail
  generalize w.alloc (.cells #[.int .i64 s.id, .int .i64 s.parent, .int .i64 s.seq, .int .i64 s.day, .int .i64 s.index, S s.op, .slice a s.files.length c] 25) = w0 at *
  obtain ⟨c0, c1, c2, c3, c4, c5, c6⟩ := snRow7 hg0
  have HG0 := Lib.hid hg0
  have HCk := Lib.hid (snapCheck_any E B s _ w0 ((X.out _ hba).1.sub (by decide)) (X.out _ hba).2.1 (X.out _ hba).2.2.1 (X.out _ hba).2.2.2.2 HS.out)
  clear hg0
  go_wp2_with fail
  refine HCk.out.mono ?_
  rintro e w1 ⟨ev, rfl, hev, hb1⟩
  have hbw1 := hba.trans (hb1.mono hba.size)
  clear HCk c0 c1 c2 c3 c4 c5 c6
  by_cases hck : snapCheck s = .nil
  case neg =>
    have hre : rowsE st.objs s lo hi = snapCheck s := if_pos hck
    have hrl : rowsL st.objs s lo hi = [] := if_neg (by rw [hre]; exact hck)
    have HR := Lib.hid (And.intro hre hrl)
    have HEv := Lib.hid hev
    obtain ⟨t1, x1, rfl⟩ := hev.iface hck
    clear hre hrl hck hev
    go_wp2_with fail
    go_ret2
    exact ⟨_, _, rfl, by rw [HR.out.1]; exact HEv.out, by rw [HR.out.2]; exact At.nil _ _ _, hbw1⟩
  rw [hck] at hev
  obtain rfl : ev = .nilIface := hev
  have HRs := Lib.hid ((snap_iff s).1 hck)
  have HRe : Hid (rowsE st.objs s lo hi = firstErr (scanF st.objs lo hi s.files) s.files.length) := Lib.hid (if_neg (by rw [hck]; simp))
  clear hck
  obtain ⟨-, -, -, -, -, -, c6⟩ := snRow7 (rowKept HG0.out hb1)
  have HPr := Lib.hid (listPrune_any _ s.files lo hi w1 (X.out _ hbw1).2.2.2.2 (by have := HRs.out.lst.len; omega))
  go_wp2_with fail
  refine HPr.out.mono ?_
  rintro e w2 ⟨v2, rfl, hv2, hb2⟩
  obtain ⟨l, hll⟩ : ∃ l, pruneL s.files lo hi = l := ⟨_, rfl⟩
  rw [hll] at hv2
  have HLl := Lib.hid hll
  have hbw2 := hbw1.trans (hb2.mono hbw1.size)
  have hb02 := hb1.trans (hb2.mono hb1.size)
  obtain ⟨al, cl, bl, ol, rfl, hal, hcl, hcml, hxl⟩ := hv2
  unfold maxLen at hcml
  clear hll c6 HPr
  have hmm := HMm.out
  have q1 : Below w2.heap.size w2 (w2.alloc (.cells #[.slice al l.length cl] 23)) := (Below.refl _ _).alloc (Nat.le_refl _) _
  have z1 : (w2.alloc (.cells #[.slice al l.length cl] 23)).heap.size = w2.heap.size + 1 := by simp
  have q2 : Below (w2.alloc (.cells #[.slice al l.length cl] 23)).heap.size (w2.alloc (.cells #[.slice al l.length cl] 23)) ((((w2.alloc (.cells #[.slice al l.length cl] 23)).alloc (.map #[] 0)).alloc (.map #[] 0)).alloc (.cells #[.map (some (w2.heap.size + 1)), .map (some (w2.heap.size + 1 + 1))] 98)) := (((Below.refl _ _).alloc (Nat.le_refl _) _).alloc (by simp) _).alloc (by simp) _
  have z2 : ((((w2.alloc (.cells #[.slice al l.length cl] 23)).alloc (.map #[] 0)).alloc (.map #[] 0)).alloc (.cells #[.map (some (w2.heap.size + 1)), .map (some (w2.heap.size + 1 + 1))] 98)).heap.size = w2.heap.size + 1 + 1 + 1 + 1 := by simp
  have q3 : Below ((((w2.alloc (.cells #[.slice al l.length cl] 23)).alloc (.map #[] 0)).alloc (.map #[] 0)).alloc (.cells #[.map (some (w2.heap.size + 1)), .map (some (w2.heap.size + 1 + 1))] 98)).heap.size ((((w2.alloc (.cells #[.slice al l.length cl] 23)).alloc (.map #[] 0)).alloc (.map #[] 0)).alloc (.cells #[.map (some (w2.heap.size + 1)), .map (some (w2.heap.size + 1 + 1))] 98)) (((((w2.alloc (.cells #[.slice al l.length cl] 23)).alloc (.map #[] 0)).alloc (.map #[] 0)).alloc (.cells #[.map (some (w2.heap.size + 1)), .map (some (w2.heap.size + 1 + 1))] 98)).alloc (.cells #[.pointer (some ⟨w2.heap.size + 1 + 1 + 1, 0, none⟩)] 94)) := (Below.refl _ _).alloc (Nat.le_refl _) _
  have q13 : Below (w2.alloc (.cells #[.slice al l.length cl] 23)).heap.size (w2.alloc (.cells #[.slice al l.length cl] 23)) (((((w2.alloc (.cells #[.slice al l.length cl] 23)).alloc (.map #[] 0)).alloc (.map #[] 0)).alloc (.cells #[.map (some (w2.heap.size + 1)), .map (some (w2.heap.size + 1 + 1))] 98)).alloc (.cells #[.pointer (some ⟨w2.heap.size + 1 + 1 + 1, 0, none⟩)] 94)) := q2.trans (q3.mono q2.size)
  have q23 : Below w2.heap.size w2 (((((w2.alloc (.cells #[.slice al l.length cl] 23)).alloc (.map #[] 0)).alloc (.map #[] 0)).alloc (.cells #[.map (some (w2.heap.size + 1)), .map (some (w2.heap.size + 1 + 1))] 98)).alloc (.cells #[.pointer (some ⟨w2.heap.size + 1 + 1 + 1, 0, none⟩)] 94)) := q1.trans (q13.mono q1.size)
  have hlb : (((((w2.alloc (.cells #[.slice al l.length cl] 23)).alloc (.map #[] 0)).alloc (.map #[] 0)).alloc (.cells #[.map (some (w2.heap.size + 1)), .map (some (w2.heap.size + 1 + 1))] 98)).alloc (.cells #[.pointer (some ⟨w2.heap.size + 1 + 1 + 1, 0, none⟩)] 94)).heap[w2.heap.size]? = some (.cells #[.slice al l.length cl] 23) := rowKept (heap_alloc_new w2 (.cells #[.slice al l.length cl] 23)) q13
  have hrx : (((((w2.alloc (.cells #[.slice al l.length cl] 23)).alloc (.map #[] 0)).alloc (.map #[] 0)).alloc (.cells #[.map (some (w2.heap.size + 1)), .map (some (w2.heap.size + 1 + 1))] 98)).alloc (.cells #[.pointer (some ⟨w2.heap.size + 1 + 1 + 1, 0, none⟩)] 94)).heap[w2.heap.size + 1 + 1 + 1 + 1]? = some (.cells #[.pointer (some ⟨w2.heap.size + 1 + 1 + 1, 0, none⟩)] 94) := by rw [← z2]; exact heap_alloc_new _ _
  have hrd := (read_new st.objs (w2.alloc (.cells #[.slice al l.length cl] 23)) w.heap.size (w2.heap.size + 1) z1 (by have := hbw2.size; omega)).below q3
  have HLb := Lib.hid hlb; have HRx := Lib.hid hrx; have HRd := Lib.hid hrd; have HQ := Lib.hid q23
  have HXl := Lib.hid hxl
  have hb23 := hbw2.trans (q23.mono hbw2.size)
  have hb03 := hb02.trans (q23.mono hb02.size)
  have HUl : Hid (UpF l ∧ (∀ g ∈ l, midF g) ∧ l.length ≤ 60) := Lib.hid (by
    rw [← HLl.out]
    refine ⟨HRs.out.lst.ris.filter _, fun g hg => HS.out g (List.mem_filter.1 hg).1, ?_⟩
    have := HRs.out.lst.len
    have h2 : (pruneL s.files lo hi).length ≤ s.files.length := List.length_filter_le _ _
    omega)
  clear q1 z1 q2 z2 q3 q13 hlb hrx hrd hxl
  go_upto_region 8 with fail
  generalize (((((w2.alloc (.cells #[.slice al l.length cl] 23)).alloc (.map #[] 0)).alloc (.map #[] 0)).alloc (.cells #[.map (some (w2.heap.size + 1)), .map (some (w2.heap.size + 1 + 1))] 98)).alloc (.cells #[.pointer (some ⟨w2.heap.size + 1 + 1 + 1, 0, none⟩)] 94)) = w3 at *
  clear q23
  have k0 : w3.cell? ⟨w2.heap.size, 0, none⟩ = some (.slice al l.length cl) := by rw [cell_of_row w3 _ _ _ _ (0, 0) HLb.out]; rfl
  go_wp2_with fail
  clear k0
  have hl60 := HUl.out.2.2
  go_loopw [38] (fun i wr => ∃ k : Nat, k ≤ l.length ∧ i = .int .i64 k ∧ Hid (ReadAt st.objs wr w.heap.size (w2.heap.size + 1 + 1 + 1) (w2.heap.size + 1) (w2.heap.size + 1 + 1) (l.take k)) ∧ Hid (∀ j < k, ∀ g, l[j]? = some g → fileE st.objs g = 0) ∧ Hid (ButD (fun k => k = w2.heap.size + 1 ∨ k = w2.heap.size + 1 + 1) w3 wr)) (fun i _ => l.length - (intOf i).toNat)
  case atStart => exact ⟨0, by omega, rfl, Lib.hid (by rw [List.take_zero]; exact HRd.out), Lib.hid fun j hj => absurd hj (by omega), Lib.hid (ButD.of (Below.refl _ _))⟩
  case round =>
    obtain ⟨k, hk, rfl, hrd, hj, hbd⟩ := hrel
    obtain ⟨wo, rfl⟩ : ∃ wo, wo = wr := ⟨wr, rfl⟩
    have h3o : Below (w2.heap.size + 1) w3 wo := hbd.out.below (fun k hk => by omega) (by have := (Array.getElem?_eq_some_iff.1 HLb.out).1; omega)
    have h2o : Below w2.heap.size w2 wo := HQ.out.trans (h3o.mono (by omega))
    have h0o : Below w0.heap.size w0 wo := hb02.trans (h2o.mono hb02.size)
    have hwo : Below w.heap.size w wo := hbw2.trans (h2o.mono hbw2.size)
    have hlbo : wo.heap[w2.heap.size]? = some (.cells #[.slice al l.length cl] 23) := (h3o.block _ (by omega)).trans HLb.out
    have hrxo : wo.heap[w2.heap.size + 1 + 1 + 1 + 1]? = some (.cells #[.pointer (some ⟨w2.heap.size + 1 + 1 + 1, 0, none⟩)] 94) := (hbd.out.block _ (Array.getElem?_eq_some_iff.1 HRx.out).1 (by omega)).trans HRx.out
    by_cases hlt : k < l.length
    case neg =>
      obtain rfl : k = l.length := by omega
      have f1 : decide ((l.length : Int) < (l.length : Int)) = false := by simp
      have HAll : Hid (∀ g ∈ l, fileE st.objs g = 0) := Lib.hid (fun g hg => by
        obtain ⟨j, hj1, hj2⟩ := List.getElem_of_mem hg
        exact hj.out j hj1 g (by rw [List.getElem?_eq_getElem hj1, hj2]))
      have HRl : Hid (rowsE st.objs s lo hi = .nil ∧ rowsL st.objs s lo hi = sortR (l.flatMap (leftO st.objs l lo hi))) := Lib.hid (by
        have h1 : rowsE st.objs s lo hi = .nil := rowsE_of HRs.out (by rw [HLl.out]; exact HAll.out)
        refine ⟨h1, ?_⟩
        unfold rowsL allO
        rw [if_pos h1, HLl.out])
      have hRo : ReadAt st.objs wo w.heap.size (w2.heap.size + 1 + 1 + 1) (w2.heap.size + 1) (w2.heap.size + 1 + 1) l := by have := hrd.out; rwa [List.take_length] at this
      have HRo := Lib.hid hRo
      have HLo := Lib.hid hlbo
      have HXo := Lib.hid hrxo
      have hN4 : w2.heap.size + 1 + 1 + 1 + 1 < wo.heap.size := (Array.getElem?_eq_some_iff.1 hrxo).1
      have k0 : wo.cell? ⟨w2.heap.size, 0, none⟩ = some (.slice al l.length cl) := by rw [cell_of_row wo _ _ _ _ (0, 0) hlbo]; rfl
      clear hRo hrd hj hbd hlbo hrxo hlt hk
      go_wp2_with fail
      clear f1 k0
      go_loopw [16, 61] (fun u16 i wr => ∃ (j : Nat) (u : Value), j ≤ l.length ∧ i = .int .i64 j ∧ u = u16 ∧ Hid (Own encR 65 3 wo.heap.size wr u ((l.take j).flatMap (leftO st.objs l lo hi))) ∧ Below wo.heap.size wo wr) (fun _ i _ => l.length - (intOf i).toNat)
      case atStart => exact ⟨0, _, by omega, rfl, rfl, Lib.hid (by rw [List.take_zero]; exact Own.nil _ _ _ _ _), Below.refl _ _⟩
      case round =>
        obtain ⟨j, u, hj, rfl, rfl, ho, hb⟩ := hrel
        obtain ⟨wp, rfl⟩ : ∃ wp, wp = wr := ⟨wr, rfl⟩
        have hwp := hwo.trans (hb.mono hwo.size)
        by_cases hlj : j < l.length
        case neg =>
          obtain rfl : j = l.length := by omega
          have f1 : decide ((l.length : Int) < (l.length : Int)) = false := by simp
          have hu := ho.out
          rw [List.take_length] at hu
          have HSo := Lib.hid (rowSort_any u _ wp (hu.at encR_enc) (by have := allUp_len (os := st.objs) (l := l) (lo := lo) (hi := hi) (m := l) HAll.out; omega))
          clear hu
          go_wp2_with fail
          refine HSo.out.mono ?_
          rintro e w8 ⟨u8, rfl, hu8, hb8⟩
          go_wp2_with fail
          go_ret2
          exact ⟨_, _, rfl, by rw [HRl.out.1]; rfl, by rw [HRl.out.2]; exact hu8.at encR_enc, hwp.trans (hb8.mono hwp.size)⟩
        have f1 : (j : Int) < (l.length : Int) := by omega
        obtain ⟨f, hfk⟩ := get_ex hlj
        have i1 := idx_at (c := cl) 6 Tryz.underlying23 szFl hal j hlj
        have h2p : Below w2.heap.size w2 wp := h2o.trans (hb.mono h2o.size)
        obtain ⟨c0, c1, c2, c3, c4, c5⟩ := flCells HXl.out h2p hfk
        have hwA : Below wp.heap.size wp (wp.alloc (fileO f)) := (Below.refl _ _).alloc (Nat.le_refl _) _
        have HGA := Lib.hid (heap_alloc_new wp (fileO f))
        have HFk := Lib.hid hfk
        have HMf := Lib.hid (HUl.out.2.1 f (List.mem_of_getElem? hfk))
        have HFe := Lib.hid (HAll.out f (List.mem_of_getElem? hfk))
        have hV2 : FilesAt w2 (.slice al l.length cl) l := ⟨al, cl, bl, ol, rfl, hal, hcl, by unfold maxLen; omega, HXl.out⟩
        have HV2 := Lib.hid hV2
        obtain ⟨xr, xk, nr, nk, -, -, hmr, -, hst⟩ := HRo.out.maps
        obtain ⟨v, hv⟩ : ∃ v, (getP f.path xr).getD (.slice none 0 0) = v := ⟨_, rfl⟩
        have hvr := hst.rowsAt HUl.out.1 (List.mem_of_getElem? hfk)
        rw [hv] at hvr
        have HK := Lib.hid (fun W (hW : Below wo.heap.size wo W) (hF : W.heap[wp.heap.size]? = some (fileO f)) => (⟨by rw [cell_of_row W _ _ _ _ (0, 0) ((hW.block _ hN4).trans HXo.out)]; rfl, (HRo.out.below hW).c0, (rowF6 (f := f) hF).1, by
          have hgb : wo.grownBy W none := ⟨hW.os, hW.tape, hW.output, hW.size, fun k hk _ => hW.block k hk⟩
          have := lookSR (hmr.kept hgb (by simp)) f.path HMf.out.1
          rwa [hv] at this⟩ : W.cell? ⟨w2.heap.size + 1 + 1 + 1 + 1, 0, none⟩ = some (.pointer (some ⟨w2.heap.size + 1 + 1 + 1, 0, none⟩)) ∧ W.cell? ⟨w2.heap.size + 1 + 1 + 1, 0, none⟩ = some (.map (some (w2.heap.size + 1))) ∧ W.cell? ⟨wp.heap.size, 0, none⟩ = some (S f.path) ∧ (Instr.lookup 95 (.map (some (w2.heap.size + 1))) (S f.path) false).run Tryz.prog W = .ok v W))
        have HWi := Lib.hid (fun W (hW : Below wo.heap.size wo W) => rowWithin_any v (rowsO st.objs f) lo hi W (hvr.below hW) (by have := rowsO_len HFe.out; omega))
        have HPd := Lib.hid (fun W x (hW : Below wo.heap.size wo W) (hF : W.heap[wp.heap.size]? = some (fileO f)) => srOut_any st.objs w.heap.size (w2.heap.size + 1 + 1 + 1) (w2.heap.size + 1) (w2.heap.size + 1 + 1) l f x w2.heap.size wp.heap.size (w2.heap.size + 1 + 1 + 1 + 1) (.slice al l.length cl) W (HRo.out.below hW) HUl.out.1 HAll.out HUl.out.2.1 (by rw [cell_of_row W _ _ _ _ (0, 0) ((hW.block _ (by omega)).trans HLo.out)]; rfl) (HV2.out.below (h2o.trans (hW.mono h2o.size))) (rowF6 (f := f) hF).2.2.2.2.2 (by rw [cell_of_row W _ _ _ _ (0, 0) ((hW.block _ hN4).trans HXo.out)]; rfl))
        have HL2 : Hid (((l.take j).flatMap (leftO st.objs l lo hi)).length ≤ 2400 ∧ (leftO st.objs l lo hi f).length ≤ 40) := Lib.hid ⟨by
          have := allUp_len (os := st.objs) (l := l) (lo := lo) (hi := hi) (m := l.take j) (fun g hg => HAll.out g (List.mem_of_mem_take hg))
          rw [List.length_take] at this
          have := HUl.out.2.2
          omega, (leftO_len HFe.out).2⟩
        obtain ⟨L, hLe⟩ : ∃ L, (l.take j).flatMap (leftO st.objs l lo hi) = L := ⟨_, rfl⟩
        rw [hLe] at ho HL2
        have HLe := Lib.hid hLe
        have HHo := Lib.hid ho.out
        have HWA := Lib.hid hwA
        have HHb := Lib.hid hb
        obtain ⟨au, cu, hue, -, -⟩ := At.form' (ho.out.at encR_enc)
        subst hue
        clear hfk hV2 hmr hst hv hvr ho hwA hLe
        go_upto_region 19 with fail
        generalize wp.alloc (fileO f) = wA at *
        clear c0 c1 c2 c3 c4 c5 i1
        have hAq : Below wp.heap.size wp wA.drew := HWA.out.drew
        have hoq : Below wo.heap.size wo wA.drew := HHb.out.trans (hAq.mono HHb.out.size)
        have hfq : wA.drew.heap[wp.heap.size]? = some (fileO f) := HGA.out
        obtain ⟨k1, k2, k3, k4⟩ := HK.out _ hoq hfq
        have HDe := Lib.hid (fun u1 v1 (hu1 : Own encR 65 3 wA.drew.heap.size v1 u1 (withinR (rowsO st.objs f) lo hi)) (hv1 : Below wA.drew.heap.size wA.drew v1) => deleteFuncR_any 49 #[.pointer (some ⟨w2.heap.size, 0, none⟩), .pointer (some ⟨wp.heap.size, 0, none⟩), .pointer (some ⟨w2.heap.size + 1 + 1 + 1 + 1, 0, none⟩)] (fun x => killed st.objs l f.seq x.key) wA.drew.heap.size wA.drew u1 (withinR (rowsO st.objs f) lo hi) v1 clo_srOut (fun W x _ hW _ => HPd.out W x (hoq.trans (hW.mono hoq.size)) (rowKept hfq hW)) hu1 hv1 hv1.size)
        go_region_held3 (fun w' => w'.cell? ⟨w2.heap.size + 1 + 1 + 1 + 1, 0, none⟩ = some (.pointer (some ⟨w2.heap.size + 1 + 1 + 1, 0, none⟩)) ∧ w'.cell? ⟨w2.heap.size + 1 + 1 + 1, 0, none⟩ = some (.map (some (w2.heap.size + 1))) ∧ w'.cell? ⟨wp.heap.size, 0, none⟩ = some (S f.path) ∧ (Instr.lookup 95 (.map (some (w2.heap.size + 1))) (S f.path) false).run Tryz.prog w' = .ok v w') (exact ⟨k1, k2, k3, k4⟩) (first
          | (go_at_call 18; (with_reducible refine (HWi.out _ hoq).mono ?_); rintro e v1 ⟨u1, rfl, hu1, hv1⟩; have ho1 := hoq.trans (hv1.mono hoq.size); have HF1 := Lib.hid (rowKept hfq hv1); have HU1 := Lib.hid hu1; have HV1 := Lib.hid hv1; clear k1 k2 k3 k4 hu1; obtain ⟨k1, k2, k3, k4⟩ := HK.out _ ho1 HF1.out)
          | (go_at_call 48; (with_reducible refine (HDe.out _ _ HU1.out HV1.out).mono ?_); rintro e v2 ⟨u2, rfl, hu2, hv2⟩; have ho2 := hoq.trans ((HV1.out.trans hv2).mono hoq.size); have HF2 := Lib.hid (rowKept hfq (HV1.out.trans hv2)); have hOut := HHo.out.below (hAq.trans ((HV1.out.trans hv2).mono hAq.size)); have hsrc := (hu2.at encR_enc).src encR_enc (by decide); obtain ⟨v6, w6, happ, hown6, hg6, -⟩ := run_app (P := Tryz.prog) v2 wo.heap.size 39 39 65 3 32 elRw (.slice au L.length cu) L.length _ hOut u2 _ _ hsrc (by have h := HL2.out; have h2 : (leftO st.objs l lo hi f).length = ((withinR (rowsO st.objs f) lo hi).filter fun x => !killed st.objs l f.seq x.key).length := rfl; unfold maxLen; omega) (by have h := HL2.out; have h2 : (leftO st.objs l lo hi f).length = ((withinR (rowsO st.objs f) lo hi).filter fun x => !killed st.objs l f.seq x.key).length := rfl; omega) ho2.size; have HAp := Lib.hid happ; have HOw := Lib.hid hown6; have ho6 := ho2.grown hg6 ho2.size (fun b hb' => (World.ownsRow.lt hOut b hb').1); have HF6 : Hid (w6.heap[wp.heap.size]? = some (fileO f)) := Lib.hid ((hg6.block _ (Array.getElem?_eq_some_iff.1 HF2.out).1 (fun e => by have := (World.ownsRow.lt HHo.out wp.heap.size e.symm).2; omega)).trans HF2.out); clear k1 k2 k3 k4 hu2 hv2 hOut hsrc happ hown6 hg6; obtain ⟨k1, k2, k3, k4⟩ := HK.out _ ho2 HF2.out)
          | ((refine step_run_app2 (by rfl) _ _ _ (by rfl) _ _ (by rfl) (by rfl) HAp.out ?_); clear k1 k2 k3 k4; obtain ⟨k1, k2, k3, k4⟩ := HK.out _ ho6 HF6.out))
        all_goals
          go_wp2_with fail
          go_roundw
          case rel => exact ⟨j + 1, v6, by omega, by go_num, rfl, Lib.hid (by rw [take_flat HFk.out, HLe.out]; exact own_app HOw.out), ho6⟩
          case measure => simp [intOf]; omega
    have f1 : (k : Int) < (l.length : Int) := by omega
    obtain ⟨f, hfk⟩ := get_ex hlt
    have i1 := idx_at (c := cl) 6 Tryz.underlying23 szFl hal k hlt
    obtain ⟨c0, c1, c2, c3, c4, c5⟩ := flCells HXl.out h2o hfk
    have hwA : Below wo.heap.size wo (wo.alloc (fileO f)) := (Below.refl _ _).alloc (Nat.le_refl _) _
    have CF := Lib.hid (fun W (h : Below (wo.alloc (fileO f)).heap.size (wo.alloc (fileO f)) W) => fileCells (f := f) (w := wo) rfl h)
    have hrxA := rowKept hrxo hwA
    have hrx0 : (wo.alloc (fileO f)).cell? ⟨w2.heap.size + 1 + 1 + 1 + 1, 0, none⟩ = some (.pointer (some ⟨w2.heap.size + 1 + 1 + 1, 0, none⟩)) := by rw [cell_of_row _ _ _ _ _ (0, 0) hrxA]; rfl
    have hbwA := hwo.trans (hwA.mono hwo.size)
    have HRr := Lib.hid (srRead_any E B sb mb st w.heap.size (w2.heap.size + 1 + 1 + 1) (w2.heap.size + 1) (w2.heap.size + 1 + 1) (l.take k) f (wo.alloc (fileO f)) (X.out _ hbwA).1 (X.out _ hbwA).2.1 (X.out _ hbwA).2.2.1 (X.out _ hbwA).2.2.2.1 HX.out (hrd.out.below hwA) (fun g hg e => by
      obtain ⟨j, hj1, hj2⟩ := List.getElem_of_mem hg
      rw [List.length_take] at hj1
      rw [List.getElem_take] at hj2
      have hlt2 := List.pairwise_iff_getElem.1 HUl.out.1 j k (by omega) hlt (by omega)
      have hfe : l[k] = f := (List.getElem?_eq_some_iff.1 hfk).2
      rw [hj2, hfe, e] at hlt2
      omega) (by rw [List.length_take]; omega) (HUl.out.2.1 f (List.mem_of_getElem? hfk)))
    have HFk := Lib.hid hfk
    have Hrd := hrd; have Hj := hj
    have HWA := Lib.hid hwA
    have hgA := heap_alloc_new wo (fileO f)
    have HGA := Lib.hid hgA
    have hN4 : w2.heap.size + 1 + 1 + 1 + 1 < wo.heap.size := by have := (Array.getElem?_eq_some_iff.1 hrxo).1; exact this
    have HN4 := Lib.hid hN4
    clear hfk hrxA hlbo hrxo hgA hN4
    go_upto_region 11 with fail
    generalize wo.alloc (fileO f) = wA at *
    clear c0 c1 c2 c3 c4 c5 i1
    obtain ⟨c0, c1, c2, c3, c4, c5⟩ := CF.out _ (Below.refl _ _)
    go_wp2_with fail
    refine HRr.out.mono ?_
    rintro e w5 ⟨ev, rfl, hev, hok, hbd5⟩
    have hbdo : ButD (fun k => k = w2.heap.size + 1 ∨ k = w2.heap.size + 1 + 1) wo w5 := (ButD.of HWA.out).trans hbd5 (fun k hk => .inl hk)
    have hbd35 : ButD (fun k => k = w2.heap.size + 1 ∨ k = w2.heap.size + 1 + 1) w3 w5 := hbd.out.trans hbdo (fun k hk => .inl hk)
    have h35 : Below (w2.heap.size + 1) w3 w5 := hbd35.below (fun k hk => by omega) (by have := (Array.getElem?_eq_some_iff.1 HLb.out).1; omega)
    have h25 : Below w2.heap.size w2 w5 := HQ.out.trans (h35.mono (by omega))
    have h05 : Below w0.heap.size w0 w5 := hb02.trans (h25.mono hb02.size)
    have hw5 : Below w.heap.size w w5 := hbw2.trans (h25.mono hbw2.size)
    have hfb : w5.heap[wo.heap.size]? = some (fileO f) := (hbd5.block _ (Array.getElem?_eq_some_iff.1 HGA.out).1 (by have := HN4.out; omega)).trans HGA.out
    have HOk := Lib.hid hok; have HD35 := Lib.hid hbd35; have HFb := Lib.hid hfb
    clear c0 c1 c2 c3 c4 c5 hrx0 HRr hok hbd5 hbdo hbd35 hfb hl60
    by_cases hfe : fileE st.objs f = 0
    case neg =>
      obtain ⟨i, hi1, hi2⟩ := scan_hit (os := st.objs) (files := s.files) (lo := lo) (hi := hi) HRs.out.lst.ris (by rw [HLl.out]; exact HFk.out) (fun j hj' g hg => Hj.out j hj' g (by rwa [HLl.out] at hg)) hfe
      have hre : rowsE st.objs s lo hi = .loc (fileE st.objs f) i := by rw [HRe.out]; exact hi2
      have hrl : rowsL st.objs s lo hi = [] := if_neg (by rw [hre]; simp)
      have HR := Lib.hid (And.intro hre hrl)
      have hev0 := hev
      rw [erOf_pos' hfe] at hev0
      obtain ⟨hc12, rfl⟩ := hev0
      obtain ⟨-, -, -, -, -, -, c6⟩ := snRow7 (rowKept HG0.out h05)
      obtain ⟨y0, -, -, -, -, -⟩ := rowF6 (f := f) HFb.out
      have HFi := Lib.hid (listFind_any _ s.files f.path w5 (X.out _ hw5).2.2.2.2)
      rw [hi1] at HFi
      have HEv := Lib.hid hev
      have HC := Lib.hid (And.intro hc12 hfe)
      clear hre hrl hi1 hi2 hev hc12 hfe
      go_wp2_with fail
      refine HFi.out.mono ?_
      rintro e w6 ⟨rfl, hb6⟩
      have hw6 := hw5.trans (hb6.mono hw5.size)
      clear c6 y0
      go_wp2_with fail
      refine (fileBare_any E (erOf (fileE st.objs f)) _ w6 (erOf_any HEv.out)).mono ?_
      rintro e w' ⟨ev', rfl, hev', rfl⟩
      rw [erOf_pos' HC.out.2] at hev'
      obtain ⟨-, rfl⟩ := hev'
      go_wp2_with fail
      go_ret2
      refine ⟨_, _, rfl, ?_, by rw [HR.out.2]; exact At.nil _ _ _, hw6.alloc hw6.size _⟩
      rw [HR.out.1]
      exact ⟨HC.out.1, w6.heap.size, rfl, by rw [cell_of_row _ _ _ _ _ (0, 0) (heap_alloc_new w6 _)]; rfl, by rw [cell_of_row _ _ _ _ _ (0, 0) (heap_alloc_new w6 _)]; rfl⟩
    rw [hfe] at hev
    obtain rfl : ev = .nilIface := hev
    have HFe := Lib.hid hfe
    clear hfe
    go_wp2_with fail
    go_roundw
    case rel => exact ⟨k + 1, by omega, by go_num, Lib.hid (by rw [List.take_add_one, HFk.out]; exact HOk.out HFe.out), Lib.hid (fun j hj' g hg => by
      rcases Nat.lt_or_ge j k with h' | h'
      · exact Hj.out j h' g hg
      · obtain rfl : j = k := by omega
        rw [HFk.out] at hg
        obtain rfl := Option.some.inj hg
        exact HFe.out), HD35⟩
    case measure => simp [intOf]; omega
end Go.Proofs.YtefoaeamfkbgbaaGreatDoor
namespace Go.Proofs.YtefoaeamfkbgbaaGreatDoor
open Go.RowKit

abbrev r1D : Rw := ⟨[97], 1, 2⟩
theorem r1_check : rowCheck r1D = 0 := by decide
theorem r1_sort : sortR [r1D] = [r1D] := by decide
theorem made_r1 : makeE [r1D] = .nil := by
  refine makeE_fine (by decide) fun j hj => ?_
  have h0 : j = 0 := by simpa using hj
  subst h0
  exact r1_check
theorem text_r1 : makeT [r1D] = dataText [r1D] := by rw [make_text made_r1, r1_sort]
theorem all_r1 : ∀ r ∈ [r1D], rowCheck r = 0 := fun r hr => by
  rw [List.mem_singleton.1 hr]; exact r1_check
theorem read_r1 : dataE (dataText [r1D]) = .nil ∧ dataL (dataText [r1D]) = [r1D] := dataRead_text (by unfold upR; simp) all_r1 (by decide)
theorem sum_nine : sumOf [49, 50, 51, 52, 53, 54, 55, 56, 57] = 3421780262 := by kernel_rfl
theorem row_new (w : World) {H : Nat} (hH : w.heap.size = H) (r : Rw) : RowsAt (w.alloc (.cells #[S r.part, .int .i64 r.key, .int .i64 r.val] 65)) (.slice (some ⟨H, 0, none⟩) 1 1) [r] := by
  subst hH
  obtain ⟨d0, d1, d2⟩ := rowCells (r := r) (w := w) rfl (Below.refl _ _)
  refine ⟨_, 1, w.heap.size, 0, rfl, fun _ => rfl, Nat.le_refl _, by unfold maxLen; omega, fun k x hk j u hu => ?_⟩
  have hk0 : k = 0 := by have := (List.getElem?_eq_some_iff.1 hk).1; simpa using this
  subst hk0
  have hx : x = r := by simpa using hk.symm
  subst hx
  match j, hu with
  | 0, hu => rw [← Option.some.inj hu]; exact d0
  | 1, hu => rw [← Option.some.inj hu]; exact d1
  | 2, hu => rw [← Option.some.inj hu]; exact d2
end Go.Proofs.YtefoaeamfkbgbaaGreatDoor
namespace Go.Proofs.YtefoaeamfkbgbaaGreatDoor
open Go.RowKit Go.Maps

theorem at_row2 {α : Type} {enc : α → List Value} {sz : Nat} (he : ∀ x, (enc x).length = sz) {w : World} {H : Nat} {cs : Array Value} {t : TypeId} {x y : α} (h : w.heap[H]? = some (.cells cs t (0, 0))) (hcs : cs.toList = enc x ++ enc y) : At enc sz w (.slice (some ⟨H, 0, none⟩) 2 2) [x, y] := by
  refine ⟨_, 2, H, 0, rfl, fun _ => rfl, Nat.le_refl _, by unfold maxLen; omega, fun k z hk j u hu => ?_⟩
  have hj : j < sz := by have := (List.getElem?_eq_some_iff.1 hu).1; rwa [he] at this
  rw [cell_of_row w _ _ _ _ (0, 0) h, ← Array.getElem?_toList, hcs]
  have hk2 : k < 2 := (List.getElem?_eq_some_iff.1 hk).1
  rcases (show k = 0 ∨ k = 1 by omega) with rfl | rfl
  · obtain rfl : x = z := Option.some.inj hk
    rw [List.getElem?_append_left (by rw [he]; omega)]
    simpa using hu
  · obtain rfl : y = z := Option.some.inj hk
    rw [List.getElem?_append_right (by rw [he]; omega), he]
    rw [show 0 + 1 * sz + j - sz = j by omega]
    exact hu
theorem results_tct {P : Program} {fn : Func} {u p q : Tmp} {ty : TypeId} (h : fn.results = #[.tmp u, .cell p ty, .tmp q]) (tmps : Array Value) (w : World) (g : Nat) (t : TypeId) (cs : Array Value) (fr : Nat × Nat) (d : TypeDesc)
    (hp : tmps.getD p undef = .pointer (some ⟨g, 0, none⟩)) (hg : w.heap[g]? = some (.cells cs t fr))
    (hu : P.underlying ty = some d) (hd : (match d with | .struct _ | .array _ _ => true | _ => false) = true) (hi : (P.info? ty).map (·.size) = some cs.size) {v v2 : Value} (hv : tmps.getD u undef = v) (hv2 : tmps.getD q undef = v2) :
    (results fn tmps).run P w = .ok (.tuple #[v, .agg cs, v2]) w := by
  have hp' : tmps[p]?.getD undef = .pointer (some ⟨g, 0, none⟩) := by simpa using hp
  have hv' : tmps[u]?.getD undef = v := by simpa using hv
  have hv2' : tmps[q]?.getD undef = v2 := by simpa using hv2
  simp [results, h, hp', hv', hv2', asAddr, run_loadVar_row w g t ty cs fr d hg hu hd hi]
theorem StoreAt.sev {w : World} {sb mb g : Nat} {s : St} (h : StoreAt w sb mb s) (h1 : g ≠ sb) (h2 : g ≠ mb) (b0 b1 b2 b3 b4 b5 b6 : Value) : StoreAt (sev w g b0 b1 b2 b3 b4 b5 b6) sb mb s :=
  ((((((h.away h1 h2 _).away h1 h2 _).away h1 h2 _).away h1 h2 _).away h1 h2 _).away h1 h2 _).away h1 h2 _
theorem sev_heap {w : World} {g k : Nat} (h : g ≠ k) (b0 b1 b2 b3 b4 b5 b6 : Value) : (sev w g b0 b1 b2 b3 b4 b5 b6).heap[k]? = w.heap[k]? := by
  rw [set_other h, set_other h, set_other h, set_other h, set_other h, set_other h, set_other h]
def TabPost (w : World) (e : Ending) (w' : World) : Prop := ∃ sb mb v, e = .returned (.tuple #[stP sb, snapV snQ v, .bool true]) ∧ StoreAt w' sb mb st2Q ∧ w.heap.size ≤ sb ∧ w.heap.size ≤ mb ∧ FilesAt w' v [fD1, fG2] ∧ Below w.heap.size w w'
theorem tab_end {w W : World} {tmps : Array Value} {sb mb H : Nat} (hp : tmps.getD 1 undef = .pointer (some ⟨w.heap.size, 0, none⟩)) (hv : tmps.getD 0 undef = stP sb) (hv2 : tmps.getD 2 undef = .bool true)
    (hF : W.heap[w.heap.size]? = some (.cells #[.int .i64 0, .int .i64 0, .int .i64 0, .int .i64 0, .int .i64 0, S [], .slice none 0 0] 25 (0, 0))) {t : TypeId} (hH : W.heap[H]? = some (.cells #[S pQ1, S [97], .int .i64 2, .int .i64 1, .int .i64 2, .int .i64 1, S pQ2, S [45], .int .i64 1, .int .i64 2, .int .i64 2, .int .i64 2] t (0, 0)))
    (hne : w.heap.size ≠ H) (h1 : w.heap.size < sb) (h2 : w.heap.size < mb) (hs : StoreAt W sb mb st2Q) (hb : Below w.heap.size w W) :
    bodyPost Tryz.prog Tryz.f28 (TabPost w) .ret ⟨tmps, []⟩ (sev W w.heap.size (.int .i64 3) (.int .i64 0) (.int .i64 2) (.int .i64 0) (.int .i64 0) (S kAppend) (.slice (some ⟨H, 0, none⟩) 2 2)) := by
  refine bodyPost_ret (results_tct rfl tmps _ w.heap.size 25 #[.int .i64 3, .int .i64 0, .int .i64 2, .int .i64 0, .int .i64 0, S kAppend, .slice (some ⟨H, 0, none⟩) 2 2] (0, 0) _ hp (sev_new hF _ _ _ _ _ _ _) Tryz.underlying25 rfl (by kernel_rfl) hv hv2) rfl ⟨sb, mb, .slice (some ⟨H, 0, none⟩) 2 2, rfl, hs.sev (by omega) (by omega) _ _ _ _ _ _ _, by omega, by omega, ?_, sev_below hb (Nat.le_refl _) _ _ _ _ _ _ _⟩
  exact at_row2 (enc := encF) (x := fD1) (y := fG2) (fun _ => rfl) ((sev_heap hne _ _ _ _ _ _ _).trans hH) rfl
theorem tab_end_drew {w W : World} {tmps : Array Value} {sb mb H : Nat} (hp : tmps.getD 1 undef = .pointer (some ⟨w.heap.size, 0, none⟩)) (hv : tmps.getD 0 undef = stP sb) (hv2 : tmps.getD 2 undef = .bool true)
    (hF : W.heap[w.heap.size]? = some (.cells #[.int .i64 0, .int .i64 0, .int .i64 0, .int .i64 0, .int .i64 0, S [], .slice none 0 0] 25 (0, 0))) {t : TypeId} (hH : W.heap[H]? = some (.cells #[S pQ1, S [97], .int .i64 2, .int .i64 1, .int .i64 2, .int .i64 1, S pQ2, S [45], .int .i64 1, .int .i64 2, .int .i64 2, .int .i64 2] t (0, 0)))
    (hne : w.heap.size ≠ H) (h1 : w.heap.size < sb) (h2 : w.heap.size < mb) (hs : StoreAt W sb mb st2Q) (hb : Below w.heap.size w W) :
    bodyPost Tryz.prog Tryz.f28 (TabPost w) .ret ⟨tmps, []⟩ (sev W w.heap.size (.int .i64 3) (.int .i64 0) (.int .i64 2) (.int .i64 0) (.int .i64 0) (S kAppend) (.slice (some ⟨H, 0, none⟩) 2 2)).drew := by
  have hs' := hs.sev (g := w.heap.size) (by omega) (by omega) (.int .i64 3) (.int .i64 0) (.int .i64 2) (.int .i64 0) (.int .i64 0) (S kAppend) (.slice (some ⟨H, 0, none⟩) 2 2)
  have hb' := sev_below hb (Nat.le_refl _) (.int .i64 3) (.int .i64 0) (.int .i64 2) (.int .i64 0) (.int .i64 0) (S kAppend) (.slice (some ⟨H, 0, none⟩) 2 2)
  refine bodyPost_ret (results_tct rfl tmps _ w.heap.size 25 #[.int .i64 3, .int .i64 0, .int .i64 2, .int .i64 0, .int .i64 0, S kAppend, .slice (some ⟨H, 0, none⟩) 2 2] (0, 0) _ hp (by rw [World.heap_drew]; exact sev_new hF _ _ _ _ _ _ _) Tryz.underlying25 rfl (by kernel_rfl) hv hv2) rfl ⟨sb, mb, .slice (some ⟨H, 0, none⟩) 2 2, rfl, hs'.below (Bdn (Below.refl _ _) 1), by omega, by omega, ?_, Bdn hb' 1⟩
  exact at_row2 (enc := encF) (x := fD1) (y := fG2) (fun _ => rfl) (by rw [World.heap_drew]; exact (sev_heap hne _ _ _ _ _ _ _).trans hH) rfl
set_option maxHeartbeats 2000000 in
set_option maxRecDepth 20000 in
theorem tabled_any (E : Nat → Addr) (B : Nat) (w : World) (hE : Errs [1, 2, 3, 4, 5, 7, 8, 9, 10, 12] E B w) (hT : LNum B w) (hM : LMax B w) :
    Calls Tryz.prog 28 #[] w (TabPost w) := by
  have hBw := hE.le
  have hif := isIfaceE
  have hba : Below w.heap.size w (w.alloc (.cells #[.int .i64 0, .int .i64 0, .int .i64 0, .int .i64 0, .int .i64 0, S [], .slice none 0 0] 25)) := (Below.refl w.heap.size w).alloc (Nat.le_refl _) _
  have X := Lib.hid (fun W (hb : Below w.heap.size w W) => (⟨hE.below' hb hBw, hT.below' hb hBw, hM.below' hb hBw⟩ : Errs [1, 2, 3, 4, 5, 7, 8, 9, 10, 12] E B W ∧ LNum B W ∧ LMax B W))
  have hg0 := heap_alloc_new w (.cells #[.int .i64 0, .int .i64 0, .int .i64 0, .int .i64 0, .int .i64 0, S [], .slice none 0 0] 25)
  have HSz : Hid (w.heap.size < (w.alloc (.cells #[.int .i64 0, .int .i64 0, .int .i64 0, .int .i64 0, .int .i64 0, S [], .slice none 0 0] 25)).heap.size) := Lib.hid (by simp)
  clear hE hT hM
  go_enter Tryz.func28, Tryz.ntmps28
  go_upto_region 1 with fail
  generalize w.alloc (.cells #[.int .i64 0, .int .i64 0, .int .i64 0, .int .i64 0, .int .i64 0, S [], .slice none 0 0] 25) = w0 at *
  go_wp2_with fail
  refine (new_any w0).mono ?_
  rintro e w1 ⟨sb, mb, rfl, hst, hsb, hmb, hb1⟩
  have hbw1 := hba.trans (hb1.mono hba.size)
  have HSt := Lib.hid hst
  have HSb := Lib.hid hsb
  have HMb := Lib.hid hmb
  clear hst hsb hmb
  have hbr : Below w1.heap.size w1 (w1.alloc (.cells #[S [97], .int .i64 1, .int .i64 5, S [97], .int .i64 2, .int .i64 6] 65)) := (Below.refl _ _).alloc (Nat.le_refl _) _
  have hbwr := hbw1.trans (hbr.mono hbw1.size)
  have hMk := dataMake_any E B _ rsQ _ ((X.out _ hbwr).1.sub (by decide)) (X.out _ hbwr).2.1 (at_row2 (enc := encR) (x := ⟨[97], 1, 5⟩) (y := ⟨[97], 2, 6⟩) (fun _ => rfl) (heap_alloc_new w1 (.cells #[S [97], .int .i64 1, .int .i64 5, S [97], .int .i64 2, .int .i64 6] 65)) rfl) (by decide) (fun r hr => by
    simp only [List.mem_cons, List.mem_nil_iff, or_false] at hr
    rcases hr with rfl | rfl <;> decide)
  rw [made_rsQ, text_rsQ] at hMk
  have HMk := Lib.hid hMk
  have hT1 := len_d1
  have hT2 := len_g2
  have HT1 := Lib.hid hT1
  have HT2 := Lib.hid hT2
  have HP1 : Hid (putL St.new pQ1 [97] (dataText rsQ) 1 = (fD1, true) ∧ putS St.new pQ1 (dataText rsQ) = st1Q) := Lib.hid ⟨by unfold putL; rw [if_pos put_d1.1, of_d1]; rfl, put_d1.2⟩
  have HP2 : Hid (putL st1Q pQ2 [45] (goneText [2]) 2 = (fG2, true) ∧ putS st1Q pQ2 (goneText [2]) = st2Q) := Lib.hid ⟨by unfold putL; rw [if_pos put_g2.1, of_g2]; rfl, put_g2.2⟩
  have HG2 : Hid (madeE [2] = .nil ∧ madeT [2] = goneText [2]) := Lib.hid ⟨made_two1, text_two1⟩
  clear hMk hT1 hT2
  generalize dataText rsQ = T1 at *
  generalize goneText [2] = T2 at *
  go_wp2_with fail
  refine HMk.out.mono ?_
  rintro e w2 ⟨ev, rfl, hev, hb2⟩
  obtain rfl : ev = .nilIface := hev
  have hbw2 := hbwr.trans (hb2.mono hbwr.size)
  have hb12 := hbr.trans (hb2.mono hbr.size)
  have hbk : Below w2.heap.size w2 (w2.alloc (.cells ([(2 : Int)].map (Value.int .i64)).toArray 3)) := (Below.refl _ _).alloc (Nat.le_refl _) _
  have hbwk := hbw2.trans (hbk.mono hbw2.size)
  have hGk := goneMake_any E B _ [2] _ ((X.out _ hbwk).1.sub (by decide)) (X.out _ hbwk).2.1 (keys_new w2 3 [2] 1 rfl (by decide) rfl) (by decide)
  rw [HG2.out.1, HG2.out.2] at hGk
  have HGk := Lib.hid hGk
  clear hGk HMk
  go_wp2_with fail
  refine HGk.out.mono ?_
  rintro e w3 ⟨ev, rfl, hev, hb3⟩
  obtain rfl : ev = .nilIface := hev
  have hbw3 := hbwk.trans (hb3.mono hbwk.size)
  have hb13 := hb12.trans ((hbk.trans (hb3.mono hbk.size)).mono hb12.size)
  have HS3 := Lib.hid (HSt.out.below hb13)
  have HX3 := Lib.hid (X.out _ hbw3)
  have HB1 : Hid (B ≤ sb ∧ B ≤ mb) := Lib.hid (by have h1 := HSb.out; have h2 := HMb.out; have h3 := hba.size; omega)
  have hPu := putL_any E B sb mb St.new pQ1 [97] T1 1 w3 HX3.out.1 HX3.out.2.1 HX3.out.2.2 HS3.out (by decide) (by decide) (by have := HT1.out; omega) HB1.out.1 HB1.out.2
  unfold PutPost at hPu
  rw [HP1.out.1, HP1.out.2] at hPu
  have HPu := Lib.hid hPu
  clear HGk hPu hb2 hb3 hbk hbr
  go_wp2_with fail
  refine HPu.out.mono ?_
  rintro e w4 ⟨rfl, hst4, hb4⟩
  have hbx := fun W (h : But2 sb mb w1 W) => But2.below (hbw1 : Below w.heap.size w w1) h (by have h1 := HSb.out; have h3 := HSz.out; omega) (by have h1 := HMb.out; have h3 := HSz.out; omega) hbw1.size
  have HBx := Lib.hid hbx
  have hb14 := (But2.of (sb := sb) (mb := mb) hb13).trans hb4
  clear hbx HPu
  unfold fileV
  have hb4x : Below w4.heap.size w4 (w4.alloc (.cells #[S pQ1, S [97], .int .i64 2, .int .i64 1, .int .i64 2, .int .i64 1] 44)) := (Below.refl _ _).alloc (Nat.le_refl _) _
  have hg5 := heap_alloc_new w4 (.cells #[S pQ1, S [97], .int .i64 2, .int .i64 1, .int .i64 2, .int .i64 1] 44)
  have hb15 := hb14.trans (But2.of hb4x)
  have HS5 := Lib.hid (hst4.below hb4x)
  have HSz5 : Hid (w4.heap.size < (w4.alloc (.cells #[S pQ1, S [97], .int .i64 2, .int .i64 1, .int .i64 2, .int .i64 1] 44)).heap.size) := Lib.hid (by simp)
  have HL4 : Hid (sb < w4.heap.size ∧ mb < w4.heap.size) := Lib.hid ⟨hst4.lt, hst4.ltm⟩
  clear hb4x hst4 hb14 hb4
  go_upto_region 7 with fail
  generalize w4.alloc (.cells #[S pQ1, S [97], .int .i64 2, .int .i64 1, .int .i64 2, .int .i64 1] 44) = w5 at *
  obtain ⟨G1, hG1⟩ : ∃ G, w4.heap.size = G := ⟨_, rfl⟩
  rw [hG1] at hg5 HL4 HSz5 ⊢
  clear hG1
  have HX5 := Lib.hid (X.out _ (HBx.out _ hb15))
  have hPu := putL_any E B sb mb st1Q pQ2 [45] T2 2 w5 HX5.out.1 HX5.out.2.1 HX5.out.2.2 (by rw [← HP1.out.2]; rw [HP1.out.2]; exact HS5.out) (by decide) (by decide) (by have := HT2.out; omega) HB1.out.1 HB1.out.2
  unfold PutPost at hPu
  rw [HP2.out.1, HP2.out.2] at hPu
  have HPu := Lib.hid hPu
  clear hPu
  go_wp2_with fail
  refine HPu.out.mono ?_
  rintro e w6 ⟨rfl, hst6, hb6⟩
  unfold fileV
  have hb16 := hb15.trans hb6
  have hb6y : Below w6.heap.size w6 (w6.alloc (.cells #[S pQ2, S [45], .int .i64 1, .int .i64 2, .int .i64 2, .int .i64 2] 44)) := (Below.refl _ _).alloc (Nat.le_refl _) _
  have hg7 := heap_alloc_new w6 (.cells #[S pQ2, S [45], .int .i64 1, .int .i64 2, .int .i64 2, .int .i64 2] 44)
  have hG16 : G1 < w6.heap.size := Nat.lt_of_lt_of_le HSz5.out hb6.size
  have hx7 := (hb6y.block G1 hG16).trans ((hb6.block G1 HSz5.out (by have := HL4.out; omega) (by have := HL4.out; omega)).trans hg5)
  have hb17 := hb16.trans (But2.of hb6y)
  have HS7 := Lib.hid (hst6.below hb6y)
  have hbw7 := HBx.out _ hb17
  have hsz6 : w.heap.size < w6.heap.size := by have h1 := HSz.out; have h2 := hb1.size; have h3 := hb16.size; omega
  have HNe : Hid (w.heap.size < w6.heap.size ∧ G1 < w6.heap.size ∧ w6.heap.size < (w6.alloc (.cells #[S pQ2, S [45], .int .i64 1, .int .i64 2, .int .i64 2, .int .i64 2] 44)).heap.size ∧ w.heap.size < G1) := Lib.hid ⟨hsz6, hG16, by simp, by have h1 := HSz.out; have h2 := HL4.out; have h3 := HSb.out; omega⟩
  have hgR := (((But2.of hb1).trans hb17).block w.heap.size HSz.out (by have h1 := HSz.out; have h3 := HSb.out; omega) (by have h1 := HSz.out; have h3 := HMb.out; omega)).trans hg0
  clear hb6y hst6 hb6 hb16 hb15 hG16 hsz6 hg5 hb17 HPu
  go_upto_region 8 with fail
  generalize w6.alloc (.cells #[S pQ2, S [45], .int .i64 1, .int .i64 2, .int .i64 2, .int .i64 2] 44) = w7 at *
  obtain ⟨G2, hG2⟩ : ∃ G, w6.heap.size = G := ⟨_, rfl⟩
  rw [hG2] at hg7 HNe ⊢
  clear hG2
  obtain ⟨a0, a1, a2, a3, a4, a5⟩ := rowF6 (f := fD1) hx7
  obtain ⟨b0, b1, b2, b3, b4, b5⟩ := rowF6 (f := fG2) hg7
  have hb8 : Below w7.heap.size w7 (w7.alloc (.cells #[S pQ1, S [97], .int .i64 2, .int .i64 1, .int .i64 2, .int .i64 1, S pQ2, S [45], .int .i64 1, .int .i64 2, .int .i64 2, .int .i64 2] 44)) := (Below.refl _ _).alloc (Nat.le_refl _) _
  have hgR8 : ((w7.alloc (.cells #[S pQ1, S [97], .int .i64 2, .int .i64 1, .int .i64 2, .int .i64 1, S pQ2, S [45], .int .i64 1, .int .i64 2, .int .i64 2, .int .i64 2] 44)).drew).heap[w.heap.size]? = some (.cells #[.int .i64 0, .int .i64 0, .int .i64 0, .int .i64 0, .int .i64 0, S [], .slice none 0 0] 25 (0, 0)) := by
    rw [World.heap_drew]
    exact (hb8.block _ (by have := HNe.out; omega)).trans hgR
  have HG8 := Lib.hid (heap_alloc_new w7 (.cells #[S pQ1, S [97], .int .i64 2, .int .i64 1, .int .i64 2, .int .i64 1, S pQ2, S [45], .int .i64 1, .int .i64 2, .int .i64 2, .int .i64 2] 44))
  have HS8 := Lib.hid (HS7.out.below hb8)
  have hbw8 := hbw7.trans (hb8.mono hbw7.size)
  have d0 : ((w7.alloc (.cells #[S pQ1, S [97], .int .i64 2, .int .i64 1, .int .i64 2, .int .i64 1, S pQ2, S [45], .int .i64 1, .int .i64 2, .int .i64 2, .int .i64 2] 44)).drew).cell? ⟨w.heap.size, 0, none⟩ = some (.int .i64 0) := by rw [cell_of_row _ _ _ _ _ (0, 0) hgR8]; rfl
  have d1 : ((w7.alloc (.cells #[S pQ1, S [97], .int .i64 2, .int .i64 1, .int .i64 2, .int .i64 1, S pQ2, S [45], .int .i64 1, .int .i64 2, .int .i64 2, .int .i64 2] 44)).drew).cell? ⟨w.heap.size, 1, none⟩ = some (.int .i64 0) := by rw [cell_of_row _ _ _ _ _ (0, 0) hgR8]; rfl
  have d2 : ((w7.alloc (.cells #[S pQ1, S [97], .int .i64 2, .int .i64 1, .int .i64 2, .int .i64 1, S pQ2, S [45], .int .i64 1, .int .i64 2, .int .i64 2, .int .i64 2] 44)).drew).cell? ⟨w.heap.size, 2, none⟩ = some (.int .i64 0) := by rw [cell_of_row _ _ _ _ _ (0, 0) hgR8]; rfl
  have d3 : ((w7.alloc (.cells #[S pQ1, S [97], .int .i64 2, .int .i64 1, .int .i64 2, .int .i64 1, S pQ2, S [45], .int .i64 1, .int .i64 2, .int .i64 2, .int .i64 2] 44)).drew).cell? ⟨w.heap.size, 3, none⟩ = some (.int .i64 0) := by rw [cell_of_row _ _ _ _ _ (0, 0) hgR8]; rfl
  have d4 : ((w7.alloc (.cells #[S pQ1, S [97], .int .i64 2, .int .i64 1, .int .i64 2, .int .i64 1, S pQ2, S [45], .int .i64 1, .int .i64 2, .int .i64 2, .int .i64 2] 44)).drew).cell? ⟨w.heap.size, 4, none⟩ = some (.int .i64 0) := by rw [cell_of_row _ _ _ _ _ (0, 0) hgR8]; rfl
  have d5 : ((w7.alloc (.cells #[S pQ1, S [97], .int .i64 2, .int .i64 1, .int .i64 2, .int .i64 1, S pQ2, S [45], .int .i64 1, .int .i64 2, .int .i64 2, .int .i64 2] 44)).drew).cell? ⟨w.heap.size, 5, none⟩ = some (S []) := by rw [cell_of_row _ _ _ _ _ (0, 0) hgR8]; rfl
  have d6 : ((w7.alloc (.cells #[S pQ1, S [97], .int .i64 2, .int .i64 1, .int .i64 2, .int .i64 1, S pQ2, S [45], .int .i64 1, .int .i64 2, .int .i64 2, .int .i64 2] 44)).drew).cell? ⟨w.heap.size, 6, none⟩ = some (.slice none 0 0) := by rw [cell_of_row _ _ _ _ _ (0, 0) hgR8]; rfl
  have fz : ∀ j, ((w7.alloc (.cells #[S pQ1, S [97], .int .i64 2, .int .i64 1, .int .i64 2, .int .i64 1, S pQ2, S [45], .int .i64 1, .int .i64 2, .int .i64 2, .int .i64 2] 44)).drew).frozen? ⟨w.heap.size, j, none⟩ = false := fun j => frozen_row hgR8
  have f0 := fz 0; have f1 := fz 1; have f2 := fz 2; have f3 := fz 3; have f4 := fz 4; have f5 := fz 5; have f6 := fz 6
  have HGz := Lib.hid ((hb8.block _ (by have := HNe.out; omega)).trans hgR)
  have HG8d := Lib.hid hgR8
  have HN8 : Hid (w.heap.size ≠ w7.heap.size) := Lib.hid (by have := HNe.out; omega)
  have hgR7 : (w7.alloc (.cells #[S pQ1, S [97], .int .i64 2, .int .i64 1, .int .i64 2, .int .i64 1, S pQ2, S [45], .int .i64 1, .int .i64 2, .int .i64 2, .int .i64 2] 44)).heap[w.heap.size]? = some (.cells #[.int .i64 0, .int .i64 0, .int .i64 0, .int .i64 0, .int .i64 0, S [], .slice none 0 0] 25 (0, 0)) := (hb8.block _ (by have := HNe.out; omega)).trans hgR
  have c0 : (w7.alloc (.cells #[S pQ1, S [97], .int .i64 2, .int .i64 1, .int .i64 2, .int .i64 1, S pQ2, S [45], .int .i64 1, .int .i64 2, .int .i64 2, .int .i64 2] 44)).cell? ⟨w.heap.size, 0, none⟩ = some (.int .i64 0) := by rw [cell_of_row _ _ _ _ _ (0, 0) hgR7]; rfl
  have c1 : (w7.alloc (.cells #[S pQ1, S [97], .int .i64 2, .int .i64 1, .int .i64 2, .int .i64 1, S pQ2, S [45], .int .i64 1, .int .i64 2, .int .i64 2, .int .i64 2] 44)).cell? ⟨w.heap.size, 1, none⟩ = some (.int .i64 0) := by rw [cell_of_row _ _ _ _ _ (0, 0) hgR7]; rfl
  have c2 : (w7.alloc (.cells #[S pQ1, S [97], .int .i64 2, .int .i64 1, .int .i64 2, .int .i64 1, S pQ2, S [45], .int .i64 1, .int .i64 2, .int .i64 2, .int .i64 2] 44)).cell? ⟨w.heap.size, 2, none⟩ = some (.int .i64 0) := by rw [cell_of_row _ _ _ _ _ (0, 0) hgR7]; rfl
  have c3 : (w7.alloc (.cells #[S pQ1, S [97], .int .i64 2, .int .i64 1, .int .i64 2, .int .i64 1, S pQ2, S [45], .int .i64 1, .int .i64 2, .int .i64 2, .int .i64 2] 44)).cell? ⟨w.heap.size, 3, none⟩ = some (.int .i64 0) := by rw [cell_of_row _ _ _ _ _ (0, 0) hgR7]; rfl
  have c4 : (w7.alloc (.cells #[S pQ1, S [97], .int .i64 2, .int .i64 1, .int .i64 2, .int .i64 1, S pQ2, S [45], .int .i64 1, .int .i64 2, .int .i64 2, .int .i64 2] 44)).cell? ⟨w.heap.size, 4, none⟩ = some (.int .i64 0) := by rw [cell_of_row _ _ _ _ _ (0, 0) hgR7]; rfl
  have c5 : (w7.alloc (.cells #[S pQ1, S [97], .int .i64 2, .int .i64 1, .int .i64 2, .int .i64 1, S pQ2, S [45], .int .i64 1, .int .i64 2, .int .i64 2, .int .i64 2] 44)).cell? ⟨w.heap.size, 5, none⟩ = some (S []) := by rw [cell_of_row _ _ _ _ _ (0, 0) hgR7]; rfl
  have c6 : (w7.alloc (.cells #[S pQ1, S [97], .int .i64 2, .int .i64 1, .int .i64 2, .int .i64 1, S pQ2, S [45], .int .i64 1, .int .i64 2, .int .i64 2, .int .i64 2] 44)).cell? ⟨w.heap.size, 6, none⟩ = some (.slice none 0 0) := by rw [cell_of_row _ _ _ _ _ (0, 0) hgR7]; rfl
  have fy : ∀ j, (w7.alloc (.cells #[S pQ1, S [97], .int .i64 2, .int .i64 1, .int .i64 2, .int .i64 1, S pQ2, S [45], .int .i64 1, .int .i64 2, .int .i64 2, .int .i64 2] 44)).frozen? ⟨w.heap.size, j, none⟩ = false := fun j => frozen_row hgR7
  have g0 := fy 0; have g1 := fy 1; have g2 := fy 2; have g3 := fy 3; have g4 := fy 4; have g5 := fy 5; have g6 := fy 6
  clear fz hgR hx7 hg7 hb8 hgR8 fy hgR7
  have HL : Hid (w.heap.size < sb ∧ w.heap.size < mb) := Lib.hid (by have h1 := HSb.out; have h2 := HMb.out; have h3 := HSz.out; omega)
  go_region
  go_wp2_with fail
  exact tab_end_drew (H := w7.heap.size) rfl rfl rfl HGz.out HG8.out HN8.out HL.out.1 HL.out.2 HS8.out hbw8
set_option maxHeartbeats 1000000 in
set_option maxRecDepth 20000 in
theorem scanned_any (E : Nat → Addr) (B : Nat) (w : World) (hE : Errs [1, 2, 3, 4, 5, 6, 7, 8, 9, 10, 12] E B w) (hT : LNum B w) (hM : LMax B w) :
    Calls Tryz.prog 6 #[] w fun e w' => e = .returned (.bool true) ∧ Below w.heap.size w w' := by
  have hBw := hE.le
  have hif := isIfaceE
  have X := Lib.hid (fun W (hb : Below w.heap.size w W) => (⟨hE.below' hb hBw, hT.below' hb hBw, hM.below' hb hBw⟩ : Errs [1, 2, 3, 4, 5, 6, 7, 8, 9, 10, 12] E B W ∧ LNum B W ∧ LMax B W))
  have HTb := Lib.hid (tabled_any E B w (hE.sub (by decide)) hT hM)
  clear hE hT hM
  go_enter Tryz.func6, Tryz.ntmps6
  go_wp2_with fail
  refine HTb.out.mono ?_
  unfold TabPost
  rintro e w1 ⟨sb, mb, v, rfl, hst, hsb, hmb, hl, hb1⟩
  have hba : Below w1.heap.size w1 (w1.alloc (.cells #[.int .i64 3, .int .i64 0, .int .i64 2, .int .i64 0, .int .i64 0, S kAppend, v] 25)) := (Below.refl _ _).alloc (Nat.le_refl _) _
  have hbwa := hb1.trans (hba.mono hb1.size)
  have hro := scanRows_any E B sb mb st2Q snQ v 0 9 _ ((X.out _ hbwa).1.sub (by decide)) (X.out _ hbwa).2.1 (X.out _ hbwa).2.2 (hst.below hba) (fun o ho => by have := st2Q_txt o ho; omega) (hl.below hba) (right_mid right_snQ.lst)
  rw [rows_09.1, rows_09.2] at hro
  have HRo := Lib.hid hro
  obtain ⟨a, c, rfl, -, -⟩ := At.form' hl
  clear hro hst hl hsb hmb
  go_wp2_with fail
  refine HRo.out.mono ?_
  rintro e w3 ⟨u, ev, rfl, hev, hu, hb3⟩
  obtain rfl : ev = .nilIface := hev
  have hbw3 := hbwa.trans (hb3.mono hbwa.size)
  have hbr : Below w3.heap.size w3 (w3.alloc (.cells #[S [97], .int .i64 1, .int .i64 5] 65)) := (Below.refl _ _).alloc (Nat.le_refl _) _
  have hsm := sameRows_any u _ [⟨[97], 1, 5⟩] [⟨[97], 1, 5⟩] _ (hu.below hbr) (row_new w3 rfl ⟨[97], 1, 5⟩)
  simp only [decide_true] at hsm
  have HSm := Lib.hid hsm
  obtain ⟨au, cu, rfl, -, -⟩ := At.form' hu
  clear hsm hu
  go_wp2_with fail
  refine HSm.out.mono ?_
  rintro e w4 ⟨rfl, hb4⟩
  go_wp2_with fail
  go_ret
  exact ⟨rfl, (hbw3.trans (hbr.mono hbw3.size)).trans (hb4.mono (hbw3.trans (hbr.mono hbw3.size)).size)⟩
end Go.Proofs.YtefoaeamfkbgbaaGreatDoor
