/- scan.Rows' closures: is a row's key gone?. scan.Rows: the walk. deedboxlaw1.dated: a closed fact of files of rows. deedboxlaw3.tabled, scanned: a closed fact. scan.Count, scan.Find: the walks. A table beside a snap that is written. Worlds in which nothing has turned but rows of one type. A stable sort in place, by merges: what its steps do to a list. In plain words, of no program. -/
import Derived.Test.YtpfohfihkmjnaaaGreatDoorPk14
import Derived.Test.YtpfohfihkmjnaaaGreatDoorPk6
import Derived.Deep.RegionHeld3
import Derived.Test.YtpfohfihkmjnaaaGreatDoorPk9
import Derived.Test.YtpfohfihkmjnaaaGreatDoorPk8
import Derived.Deep.RegionLaw
import Derived.Deep.DeepCutAuto
import Derived.Test.YtpfohfihkmjnaaaGreatDoorPk5
import Derived.Test.YtpfohfihkmjnaaaGreatDoorPk10
import Derived.Test.YtpfohfihkmjnaaaGreatDoorPk11
import Derived.Test.YtpfohfihkmjnaaaGreatDoorPk3
import Derived.Deep.RegionWith
import Derived.Test.YtpfohfihkmjnaaaGreatDoorPk1
namespace Go.Proofs.YtpfohfihkmjnaaaGreatDoor
open Go.RowKit Go.Maps
theorem up_of_nextI : ∀ {l : List Int}, (∀ (k : Nat) (x y : Int), l[k]? = some y → l[k + 1]? = some x → y < x) → upI l
  | [], _ => .nil
  | [a], _ => List.pairwise_singleton _ _
  | a :: b :: r, h => by
    have ih : upI (b :: r) := up_of_nextI fun k x y h1 h2 => h (k + 1) x y (by simpa using h1) (by simpa using h2)
    have hab : a < b := h 0 b a rfl rfl
    refine List.pairwise_cons.2 ⟨fun x hx => ?_, ih⟩
    rcases List.mem_cons.1 hx with rfl | hx
    · exact hab
    · exact Int.lt_trans hab ((List.pairwise_cons.1 ih).1 x hx)
theorem gone_right {s : Str} (h : goneE s = .nil) : upI (goneL s) ∧ (goneL s).length ≤ 40 := by
  obtain ⟨-, -, -, e4, e5⟩ := readEr_text h
  have hL : goneL s = (splitL s).dropLast.map numD := by unfold goneL; rw [if_pos h]
  rw [hL]
  refine ⟨up_of_nextI fun k x y h1 h2 => ?_, e5⟩
  rw [List.getElem?_map] at h1 h2
  obtain ⟨s1, g1, rfl⟩ := Option.map_eq_some_iff.1 h1
  obtain ⟨s2, g2, rfl⟩ := Option.map_eq_some_iff.1 h2
  obtain ⟨p1, q1⟩ := List.getElem?_eq_some_iff.1 g1
  obtain ⟨p2, q2⟩ := List.getElem?_eq_some_iff.1 g2
  rw [List.getElem_dropLast] at q1 q2
  rw [List.length_dropLast] at p1 p2
  have r1 : (splitL s)[k]? = some s1 := by rw [List.getElem?_eq_getElem (by omega), q1]
  have r2 : (splitL s)[k + 1]? = some s2 := by rw [List.getElem?_eq_getElem (by omega), q2]
  have hb := e4 (k + 1) (by omega)
  unfold goneBad at hb
  rw [r2] at hb
  simp only at hb
  split at hb
  · cases hb
  split at hb
  · cases hb
  split at hb
  · cases hb
  rename_i h3
  apply Classical.byContradiction
  intro hle
  exact h3 ⟨by omega, s1, by rw [Nat.add_sub_cancel]; exact r1, by omega⟩
theorem keysO_right {os : List Ob} {f : Fl} (h : fileE os f = 0) : upI (keysO os f) ∧ (keysO os f).length ≤ 40 := by
  cases hg : isG f with
  | true =>
    have := gone_right ((read_known h).2.1 hg).1
    unfold keysO
    rw [if_pos hg]
    exact this
  | false => rw [keysO_data hg]; exact ⟨List.Pairwise.nil, by simp⟩
set_option maxHeartbeats 1000000 in
set_option maxRecDepth 20000 in
theorem srIn_any (os : List Ob) (B0 rb mr mk : Nat) (fs : List Fl) (f g : Fl) (x : Rw) (fb rx xb : Nat) (w : World) (hr : ReadAt os w B0 rb mr mk fs) (hup : UpF fs) (hg : g ∈ fs) (hok : fileE os g = 0) (hm : g.path.length ≤ 100000)
    (h1 : w.cell? ⟨fb, 5, none⟩ = some (.int .i64 f.seq)) (h2 : w.cell? ⟨rx, 0, none⟩ = some (.pointer (some ⟨rb, 0, none⟩))) (h3 : w.cell? ⟨xb, 1, none⟩ = some (.int .i64 x.key)) :
    Calls Tryz.prog 53 #[fileV g, .pointer (some ⟨fb, 0, none⟩), .pointer (some ⟨rx, 0, none⟩), .pointer (some ⟨xb, 0, none⟩)] w fun e w' => e = .returned (.bool (decide (f.seq < g.seq) && decide (x.key ∈ keysO os g))) ∧ Below w.heap.size w w' := by
  have hba : Below w.heap.size w (w.alloc (fileO g)) := (Below.refl _ _).alloc (Nat.le_refl _) _
  have CF := Lib.hid (fun W (h : Below (w.alloc (fileO g)).heap.size (w.alloc (fileO g)) W) => fileCells (f := g) (w := w) rfl h)
  obtain ⟨xr, xk, nr, nk, -, -, -, hmk, hst⟩ := hr.maps
  obtain ⟨v, hv⟩ : ∃ v, (getP g.path xk).getD (.slice none 0 0) = v := ⟨_, rfl⟩
  have HK := Lib.hid (fun W (hb : Below w.heap.size w W) => (⟨(hb.cell (World.block_lt_of_cell? w _ h1)).trans h1, (hb.cell (World.block_lt_of_cell? w _ h2)).trans h2, (hb.cell (World.block_lt_of_cell? w _ h3)).trans h3, (hr.below hb).c1, by
    have hgb : w.grownBy W none := ⟨hb.os, hb.tape, hb.output, hb.size, fun k hk _ => hb.block k hk⟩
    have := lookSI (hmk.kept hgb (by simp)) g.path hm
    rwa [hv] at this⟩ : W.cell? ⟨fb, 5, none⟩ = some (.int .i64 f.seq) ∧ W.cell? ⟨rx, 0, none⟩ = some (.pointer (some ⟨rb, 0, none⟩)) ∧ W.cell? ⟨xb, 1, none⟩ = some (.int .i64 x.key) ∧ W.cell? ⟨rb, 1, none⟩ = some (.map (some mk)) ∧ (Instr.lookup 96 (.map (some mk)) (S g.path) false).run Tryz.prog W = .ok v W))
  have hvk := hst.keysAt hup hg
  rw [hv] at hvk
  obtain ⟨hu1, hu2⟩ := keysO_right hok
  have HV := Lib.hid hvk
  have HH := Lib.hid (fun W (hb : Below w.heap.size w W) => goneHas_any v (keysO os g) x.key W (hvk.below hb) (by omega) hu1)
  clear hr hup hg hok h1 h2 h3 hmk hst hv hvk hu1 hu2
  by_cases hq : f.seq < g.seq
  case neg =>
    rw [decide_eq_false hq, Bool.false_and]
    have gq : decide (f.seq < g.seq) = false := decide_eq_false hq
    clear hq
    obtain ⟨k1, k2, k3, k4, k5⟩ := HK.out _ hba
    obtain ⟨c0, c1, c2, c3, c4, c5⟩ := CF.out _ (Below.refl _ _)
    go_enter Tryz.func53, Tryz.ntmps53
    go_upto_region 1 with fail
    generalize w.alloc (fileO g) = w0 at *
    go_quiet (fail)
    go_wp2_with fail
    go_ret
    exact ⟨rfl, Bdn hba _⟩
  rw [decide_eq_true hq, Bool.true_and]
  go_enter Tryz.func53, Tryz.ntmps53
  go_upto_region 1 with fail
  generalize w.alloc (fileO g) = w0 at *
  have hd : Below w0.heap.size w0 w0.drew := (Below.refl _ _).drew
  have hbd := hba.trans (hd.mono hba.size)
  obtain ⟨k1, k2, k3, k4, k5⟩ := HK.out _ hbd
  obtain ⟨c0, c1, c2, c3, c4, c5⟩ := CF.out _ hd
  go_region_held3 (fun w' => w'.cell? ⟨w.heap.size, 5, none⟩ = some (.int .i64 g.seq) ∧ w'.cell? ⟨w.heap.size, 0, none⟩ = some (S g.path) ∧ w'.cell? ⟨fb, 5, none⟩ = some (.int .i64 f.seq) ∧ w'.cell? ⟨rx, 0, none⟩ = some (.pointer (some ⟨rb, 0, none⟩)) ∧ w'.cell? ⟨xb, 1, none⟩ = some (.int .i64 x.key) ∧ w'.cell? ⟨rb, 1, none⟩ = some (.map (some mk)) ∧ (Instr.lookup 96 (.map (some mk)) (S g.path) false).run Tryz.prog w' = .ok v w') (exact ⟨c5, c0, k1, k2, k3, k4, k5⟩)
    ((go_at_call 54; (with_reducible refine (HH.out _ hbd).mono ?_); rintro e w1 ⟨rfl, hb1⟩; have hb01 := hd.trans (hb1.mono hd.size); have hbw1 := hbd.trans (hb1.mono hbd.size); clear k1 k2 k3 k4 k5 c0 c1 c2 c3 c4 c5; obtain ⟨k1, k2, k3, k4, k5⟩ := HK.out _ hbw1; obtain ⟨c0, c1, c2, c3, c4, c5⟩ := CF.out _ hb01))
  all_goals
    go_wp2_with fail
    go_ret
    exact ⟨rfl, hbw1⟩
theorem clo_srIn : Clo Tryz.prog 53 := fun _ _ => by kernel_rfl
set_option maxHeartbeats 1000000 in
set_option maxRecDepth 20000 in
theorem srOut_any (os : List Ob) (B0 rb mr mk : Nat) (fs : List Fl) (f : Fl) (x : Rw) (lb fb rx : Nat) (v : Value) (w : World) (hr : ReadAt os w B0 rb mr mk fs) (hup : UpF fs) (hok : ∀ g ∈ fs, fileE os g = 0) (hm : ∀ g ∈ fs, midF g)
    (h0 : w.cell? ⟨lb, 0, none⟩ = some v) (hl : FilesAt w v fs) (h1 : w.cell? ⟨fb, 5, none⟩ = some (.int .i64 f.seq)) (h2 : w.cell? ⟨rx, 0, none⟩ = some (.pointer (some ⟨rb, 0, none⟩))) :
    Calls Tryz.prog 51 #[rowV x, .pointer (some ⟨lb, 0, none⟩), .pointer (some ⟨fb, 0, none⟩), .pointer (some ⟨rx, 0, none⟩)] w fun e w' => e = .returned (.bool (killed os fs f.seq x.key)) ∧ Below w.heap.size w w' := by
  have hba : Below w.heap.size w (w.alloc (.cells #[S x.part, .int .i64 x.key, .int .i64 x.val] 106)) := (Below.refl _ _).alloc (Nat.le_refl _) _
  have hgx := heap_alloc_new w (.cells #[S x.part, .int .i64 x.key, .int .i64 x.val] 106)
  obtain ⟨a, c, rfl, -, -⟩ := At.form' hl
  have h0' := (hba.cell (World.block_lt_of_cell? w _ h0)).trans h0
  have HKl : Hid (∀ q k, (fs.any fun g => decide (q < g.seq) && decide (k ∈ keysO os g)) = killed os fs q k) := Lib.hid fun _ _ => rfl
  have HP := Lib.hid (fun (W : World) (hW : Below w.heap.size w W) (hx : W.cell? ⟨w.heap.size, 1, none⟩ = some (.int .i64 x.key)) (g : Fl) (hg : g ∈ fs) => srIn_any os B0 rb mr mk fs f g x fb rx w.heap.size W (hr.below hW) hup hg (hok g hg) (hm g hg).1 ((hW.cell (World.block_lt_of_cell? w _ h1)).trans h1) ((hW.cell (World.block_lt_of_cell? w _ h2)).trans h2) hx)
  have HL := Lib.hid (hl.below hba)
  clear hr hup hok hm h0 hl h1 h2
  go_enter Tryz.func51, Tryz.ntmps51
  go_upto_region 1 with fail
  generalize w.alloc (.cells #[S x.part, .int .i64 x.key, .int .i64 x.val] 106) = w0 at *
  have HCf := Lib.hid (containsFuncF_any 53 #[.pointer (some ⟨fb, 0, none⟩), .pointer (some ⟨rx, 0, none⟩), .pointer (some ⟨w.heap.size, 0, none⟩)] (fun g => decide (f.seq < g.seq) && decide (x.key ∈ keysO os g)) w0.heap.size w0 (.slice a fs.length c) fs w0 clo_srIn
    (fun W g hg hW _ => by
      have hx : W.cell? ⟨w.heap.size, 1, none⟩ = some (.int .i64 x.key) := by rw [cell_of_row W _ _ _ _ (0, 0) (rowKept hgx hW)]; rfl
      exact HP.out W (hba.trans (hW.mono hba.size)) hx g hg) HL.out (Below.refl _ _) (Nat.le_refl _))
  rw [HKl.out] at HCf
  clear hgx
  go_wp2_with fail
  refine HCf.out.mono ?_
  rintro e w1 ⟨rfl, hb1⟩
  go_wp2_with fail
  go_ret
  exact ⟨rfl, hba.trans (hb1.mono hba.size)⟩
theorem clo_srOut : Clo Tryz.prog 51 := fun _ _ => by kernel_rfl
end Go.Proofs.YtpfohfihkmjnaaaGreatDoor
namespace Go.Proofs.YtpfohfihkmjnaaaGreatDoor
open Go.RowKit Go.Maps
theorem rowsO_len {os : List Ob} {f : Fl} (h : fileE os f = 0) : (rowsO os f).length ≤ 40 := by
  cases hg : isG f with
  | true => rw [rowsO_gone hg]; simp
  | false =>
    obtain ⟨hE, -, -⟩ := (read_known h).2.2 hg
    obtain ⟨-, -, -, -, e5⟩ := readEr_text hE
    unfold rowsO dataL
    rw [if_neg (by rw [hg]; decide), if_pos hE]
    unfold keysR at e5
    rwa [List.length_map] at e5
theorem leftO_len {os : List Ob} {l : List Fl} {lo hi : Int} {f : Fl} (h : fileE os f = 0) : (withinR (rowsO os f) lo hi).length ≤ 40 ∧ (leftO os l lo hi f).length ≤ 40 := by
  have h1 := rowsO_len h
  have h2 : (withinR (rowsO os f) lo hi).length ≤ (rowsO os f).length := List.length_filter_le _ _
  have h3 : (leftO os l lo hi f).length ≤ (withinR (rowsO os f) lo hi).length := List.length_filter_le _ _
  omega
theorem allUp_len {os : List Ob} {l : List Fl} {lo hi : Int} : ∀ {m : List Fl}, (∀ f ∈ m, fileE os f = 0) → (m.flatMap (leftO os l lo hi)).length ≤ m.length * 40
  | [], _ => by simp
  | f :: m, h => by
    have h1 := (leftO_len (l := l) (lo := lo) (hi := hi) (h f (by simp))).2
    have h2 := allUp_len (os := os) (l := l) (lo := lo) (hi := hi) (m := m) fun g hg => h g (by simp [hg])
    rw [List.flatMap_cons, List.length_append, List.length_cons]
    omega
theorem take_flat {α β : Type} {g : α → List β} {l : List α} {k : Nat} {x : α} (h : l[k]? = some x) : (l.take (k + 1)).flatMap g = (l.take k).flatMap g ++ g x := by
  rw [List.take_add_one, h, List.flatMap_append]
  simp
theorem snRow7 {W : World} {g : Nat} {s : Sn} {v : Value} {t : TypeId} (h : W.heap[g]? = some (.cells #[.int .i64 s.id, .int .i64 s.parent, .int .i64 s.seq, .int .i64 s.day, .int .i64 s.index, S s.op, v] t (0, 0))) :
    W.cell? ⟨g, 0, none⟩ = some (.int .i64 s.id) ∧ W.cell? ⟨g, 1, none⟩ = some (.int .i64 s.parent) ∧ W.cell? ⟨g, 2, none⟩ = some (.int .i64 s.seq) ∧ W.cell? ⟨g, 3, none⟩ = some (.int .i64 s.day) ∧ W.cell? ⟨g, 4, none⟩ = some (.int .i64 s.index) ∧ W.cell? ⟨g, 5, none⟩ = some (S s.op) ∧ W.cell? ⟨g, 6, none⟩ = some v := by
  refine ⟨?_, ?_, ?_, ?_, ?_, ?_, ?_⟩ <;> (rw [cell_of_row W _ _ _ _ (0, 0) h]; rfl)
/-- A reader made anew. -/
theorem read_new (os : List Ob) (w : World) (B m : Nat) (hm : w.heap.size = m) (hB : B ≤ m) :
    ReadAt os (((w.alloc (.map #[] 0)).alloc (.map #[] 0)).alloc (.cells #[.map (some m), .map (some (m + 1))] 98)) B (m + 1 + 1) m (m + 1) [] := by
  subst hm
  have h1 := World.ownsMap_made w Tryz.prog 9 heldR
  have h2 := World.ownsMap_made (w.alloc (.map #[] 0)) Tryz.prog 9 heldR
  rw [show (w.alloc (.map #[] 0)).heap.size = w.heap.size + 1 by simp] at h2
  have h3 := heap_alloc_new ((w.alloc (.map #[] 0)).alloc (.map #[] 0)) (.cells #[.map (some w.heap.size), .map (some (w.heap.size + 1))] 98)
  rw [show ((w.alloc (.map #[] 0)).alloc (.map #[] 0)).heap.size = w.heap.size + 1 + 1 by simp] at h3
  exact ⟨h3, by omega, by omega, [], [], 0, 0, Nat.le_refl _, Nat.le_refl _, (h1.alloc _).alloc _, h2.alloc _, Stock.nil _ _⟩
theorem own_app {α : Type} {enc : α → List Value} {e : TypeId} {sz B : Nat} {w : World} {v : Value} {l m : List α} (h : w.ownsRow B e sz v (l.length + m.length) (l.flatMap enc ++ m.flatMap enc)) : Own enc e sz B w v (l ++ m) := by
  unfold Own
  rw [List.flatMap_append, List.length_append]
  exact h
/-- An append in a region that draws, by what it is known to answer. -/
theorem step_run_app2 {P : Program} {ops : Array Oper} {o : Oper} {a : Act} {w : World} {K : Act → World → Prop} {Q : Exit → Act → World → Prop} {E : Prop}
    (hg : o.guard = none) (s x : Operand) (t : TypeId) (hop : o.op = Op.call { callee := Callee.builtin Builtin.append, args := #[s, x], argTypes := #[t, t] })
    (sv xv : Value) (hs : a.eval s = sv) (hx : a.eval x = xv) {v' : Value} {w' : World} (hrun : (Builtin.append_ #[t, t] o.type #[sv, xv]).run P w = .ok v' w') (hK : K (a.put o.dst v') w') :
    if Region.wanted o (yielded ops a.tmps) = true then Oper.wp P o a w K Q else E := by
  have hw : Region.wanted o (yielded ops a.tmps) = true := by simp [Region.wanted, hg]
  rw [if_pos hw]
  unfold Oper.wp execOp
  simp only [hop, resolve, invoke, builtin, Sem.run_bind, Sem.run_pure, Result.andThen_ok, List.map_toArray, List.map_cons, List.map_nil, hs, hx, hrun]
  exact hK
set_option maxHeartbeats 8000000 in
set_option maxRecDepth 20000 in
theorem scanRows_any (E : Nat → Addr) (B : Nat) (sb mb : Nat) (st : St) (s : Sn) (v : Value) (lo hi : Int) (w : World) (hE : Errs [1, 2, 3, 4, 5, 6, 8, 9, 10] E B w) (hT : LNum B w) (hM : LMax B w) (h : StoreAt w sb mb st) (hx : ∀ o ∈ st.objs, o.text.length ≤ 10000)
    (hl : FilesAt w v s.files) (hs : ∀ x ∈ s.files, midF x) :
    Calls Tryz.prog 14 #[stP sb, snapV s v, .int .i64 lo, .int .i64 hi] w fun e w' => ∃ u ev, e = .returned (.tuple #[u, ev]) ∧ ErV E w' ev (rowsE st.objs s lo hi) ∧ RowsAt w' u (rowsL st.objs s lo hi) ∧ Below w.heap.size w w' := by
  have hBw := hE.le
  have hif := isIfaceE
  have X := Lib.hid (fun W (hb : Below w.heap.size w W) => (⟨hE.below' hb hBw, hT.below' hb hBw, hM.below' hb hBw, h.below hb, hl.below hb⟩ : Errs [1, 2, 3, 4, 5, 6, 8, 9, 10] E B W ∧ LNum B W ∧ LMax B W ∧ StoreAt W sb mb st ∧ FilesAt W v s.files))
  obtain ⟨a, c, rfl, -, -⟩ := At.form' hl
  have hba : Below w.heap.size w (w.alloc (.cells #[.int .i64 s.id, .int .i64 s.parent, .int .i64 s.seq, .int .i64 s.day, .int .i64 s.index, S s.op, .slice a s.files.length c] 25)) := (Below.refl _ _).alloc (Nat.le_refl _) _
  have hg0 := heap_alloc_new w (.cells #[.int .i64 s.id, .int .i64 s.parent, .int .i64 s.seq, .int .i64 s.day, .int .i64 s.index, S s.op, .slice a s.files.length c] 25)
  have HX := Lib.hid hx; have HS := Lib.hid hs
  have HMm := Lib.hid (@run_makeMap Tryz.prog)
  clear hE hT hM h hl hx hs
  go_enter Tryz.func14, Tryz.ntmps14
  go_upto_region 3 with fail
  generalize w.alloc (.cells #[.int .i64 s.id, .int .i64 s.parent, .int .i64 s.seq, .int .i64 s.day, .int .i64 s.index, S s.op, .slice a s.files.length c] 25) = w0 at *
  obtain ⟨c0, c1, c2, c3, c4, c5, c6⟩ := snRow7 hg0
  have HG0 := Lib.hid hg0
  have HCk := Lib.hid (snapCheck_any E B s _ w0 ((X.out _ hba).1.sub (by decide)) (X.out _ hba).2.1 (X.out _ hba).2.2.1 (X.out _ hba).2.2.2.2 HS.out)
  clear hg0
  go_wp2_with fail
  refine HCk.out.mono ?_
  rintro e w1 ⟨ev, rfl, hev, hb1⟩
  have hbw1 := hba.trans (hb1.mono hba.size)
  clear HCk c0 c1 c2 c3 c4 c5 c6
  by_cases hck : snapCheck s = .nil
  case neg =>
    have hre : rowsE st.objs s lo hi = snapCheck s := if_pos hck
    have hrl : rowsL st.objs s lo hi = [] := if_neg (by rw [hre]; exact hck)
    have HR := Lib.hid (And.intro hre hrl)
    have HEv := Lib.hid hev
    obtain ⟨t1, x1, rfl⟩ := hev.iface hck
    clear hre hrl hck hev
    go_wp2_with fail
    go_ret2
    exact ⟨_, _, rfl, by rw [HR.out.1]; exact HEv.out, by rw [HR.out.2]; exact At.nil _ _ _, hbw1⟩
  rw [hck] at hev
  obtain rfl : ev = .nilIface := hev
  have HRs := Lib.hid ((snap_iff s).1 hck)
  have HRe : Hid (rowsE st.objs s lo hi = firstErr (scanF st.objs lo hi s.files) s.files.length) := Lib.hid (if_neg (by rw [hck]; simp))
  clear hck
  obtain ⟨-, -, -, -, -, -, c6⟩ := snRow7 (rowKept HG0.out hb1)
  have HPr := Lib.hid (listPrune_any _ s.files lo hi w1 (X.out _ hbw1).2.2.2.2 (by have := HRs.out.lst.len; omega))
  go_wp2_with fail
  refine HPr.out.mono ?_
  rintro e w2 ⟨v2, rfl, hv2, hb2⟩
  obtain ⟨l, hll⟩ : ∃ l, pruneL s.files lo hi = l := ⟨_, rfl⟩
  rw [hll] at hv2
  have HLl := Lib.hid hll
  have hbw2 := hbw1.trans (hb2.mono hbw1.size)
  have hb02 := hb1.trans (hb2.mono hb1.size)
  obtain ⟨al, cl, bl, ol, rfl, hal, hcl, hcml, hxl⟩ := hv2
  unfold maxLen at hcml
  clear hll c6 HPr
  have hmm := HMm.out
  have q1 : Below w2.heap.size w2 (w2.alloc (.cells #[.slice al l.length cl] 23)) := (Below.refl _ _).alloc (Nat.le_refl _) _
  have z1 : (w2.alloc (.cells #[.slice al l.length cl] 23)).heap.size = w2.heap.size + 1 := by simp
  have q2 : Below (w2.alloc (.cells #[.slice al l.length cl] 23)).heap.size (w2.alloc (.cells #[.slice al l.length cl] 23)) ((((w2.alloc (.cells #[.slice al l.length cl] 23)).alloc (.map #[] 0)).alloc (.map #[] 0)).alloc (.cells #[.map (some (w2.heap.size + 1)), .map (some (w2.heap.size + 1 + 1))] 98)) := (((Below.refl _ _).alloc (Nat.le_refl _) _).alloc (by simp) _).alloc (by simp) _
  have z2 : ((((w2.alloc (.cells #[.slice al l.length cl] 23)).alloc (.map #[] 0)).alloc (.map #[] 0)).alloc (.cells #[.map (some (w2.heap.size + 1)), .map (some (w2.heap.size + 1 + 1))] 98)).heap.size = w2.heap.size + 1 + 1 + 1 + 1 := by simp
  have q3 : Below ((((w2.alloc (.cells #[.slice al l.length cl] 23)).alloc (.map #[] 0)).alloc (.map #[] 0)).alloc (.cells #[.map (some (w2.heap.size + 1)), .map (some (w2.heap.size + 1 + 1))] 98)).heap.size ((((w2.alloc (.cells #[.slice al l.length cl] 23)).alloc (.map #[] 0)).alloc (.map #[] 0)).alloc (.cells #[.map (some (w2.heap.size + 1)), .map (some (w2.heap.size + 1 + 1))] 98)) (((((w2.alloc (.cells #[.slice al l.length cl] 23)).alloc (.map #[] 0)).alloc (.map #[] 0)).alloc (.cells #[.map (some (w2.heap.size + 1)), .map (some (w2.heap.size + 1 + 1))] 98)).alloc (.cells #[.pointer (some ⟨w2.heap.size + 1 + 1 + 1, 0, none⟩)] 94)) := (Below.refl _ _).alloc (Nat.le_refl _) _
  have q13 : Below (w2.alloc (.cells #[.slice al l.length cl] 23)).heap.size (w2.alloc (.cells #[.slice al l.length cl] 23)) (((((w2.alloc (.cells #[.slice al l.length cl] 23)).alloc (.map #[] 0)).alloc (.map #[] 0)).alloc (.cells #[.map (some (w2.heap.size + 1)), .map (some (w2.heap.size + 1 + 1))] 98)).alloc (.cells #[.pointer (some ⟨w2.heap.size + 1 + 1 + 1, 0, none⟩)] 94)) := q2.trans (q3.mono q2.size)
  have q23 : Below w2.heap.size w2 (((((w2.alloc (.cells #[.slice al l.length cl] 23)).alloc (.map #[] 0)).alloc (.map #[] 0)).alloc (.cells #[.map (some (w2.heap.size + 1)), .map (some (w2.heap.size + 1 + 1))] 98)).alloc (.cells #[.pointer (some ⟨w2.heap.size + 1 + 1 + 1, 0, none⟩)] 94)) := q1.trans (q13.mono q1.size)
  have hlb : (((((w2.alloc (.cells #[.slice al l.length cl] 23)).alloc (.map #[] 0)).alloc (.map #[] 0)).alloc (.cells #[.map (some (w2.heap.size + 1)), .map (some (w2.heap.size + 1 + 1))] 98)).alloc (.cells #[.pointer (some ⟨w2.heap.size + 1 + 1 + 1, 0, none⟩)] 94)).heap[w2.heap.size]? = some (.cells #[.slice al l.length cl] 23) := rowKept (heap_alloc_new w2 (.cells #[.slice al l.length cl] 23)) q13
  have hrx : (((((w2.alloc (.cells #[.slice al l.length cl] 23)).alloc (.map #[] 0)).alloc (.map #[] 0)).alloc (.cells #[.map (some (w2.heap.size + 1)), .map (some (w2.heap.size + 1 + 1))] 98)).alloc (.cells #[.pointer (some ⟨w2.heap.size + 1 + 1 + 1, 0, none⟩)] 94)).heap[w2.heap.size + 1 + 1 + 1 + 1]? = some (.cells #[.pointer (some ⟨w2.heap.size + 1 + 1 + 1, 0, none⟩)] 94) := by rw [← z2]; exact heap_alloc_new _ _
  have hrd := (read_new st.objs (w2.alloc (.cells #[.slice al l.length cl] 23)) w.heap.size (w2.heap.size + 1) z1 (by have := hbw2.size; omega)).below q3
  have HLb := Lib.hid hlb; have HRx := Lib.hid hrx; have HRd := Lib.hid hrd; have HQ := Lib.hid q23
  have HXl := Lib.hid hxl
  have hb23 := hbw2.trans (q23.mono hbw2.size)
  have hb03 := hb02.trans (q23.mono hb02.size)
  have HUl : Hid (UpF l ∧ (∀ g ∈ l, midF g) ∧ l.length ≤ 60) := Lib.hid (by
    rw [← HLl.out]
    refine ⟨HRs.out.lst.ris.filter _, fun g hg => HS.out g (List.mem_filter.1 hg).1, ?_⟩
    have := HRs.out.lst.len
    have h2 : (pruneL s.files lo hi).length ≤ s.files.length := List.length_filter_le _ _
    omega)
  clear q1 z1 q2 z2 q3 q13 hlb hrx hrd hxl
  go_upto_region 8 with fail
  generalize (((((w2.alloc (.cells #[.slice al l.length cl] 23)).alloc (.map #[] 0)).alloc (.map #[] 0)).alloc (.cells #[.map (some (w2.heap.size + 1)), .map (some (w2.heap.size + 1 + 1))] 98)).alloc (.cells #[.pointer (some ⟨w2.heap.size + 1 + 1 + 1, 0, none⟩)] 94)) = w3 at *
  clear q23
  have k0 : w3.cell? ⟨w2.heap.size, 0, none⟩ = some (.slice al l.length cl) := by rw [cell_of_row w3 _ _ _ _ (0, 0) HLb.out]; rfl
  go_wp2_with fail
  clear k0
  have hl60 := HUl.out.2.2
  go_loopw [38] (fun i wr => ∃ k : Nat, k ≤ l.length ∧ i = .int .i64 k ∧ Hid (ReadAt st.objs wr w.heap.size (w2.heap.size + 1 + 1 + 1) (w2.heap.size + 1) (w2.heap.size + 1 + 1) (l.take k)) ∧ Hid (∀ j < k, ∀ g, l[j]? = some g → fileE st.objs g = 0) ∧ Hid (ButD (fun k => k = w2.heap.size + 1 ∨ k = w2.heap.size + 1 + 1) w3 wr)) (fun i _ => l.length - (intOf i).toNat)
  case atStart => exact ⟨0, by omega, rfl, Lib.hid (by rw [List.take_zero]; exact HRd.out), Lib.hid fun j hj => absurd hj (by omega), Lib.hid (ButD.of (Below.refl _ _))⟩
  case round =>
    obtain ⟨k, hk, rfl, hrd, hj, hbd⟩ := hrel
    obtain ⟨wo, rfl⟩ : ∃ wo, wo = wr := ⟨wr, rfl⟩
    have h3o : Below (w2.heap.size + 1) w3 wo := hbd.out.below (fun k hk => by omega) (by have := (Array.getElem?_eq_some_iff.1 HLb.out).1; omega)
    have h2o : Below w2.heap.size w2 wo := HQ.out.trans (h3o.mono (by omega))
    have h0o : Below w0.heap.size w0 wo := hb02.trans (h2o.mono hb02.size)
    have hwo : Below w.heap.size w wo := hbw2.trans (h2o.mono hbw2.size)
    have hlbo : wo.heap[w2.heap.size]? = some (.cells #[.slice al l.length cl] 23) := (h3o.block _ (by omega)).trans HLb.out
    have hrxo : wo.heap[w2.heap.size + 1 + 1 + 1 + 1]? = some (.cells #[.pointer (some ⟨w2.heap.size + 1 + 1 + 1, 0, none⟩)] 94) := (hbd.out.block _ (Array.getElem?_eq_some_iff.1 HRx.out).1 (by omega)).trans HRx.out
    by_cases hlt : k < l.length
    case neg =>
      obtain rfl : k = l.length := by omega
      have f1 : decide ((l.length : Int) < (l.length : Int)) = false := by simp
      have HAll : Hid (∀ g ∈ l, fileE st.objs g = 0) := Lib.hid (fun g hg => by
        obtain ⟨j, hj1, hj2⟩ := List.getElem_of_mem hg
        exact hj.out j hj1 g (by rw [List.getElem?_eq_getElem hj1, hj2]))
      have HRl : Hid (rowsE st.objs s lo hi = .nil ∧ rowsL st.objs s lo hi = sortR (l.flatMap (leftO st.objs l lo hi))) := Lib.hid (by
        have h1 : rowsE st.objs s lo hi = .nil := rowsE_of HRs.out (by rw [HLl.out]; exact HAll.out)
        refine ⟨h1, ?_⟩
        unfold rowsL allO
        rw [if_pos h1, HLl.out])
      have hRo : ReadAt st.objs wo w.heap.size (w2.heap.size + 1 + 1 + 1) (w2.heap.size + 1) (w2.heap.size + 1 + 1) l := by have := hrd.out; rwa [List.take_length] at this
      have HRo := Lib.hid hRo
      have HLo := Lib.hid hlbo
      have HXo := Lib.hid hrxo
      have hN4 : w2.heap.size + 1 + 1 + 1 + 1 < wo.heap.size := (Array.getElem?_eq_some_iff.1 hrxo).1
      have k0 : wo.cell? ⟨w2.heap.size, 0, none⟩ = some (.slice al l.length cl) := by rw [cell_of_row wo _ _ _ _ (0, 0) hlbo]; rfl
      clear hRo hrd hj hbd hlbo hrxo hlt hk
      go_wp2_with fail
      clear f1 k0
      go_loopw [16, 61] (fun u16 i wr => ∃ (j : Nat) (u : Value), j ≤ l.length ∧ i = .int .i64 j ∧ u = u16 ∧ Hid (Own encR 106 3 wo.heap.size wr u ((l.take j).flatMap (leftO st.objs l lo hi))) ∧ Below wo.heap.size wo wr) (fun _ i _ => l.length - (intOf i).toNat)
      case atStart => exact ⟨0, _, by omega, rfl, rfl, Lib.hid (by rw [List.take_zero]; exact Own.nil _ _ _ _ _), Below.refl _ _⟩
      case round =>
        obtain ⟨j, u, hj, rfl, rfl, ho, hb⟩ := hrel
        obtain ⟨wp, rfl⟩ : ∃ wp, wp = wr := ⟨wr, rfl⟩
        have hwp := hwo.trans (hb.mono hwo.size)
        by_cases hlj : j < l.length
        case neg =>
          obtain rfl : j = l.length := by omega
          have f1 : decide ((l.length : Int) < (l.length : Int)) = false := by simp
          have hu := ho.out
          rw [List.take_length] at hu
          have HSo := Lib.hid (rowSort_any u _ wp (hu.at encR_enc) (by have := allUp_len (os := st.objs) (l := l) (lo := lo) (hi := hi) (m := l) HAll.out; omega))
          clear hu
          go_wp2_with fail
          refine HSo.out.mono ?_
          rintro e w8 ⟨u8, rfl, hu8, hb8⟩
          go_wp2_with fail
          go_ret2
          exact ⟨_, _, rfl, by rw [HRl.out.1]; rfl, by rw [HRl.out.2]; exact hu8.at encR_enc, hwp.trans (hb8.mono hwp.size)⟩
        have f1 : (j : Int) < (l.length : Int) := by omega
        obtain ⟨f, hfk⟩ := get_ex hlj
        have i1 := idx_at (c := cl) 6 Tryz.underlying23 szFl hal j hlj
        have h2p : Below w2.heap.size w2 wp := h2o.trans (hb.mono h2o.size)
        obtain ⟨c0, c1, c2, c3, c4, c5⟩ := flCells HXl.out h2p hfk
        have hwA : Below wp.heap.size wp (wp.alloc (fileO f)) := (Below.refl _ _).alloc (Nat.le_refl _) _
        have HGA := Lib.hid (heap_alloc_new wp (fileO f))
        have HFk := Lib.hid hfk
        have HMf := Lib.hid (HUl.out.2.1 f (List.mem_of_getElem? hfk))
        have HFe := Lib.hid (HAll.out f (List.mem_of_getElem? hfk))
        have hV2 : FilesAt w2 (.slice al l.length cl) l := ⟨al, cl, bl, ol, rfl, hal, hcl, by unfold maxLen; omega, HXl.out⟩
        have HV2 := Lib.hid hV2
        obtain ⟨xr, xk, nr, nk, -, -, hmr, -, hst⟩ := HRo.out.maps
        obtain ⟨v, hv⟩ : ∃ v, (getP f.path xr).getD (.slice none 0 0) = v := ⟨_, rfl⟩
        have hvr := hst.rowsAt HUl.out.1 (List.mem_of_getElem? hfk)
        rw [hv] at hvr
        have HK := Lib.hid (fun W (hW : Below wo.heap.size wo W) (hF : W.heap[wp.heap.size]? = some (fileO f)) => (⟨by rw [cell_of_row W _ _ _ _ (0, 0) ((hW.block _ hN4).trans HXo.out)]; rfl, (HRo.out.below hW).c0, (rowF6 (f := f) hF).1, by
          have hgb : wo.grownBy W none := ⟨hW.os, hW.tape, hW.output, hW.size, fun k hk _ => hW.block k hk⟩
          have := lookSR (hmr.kept hgb (by simp)) f.path HMf.out.1
          rwa [hv] at this⟩ : W.cell? ⟨w2.heap.size + 1 + 1 + 1 + 1, 0, none⟩ = some (.pointer (some ⟨w2.heap.size + 1 + 1 + 1, 0, none⟩)) ∧ W.cell? ⟨w2.heap.size + 1 + 1 + 1, 0, none⟩ = some (.map (some (w2.heap.size + 1))) ∧ W.cell? ⟨wp.heap.size, 0, none⟩ = some (S f.path) ∧ (Instr.lookup 95 (.map (some (w2.heap.size + 1))) (S f.path) false).run Tryz.prog W = .ok v W))
        have HWi := Lib.hid (fun W (hW : Below wo.heap.size wo W) => rowWithin_any v (rowsO st.objs f) lo hi W (hvr.below hW) (by have := rowsO_len HFe.out; omega))
        have HPd := Lib.hid (fun W x (hW : Below wo.heap.size wo W) (hF : W.heap[wp.heap.size]? = some (fileO f)) => srOut_any st.objs w.heap.size (w2.heap.size + 1 + 1 + 1) (w2.heap.size + 1) (w2.heap.size + 1 + 1) l f x w2.heap.size wp.heap.size (w2.heap.size + 1 + 1 + 1 + 1) (.slice al l.length cl) W (HRo.out.below hW) HUl.out.1 HAll.out HUl.out.2.1 (by rw [cell_of_row W _ _ _ _ (0, 0) ((hW.block _ (by omega)).trans HLo.out)]; rfl) (HV2.out.below (h2o.trans (hW.mono h2o.size))) (rowF6 (f := f) hF).2.2.2.2.2 (by rw [cell_of_row W _ _ _ _ (0, 0) ((hW.block _ hN4).trans HXo.out)]; rfl))
        have HL2 : Hid (((l.take j).flatMap (leftO st.objs l lo hi)).length ≤ 2400 ∧ (leftO st.objs l lo hi f).length ≤ 40) := Lib.hid ⟨by
          have := allUp_len (os := st.objs) (l := l) (lo := lo) (hi := hi) (m := l.take j) (fun g hg => HAll.out g (List.mem_of_mem_take hg))
          rw [List.length_take] at this
          have := HUl.out.2.2
          omega, (leftO_len HFe.out).2⟩
        obtain ⟨L, hLe⟩ : ∃ L, (l.take j).flatMap (leftO st.objs l lo hi) = L := ⟨_, rfl⟩
        rw [hLe] at ho HL2
        have HLe := Lib.hid hLe
        have HHo := Lib.hid ho.out
        have HWA := Lib.hid hwA
        have HHb := Lib.hid hb
        obtain ⟨au, cu, hue, -, -⟩ := At.form' (ho.out.at encR_enc)
        subst hue
        clear hfk hV2 hmr hst hv hvr ho hwA hLe
        go_upto_region 19 with fail
        generalize wp.alloc (fileO f) = wA at *
        clear c0 c1 c2 c3 c4 c5 i1
        have hAq : Below wp.heap.size wp wA.drew := HWA.out.drew
        have hoq : Below wo.heap.size wo wA.drew := HHb.out.trans (hAq.mono HHb.out.size)
        have hfq : wA.drew.heap[wp.heap.size]? = some (fileO f) := HGA.out
        obtain ⟨k1, k2, k3, k4⟩ := HK.out _ hoq hfq
        have HDe := Lib.hid (fun u1 v1 (hu1 : Own encR 106 3 wA.drew.heap.size v1 u1 (withinR (rowsO st.objs f) lo hi)) (hv1 : Below wA.drew.heap.size wA.drew v1) => deleteFuncR_any 51 #[.pointer (some ⟨w2.heap.size, 0, none⟩), .pointer (some ⟨wp.heap.size, 0, none⟩), .pointer (some ⟨w2.heap.size + 1 + 1 + 1 + 1, 0, none⟩)] (fun x => killed st.objs l f.seq x.key) wA.drew.heap.size wA.drew u1 (withinR (rowsO st.objs f) lo hi) v1 clo_srOut (fun W x _ hW _ => HPd.out W x (hoq.trans (hW.mono hoq.size)) (rowKept hfq hW)) hu1 hv1 hv1.size)
        go_region_held3 (fun w' => w'.cell? ⟨w2.heap.size + 1 + 1 + 1 + 1, 0, none⟩ = some (.pointer (some ⟨w2.heap.size + 1 + 1 + 1, 0, none⟩)) ∧ w'.cell? ⟨w2.heap.size + 1 + 1 + 1, 0, none⟩ = some (.map (some (w2.heap.size + 1))) ∧ w'.cell? ⟨wp.heap.size, 0, none⟩ = some (S f.path) ∧ (Instr.lookup 95 (.map (some (w2.heap.size + 1))) (S f.path) false).run Tryz.prog w' = .ok v w') (exact ⟨k1, k2, k3, k4⟩) (first
          | (go_at_call 50; (with_reducible refine (HWi.out _ hoq).mono ?_); rintro e v1 ⟨u1, rfl, hu1, hv1⟩; have ho1 := hoq.trans (hv1.mono hoq.size); have HF1 := Lib.hid (rowKept hfq hv1); have HU1 := Lib.hid hu1; have HV1 := Lib.hid hv1; clear k1 k2 k3 k4 hu1; obtain ⟨k1, k2, k3, k4⟩ := HK.out _ ho1 HF1.out)
          | (go_at_call 49; (with_reducible refine (HDe.out _ _ HU1.out HV1.out).mono ?_); rintro e v2 ⟨u2, rfl, hu2, hv2⟩; have ho2 := hoq.trans ((HV1.out.trans hv2).mono hoq.size); have HF2 := Lib.hid (rowKept hfq (HV1.out.trans hv2)); have hOut := HHo.out.below (hAq.trans ((HV1.out.trans hv2).mono hAq.size)); have hsrc := (hu2.at encR_enc).src encR_enc (by decide); obtain ⟨v6, w6, happ, hown6, hg6, -⟩ := run_app (P := Tryz.prog) v2 wo.heap.size 44 44 106 3 32 elRw (.slice au L.length cu) L.length _ hOut u2 _ _ hsrc (by have h := HL2.out; have h2 : (leftO st.objs l lo hi f).length = ((withinR (rowsO st.objs f) lo hi).filter fun x => !killed st.objs l f.seq x.key).length := rfl; unfold maxLen; omega) (by have h := HL2.out; have h2 : (leftO st.objs l lo hi f).length = ((withinR (rowsO st.objs f) lo hi).filter fun x => !killed st.objs l f.seq x.key).length := rfl; omega) ho2.size; have HAp := Lib.hid happ; have HOw := Lib.hid hown6; have ho6 := ho2.grown hg6 ho2.size (fun b hb' => (World.ownsRow.lt hOut b hb').1); have HF6 : Hid (w6.heap[wp.heap.size]? = some (fileO f)) := Lib.hid ((hg6.block _ (Array.getElem?_eq_some_iff.1 HF2.out).1 (fun e => by have := (World.ownsRow.lt HHo.out wp.heap.size e.symm).2; omega)).trans HF2.out); clear k1 k2 k3 k4 hu2 hv2 hOut hsrc happ hown6 hg6; obtain ⟨k1, k2, k3, k4⟩ := HK.out _ ho2 HF2.out)
          | ((refine step_run_app2 (by rfl) _ _ _ (by rfl) _ _ (by rfl) (by rfl) HAp.out ?_); clear k1 k2 k3 k4; obtain ⟨k1, k2, k3, k4⟩ := HK.out _ ho6 HF6.out))
        all_goals
          go_wp2_with fail
          go_roundw
          case rel => exact ⟨j + 1, v6, by omega, by go_num, rfl, Lib.hid (by rw [take_flat HFk.out, HLe.out]; exact own_app HOw.out), ho6⟩
          case measure => simp [intOf]; omega
    have f1 : (k : Int) < (l.length : Int) := by omega
    obtain ⟨f, hfk⟩ := get_ex hlt
    have i1 := idx_at (c := cl) 6 Tryz.underlying23 szFl hal k hlt
    obtain ⟨c0, c1, c2, c3, c4, c5⟩ := flCells HXl.out h2o hfk
    have hwA : Below wo.heap.size wo (wo.alloc (fileO f)) := (Below.refl _ _).alloc (Nat.le_refl _) _
    have CF := Lib.hid (fun W (h : Below (wo.alloc (fileO f)).heap.size (wo.alloc (fileO f)) W) => fileCells (f := f) (w := wo) rfl h)
    have hrxA := rowKept hrxo hwA
    have hrx0 : (wo.alloc (fileO f)).cell? ⟨w2.heap.size + 1 + 1 + 1 + 1, 0, none⟩ = some (.pointer (some ⟨w2.heap.size + 1 + 1 + 1, 0, none⟩)) := by rw [cell_of_row _ _ _ _ _ (0, 0) hrxA]; rfl
    have hbwA := hwo.trans (hwA.mono hwo.size)
    have HRr := Lib.hid (srRead_any E B sb mb st w.heap.size (w2.heap.size + 1 + 1 + 1) (w2.heap.size + 1) (w2.heap.size + 1 + 1) (l.take k) f (wo.alloc (fileO f)) (X.out _ hbwA).1 (X.out _ hbwA).2.1 (X.out _ hbwA).2.2.1 (X.out _ hbwA).2.2.2.1 HX.out (hrd.out.below hwA) (fun g hg e => by
      obtain ⟨j, hj1, hj2⟩ := List.getElem_of_mem hg
      rw [List.length_take] at hj1
      rw [List.getElem_take] at hj2
      have hlt2 := List.pairwise_iff_getElem.1 HUl.out.1 j k (by omega) hlt (by omega)
      have hfe : l[k] = f := (List.getElem?_eq_some_iff.1 hfk).2
      rw [hj2, hfe, e] at hlt2
      omega) (by rw [List.length_take]; omega) (HUl.out.2.1 f (List.mem_of_getElem? hfk)))
    have HFk := Lib.hid hfk
    have Hrd := hrd; have Hj := hj
    have HWA := Lib.hid hwA
    have hgA := heap_alloc_new wo (fileO f)
    have HGA := Lib.hid hgA
    have hN4 : w2.heap.size + 1 + 1 + 1 + 1 < wo.heap.size := by have := (Array.getElem?_eq_some_iff.1 hrxo).1; exact this
    have HN4 := Lib.hid hN4
    clear hfk hrxA hlbo hrxo hgA hN4
    go_upto_region 11 with fail
    generalize wo.alloc (fileO f) = wA at *
    clear c0 c1 c2 c3 c4 c5 i1
    obtain ⟨c0, c1, c2, c3, c4, c5⟩ := CF.out _ (Below.refl _ _)
    go_wp2_with fail
    refine HRr.out.mono ?_
    rintro e w5 ⟨ev, rfl, hev, hok, hbd5⟩
    have hbdo : ButD (fun k => k = w2.heap.size + 1 ∨ k = w2.heap.size + 1 + 1) wo w5 := (ButD.of HWA.out).trans hbd5 (fun k hk => .inl hk)
    have hbd35 : ButD (fun k => k = w2.heap.size + 1 ∨ k = w2.heap.size + 1 + 1) w3 w5 := hbd.out.trans hbdo (fun k hk => .inl hk)
    have h35 : Below (w2.heap.size + 1) w3 w5 := hbd35.below (fun k hk => by omega) (by have := (Array.getElem?_eq_some_iff.1 HLb.out).1; omega)
    have h25 : Below w2.heap.size w2 w5 := HQ.out.trans (h35.mono (by omega))
    have h05 : Below w0.heap.size w0 w5 := hb02.trans (h25.mono hb02.size)
    have hw5 : Below w.heap.size w w5 := hbw2.trans (h25.mono hbw2.size)
    have hfb : w5.heap[wo.heap.size]? = some (fileO f) := (hbd5.block _ (Array.getElem?_eq_some_iff.1 HGA.out).1 (by have := HN4.out; omega)).trans HGA.out
    have HOk := Lib.hid hok; have HD35 := Lib.hid hbd35; have HFb := Lib.hid hfb
    clear c0 c1 c2 c3 c4 c5 hrx0 HRr hok hbd5 hbdo hbd35 hfb hl60
    by_cases hfe : fileE st.objs f = 0
    case neg =>
      obtain ⟨i, hi1, hi2⟩ := scan_hit (os := st.objs) (files := s.files) (lo := lo) (hi := hi) HRs.out.lst.ris (by rw [HLl.out]; exact HFk.out) (fun j hj' g hg => Hj.out j hj' g (by rwa [HLl.out] at hg)) hfe
      have hre : rowsE st.objs s lo hi = .loc (fileE st.objs f) i := by rw [HRe.out]; exact hi2
      have hrl : rowsL st.objs s lo hi = [] := if_neg (by rw [hre]; simp)
      have HR := Lib.hid (And.intro hre hrl)
      have hev0 := hev
      rw [erOf_pos' hfe] at hev0
      obtain ⟨hc12, rfl⟩ := hev0
      obtain ⟨-, -, -, -, -, -, c6⟩ := snRow7 (rowKept HG0.out h05)
      obtain ⟨y0, -, -, -, -, -⟩ := rowF6 (f := f) HFb.out
      have HFi := Lib.hid (listFind_any _ s.files f.path w5 (X.out _ hw5).2.2.2.2)
      rw [hi1] at HFi
      have HEv := Lib.hid hev
      have HC := Lib.hid (And.intro hc12 hfe)
      clear hre hrl hi1 hi2 hev hc12 hfe
      go_wp2_with fail
      refine HFi.out.mono ?_
      rintro e w6 ⟨rfl, hb6⟩
      have hw6 := hw5.trans (hb6.mono hw5.size)
      clear c6 y0
      go_wp2_with fail
      refine (fileBare_any E (erOf (fileE st.objs f)) _ w6 (erOf_any HEv.out)).mono ?_
      rintro e w' ⟨ev', rfl, hev', rfl⟩
      rw [erOf_pos' HC.out.2] at hev'
      obtain ⟨-, rfl⟩ := hev'
      go_wp2_with fail
      go_ret2
      refine ⟨_, _, rfl, ?_, by rw [HR.out.2]; exact At.nil _ _ _, hw6.alloc hw6.size _⟩
      rw [HR.out.1]
      exact ⟨HC.out.1, w6.heap.size, rfl, by rw [cell_of_row _ _ _ _ _ (0, 0) (heap_alloc_new w6 _)]; rfl, by rw [cell_of_row _ _ _ _ _ (0, 0) (heap_alloc_new w6 _)]; rfl⟩
    rw [hfe] at hev
    obtain rfl : ev = .nilIface := hev
    have HFe := Lib.hid hfe
    clear hfe
    go_wp2_with fail
    go_roundw
    case rel => exact ⟨k + 1, by omega, by go_num, Lib.hid (by rw [List.take_add_one, HFk.out]; exact HOk.out HFe.out), Lib.hid (fun j hj' g hg => by
      rcases Nat.lt_or_ge j k with h' | h'
      · exact Hj.out j h' g hg
      · obtain rfl : j = k := by omega
        rw [HFk.out] at hg
        obtain rfl := Option.some.inj hg
        exact HFe.out), HD35⟩
    case measure => simp [intOf]; omega
end Go.Proofs.YtpfohfihkmjnaaaGreatDoor
namespace Go.Proofs.YtpfohfihkmjnaaaGreatDoor
open Go.RowKit
end Go.Proofs.YtpfohfihkmjnaaaGreatDoor
namespace Go.Proofs.YtpfohfihkmjnaaaGreatDoor
open Go.RowKit Go.Maps
theorem at_row2 {α : Type} {enc : α → List Value} {sz : Nat} (he : ∀ x, (enc x).length = sz) {w : World} {H : Nat} {cs : Array Value} {t : TypeId} {x y : α} (h : w.heap[H]? = some (.cells cs t (0, 0))) (hcs : cs.toList = enc x ++ enc y) : At enc sz w (.slice (some ⟨H, 0, none⟩) 2 2) [x, y] := by
  refine ⟨_, 2, H, 0, rfl, fun _ => rfl, Nat.le_refl _, by unfold maxLen; omega, fun k z hk j u hu => ?_⟩
  have hj : j < sz := by have := (List.getElem?_eq_some_iff.1 hu).1; rwa [he] at this
  rw [cell_of_row w _ _ _ _ (0, 0) h, ← Array.getElem?_toList, hcs]
  have hk2 : k < 2 := (List.getElem?_eq_some_iff.1 hk).1
  rcases (show k = 0 ∨ k = 1 by omega) with rfl | rfl
  · obtain rfl : x = z := Option.some.inj hk
    rw [List.getElem?_append_left (by rw [he]; omega)]
    simpa using hu
  · obtain rfl : y = z := Option.some.inj hk
    rw [List.getElem?_append_right (by rw [he]; omega), he]
    rw [show 0 + 1 * sz + j - sz = j by omega]
    exact hu
theorem StoreAt.sev {w : World} {sb mb g : Nat} {s : St} (h : StoreAt w sb mb s) (h1 : g ≠ sb) (h2 : g ≠ mb) (b0 b1 b2 b3 b4 b5 b6 : Value) : StoreAt (sev w g b0 b1 b2 b3 b4 b5 b6) sb mb s :=
  ((((((h.away h1 h2 _).away h1 h2 _).away h1 h2 _).away h1 h2 _).away h1 h2 _).away h1 h2 _).away h1 h2 _
end Go.Proofs.YtpfohfihkmjnaaaGreatDoor
namespace Go.Proofs.YtpfohfihkmjnaaaGreatDoor
open Go.RowKit Go.Maps
end Go.Proofs.YtpfohfihkmjnaaaGreatDoor
namespace Go.Proofs.YtpfohfihkmjnaaaGreatDoor
open Go.RowKit Go.Maps
abbrev snObj (s : Sn) (v : Value) : Obj := .cells #[.int .i64 s.id, .int .i64 s.parent, .int .i64 s.seq, .int .i64 s.day, .int .i64 s.index, S s.op, v] 25
theorem snap_set {W : World} {g : Nat} {a0 a1 a2 a3 a4 a5 v u : Value} {t : TypeId} (h : W.heap[g]? = some (.cells #[a0, a1, a2, a3, a4, a5, v] t (0, 0))) : (W.setCell ⟨g, 6, none⟩ u).heap[g]? = some (.cells #[a0, a1, a2, a3, a4, a5, u] t (0, 0)) :=
  heap_setCell_same W g 6 #[a0, a1, a2, a3, a4, a5, v] t u h
theorem filesAt_snap {W : World} {g : Nat} {a0 a1 a2 a3 a4 : Int} {a5 : Str} {v u : Value} {l : List Fl} {t : TypeId} (h : W.heap[g]? = some (.cells #[.int .i64 a0, .int .i64 a1, .int .i64 a2, .int .i64 a3, .int .i64 a4, S a5, v] t (0, 0))) {av : Option Addr} {nv cv : Nat} (hv : v = .slice av nv cv) (x : Value) (hu : FilesAt W u l) :
    FilesAt (W.setCell ⟨g, 6, none⟩ x) u l := by
  obtain ⟨a, c, b, o, hv', ha, hc, hm, hx⟩ := hu
  refine ⟨a, c, b, o, hv', ha, hc, hm, fun k y hk j z hz => ?_⟩
  have hbA : b ≠ g := by
    rintro rfl
    have c1 := hx k y hk 0 _ rfl
    have c2 := hx k y hk 1 _ rfl
    rw [cell_of_row W _ _ _ _ (0, 0) h] at c1 c2
    rcases Nat.lt_or_ge (o + k * 6) 7 with h' | h'
    · have : o + k * 6 = 0 ∨ o + k * 6 = 1 ∨ o + k * 6 = 2 ∨ o + k * 6 = 3 ∨ o + k * 6 = 4 ∨ o + k * 6 = 5 ∨ o + k * 6 = 6 := by omega
      rcases this with e | e | e | e | e | e | e <;> rw [e] at c1 c2 <;> simp [hv] at c1 c2
    · rw [Array.getElem?_eq_none (by simp; omega)] at c1; cases c1
  rw [World.cell?_setCell_other _ _ _ _ (by intro e; have := congrArg Addr.block e; simp at this; omega)]
  exact hx k y hk j z hz
section
variable {w0 w w1 W : World} {sb mb xb : Nat} {v : Value} {s : St}
theorem Twin.base (h : Twin w1 sb mb xb v s W) (hb : Below w0.heap.size w0 w1) : Twin w0 sb mb xb v s W :=
  { h with
    mdl := ⟨h.mdl.blk, own_base h.mdl.own hb.size, h.mdl.ok⟩
    bel := hb.trans (h.bel.mono hb.size)
    h1 := Nat.le_trans hb.size h.h1
    h2 := Nat.le_trans hb.size h.h2
    h3 := Nat.le_trans hb.size h.h3 }
theorem Twin.away (h : Twin w0 sb mb xb v s W) {g i : Nat} {cs : Array Value} (hg : W.heap[g]? = some (.cells cs 25 (0, 0))) (hge : w0.heap.size ≤ g) (n1 : g ≠ sb) (n2 : g ≠ mb) (n3 : g ≠ xb) (x : Value) : Twin w0 sb mb xb v s (W.setCell ⟨g, i, none⟩ x) :=
  { h with
    sto := h.sto.away n1 n2 x
    mdl := ⟨(set_other n3 x).trans h.mdl.blk, own_but h.mdl.own (own_ne h.mdl.own hg (fun cs hc => by simp at hc)) (own_ne h.mdl.own hg (fun cs hc => by simp at hc)) (But2.set (mb := g) W i x), h.mdl.ok⟩
    bel := h.bel.setCell (p := ⟨g, i, none⟩) hge x }
end
end Go.Proofs.YtpfohfihkmjnaaaGreatDoor
namespace Go.Proofs.YtpfohfihkmjnaaaGreatDoor
open Go.RowKit Go.Maps
/-- Nothing that was there has turned, but rows of type e. -/
def KeptBut (e : TypeId) (w w' : World) : Prop := w.heap.size ≤ w'.heap.size ∧ ∀ (k : Nat) (o : Obj), w.heap[k]? = some o → (∀ cs, o ≠ .cells cs e (0, 0)) → w'.heap[k]? = some o
theorem KeptBut.refl (e : TypeId) (w : World) : KeptBut e w w := ⟨Nat.le_refl _, fun _ _ h _ => h⟩
theorem KeptBut.below {e : TypeId} {w0 w w' : World} (h : KeptBut e w0 w) (hb : Below w.heap.size w w') : KeptBut e w0 w' := ⟨Nat.le_trans h.1 hb.size, fun k o hk ho => rowKept (h.2 k o hk ho) hb⟩
theorem KeptBut.grown {α : Type} {enc : α → List Value} {e : TypeId} {sz B : Nat} {w0 w w' : World} {v : Value} {l : List α} (h : KeptBut e w0 w) (ho : Own enc e sz B w v l) (hg : w.grownBy w' v.ownBlock) : KeptBut e w0 w' :=
  ⟨Nat.le_trans h.1 hg.size, fun k o hk hne => by
    have h1 := h.2 k o hk hne
    exact (hg.block k (Array.getElem?_eq_some_iff.1 h1).1 (fun e1 => own_ne ho h1 hne e1.symm)).trans h1⟩
theorem KeptBut.own {α : Type} {enc : α → List Value} {e e' : TypeId} {sz B : Nat} {w w' : World} {v : Value} {l : List α} (hk : KeptBut e w w') (hne : e' ≠ e) (h : Own enc e' sz B w v l) : Own enc e' sz B w' v l := by
  obtain ⟨h0, h3⟩ := h
  refine ⟨h0, ?_⟩
  rcases h3 with h4 | ⟨g, cap, cur, rfl, hB, hg, rest⟩
  · exact .inl h4
  · exact .inr ⟨g, cap, cur, rfl, hB, hk.2 g _ hg (fun cs hc => by cases hc; exact hne rfl), rest⟩
theorem KeptBut.of {e : TypeId} {w w' : World} (hb : Below w.heap.size w w') : KeptBut e w w' := (KeptBut.refl e w).below hb
/-- A row of the call's own stays, when another one has grown. -/
theorem own_grown {α : Type} {enc : α → List Value} {e : TypeId} {sz B : Nat} {w w' : World} {v : Value} {l : List α} {row : Option Nat} (h : Own enc e sz B w v l) (hg : w.grownBy w' row) (hne : ∀ b, row = some b → v.ownBlock = some b → False) : Own enc e sz B w' v l := by
  obtain ⟨h0, h3⟩ := h
  refine ⟨h0, ?_⟩
  rcases h3 with h4 | ⟨g, cap, cur, rfl, hB, hgk, rest⟩
  · exact .inl h4
  · exact .inr ⟨g, cap, cur, rfl, hB, (hg.block g (Array.getElem?_eq_some_iff.1 hgk).1 (fun e1 => hne g e1.symm rfl)).trans hgk, rest⟩
end Go.Proofs.YtpfohfihkmjnaaaGreatDoor
namespace Go.Proofs.YtpfohfihkmjnaaaGreatDoor
namespace Stb
variable {α : Type}
/-- The order of a stable sort: by lt, and among equals by where they stood. -/
structure Way (lt : α → α → Bool) (ix : α → Nat) : Prop where
  irr : ∀ x, lt x x = false
  tra : ∀ x y z, lt x y = true → lt y z = true → lt x z = true
  ntr : ∀ x y z, lt x y = false → lt y z = false → lt x z = false
def R (lt : α → α → Bool) (ix : α → Nat) (x y : α) : Prop := lt x y = true ∨ (lt y x = false ∧ ix x < ix y)
variable {lt : α → α → Bool} {ix : α → Nat}
theorem Way.asym (h : Way lt ix) {x y : α} (hxy : lt x y = true) : lt y x = false := by
  cases hyx : lt y x with
  | false => rfl
  | true => have := h.tra x y x hxy hyx; rw [h.irr] at this; cases this
theorem Way.le (h : Way lt ix) {x y : α} (hr : R lt ix x y) : lt y x = false := by
  rcases hr with hr | hr
  · exact h.asym hr
  · exact hr.1
theorem Way.le_lt (h : Way lt ix) {x y z : α} (h1 : lt y x = false) (h2 : lt y z = true) : lt x z = true := by
  cases hxz : lt x z with
  | true => rfl
  | false => have := h.ntr y x z h1 hxz; rw [h2] at this; cases this
theorem Way.lt_le (h : Way lt ix) {x y z : α} (h1 : lt x y = true) (h2 : lt z y = false) : lt x z = true := by
  cases hxz : lt x z with
  | true => rfl
  | false => have := h.ntr x z y hxz h2; rw [h1] at this; cases this
/-- From place a to place b the list is in order. -/
def Ord (lt : α → α → Bool) (ix : α → Nat) (l : List α) (a b : Nat) : Prop := ∀ i j x y, a ≤ i → i < j → j < b → l[i]? = some x → l[j]? = some y → R lt ix x y
/-- What lies from a to m stood ahead of what lies from m to b. -/
def Low (ix : α → Nat) (l : List α) (a m b : Nat) : Prop := ∀ i j x y, a ≤ i → i < m → m ≤ j → j < b → l[i]? = some x → l[j]? = some y → ix x < ix y
theorem Ord.sub {l : List α} {a b a' b' : Nat} (h : Ord lt ix l a b) (h1 : a ≤ a') (h2 : b' ≤ b) : Ord lt ix l a' b' := fun i j x y hi hij hj hx hy => h i j x y (by omega) hij (by omega) hx hy
theorem Ord.one {l : List α} {a b : Nat} (h : b ≤ a + 1) : Ord lt ix l a b := fun i j x y hi hij hj _ _ => by omega
/-- Only what lies from a to b has turned. -/
structure Seg (l l' : List α) (a b : Nat) : Prop where
  perm : l'.Perm l
  out : ∀ i, i < a ∨ b ≤ i → l'[i]? = l[i]?
  inn : ∀ i x, a ≤ i → i < b → l'[i]? = some x → ∃ j, a ≤ j ∧ j < b ∧ l[j]? = some x
theorem Seg.refl (l : List α) (a b : Nat) : Seg l l a b := ⟨.refl _, fun _ _ => rfl, fun i _ h1 h2 h3 => ⟨i, h1, h2, h3⟩⟩
theorem Seg.trans {l m n : List α} {a b : Nat} (h : Seg l m a b) (k : Seg m n a b) : Seg l n a b :=
  ⟨k.perm.trans h.perm, fun i hi => (k.out i hi).trans (h.out i hi), fun i x h1 h2 h3 => by
    obtain ⟨j, h4, h5, h6⟩ := k.inn i x h1 h2 h3
    exact h.inn j x h4 h5 h6⟩
theorem Seg.mono {l m : List α} {a b a' b' : Nat} (h : Seg l m a b) (h1 : a' ≤ a) (h2 : b ≤ b') : Seg l m a' b' := by
  refine ⟨h.perm, fun i hi => h.out i (by omega), fun i x h3 h4 h5 => ?_⟩
  by_cases hin : a ≤ i ∧ i < b
  · obtain ⟨j, h6, h7, h8⟩ := h.inn i x hin.1 hin.2 h5
    exact ⟨j, by omega, by omega, h8⟩
  · exact ⟨i, h3, h4, by rw [← h.out i (by omega)]; exact h5⟩
theorem Seg.len {l m : List α} {a b : Nat} (h : Seg l m a b) : m.length = l.length := h.perm.length_eq
theorem Ord.seg {l m : List α} {a b c d : Nat} (h : Ord lt ix l a b) (hs : Seg l m c d) (hd : b ≤ c ∨ d ≤ a) : Ord lt ix m a b := fun i j x y h1 h2 h3 hx hy =>
  h i j x y h1 h2 h3 (by rw [← hs.out i (by omega)]; exact hx) (by rw [← hs.out j (by omega)]; exact hy)
theorem Low.seg {l m : List α} {a p b c d : Nat} (h : Low ix l a p b) (hs : Seg l m c d) (hd : (b ≤ c ∨ d ≤ a) ∨ (a ≤ c ∧ d ≤ p) ∨ (p ≤ c ∧ d ≤ b)) : Low ix m a p b := by
  intro i j x y h1 h2 h3 h4 hx hy
  have hx' : ∃ i', a ≤ i' ∧ i' < p ∧ l[i']? = some x := by
    by_cases hin : c ≤ i ∧ i < d
    · rcases hd with hd | hd | hd
      · omega
      · obtain ⟨i', h5, h6, h7⟩ := hs.inn i x hin.1 hin.2 hx
        exact ⟨i', by omega, by omega, h7⟩
      · omega
    · exact ⟨i, h1, h2, by rw [← hs.out i (by omega)]; exact hx⟩
  have hy' : ∃ j', p ≤ j' ∧ j' < b ∧ l[j']? = some y := by
    by_cases hin : c ≤ j ∧ j < d
    · rcases hd with hd | hd | hd
      · omega
      · omega
      · obtain ⟨j', h5, h6, h7⟩ := hs.inn j y hin.1 hin.2 hy
        exact ⟨j', by omega, by omega, h7⟩
    · exact ⟨j, h3, h4, by rw [← hs.out j (by omega)]; exact hy⟩
  obtain ⟨i', h5, h6, h7⟩ := hx'
  obtain ⟨j', h8, h9, h10⟩ := hy'
  exact h i' j' x y h5 h6 h8 h9 h7 h10
/-- What lies from s to m, and what lies from m to e, change places. -/
def rot (l : List α) (s m e : Nat) : List α := l.take s ++ ((l.drop m).take (e - m) ++ ((l.drop s).take (m - s) ++ l.drop e))
theorem four_parts (l : List α) {s m e : Nat} (h1 : s ≤ m) (h2 : m ≤ e) : l = l.take s ++ ((l.drop s).take (m - s) ++ ((l.drop m).take (e - m) ++ l.drop e)) := by
  have e1 : l.drop m = (l.drop m).take (e - m) ++ l.drop e := by
    have := (List.take_append_drop (e - m) (l.drop m)).symm
    rwa [List.drop_drop, show m + (e - m) = e by omega] at this
  have e2 : l.drop s = (l.drop s).take (m - s) ++ l.drop m := by
    have := (List.take_append_drop (m - s) (l.drop s)).symm
    rwa [List.drop_drop, show s + (m - s) = m by omega] at this
  rw [← e1, ← e2, List.take_append_drop]
theorem rot_perm (l : List α) {s m e : Nat} (h1 : s ≤ m) (h2 : m ≤ e) : (rot l s m e).Perm l := by
  conv => rhs; rw [four_parts l h1 h2]
  unfold rot
  refine List.Perm.append_left _ ?_
  rw [← List.append_assoc, ← List.append_assoc]
  exact (List.perm_append_comm).append_right _
theorem rot_get (l : List α) {s m e : Nat} (h1 : s ≤ m) (h2 : m ≤ e) (h3 : e ≤ l.length) (i : Nat) :
    (rot l s m e)[i]? = if i < s then l[i]? else if i < s + (e - m) then l[m + (i - s)]? else if i < e then l[s + (i - (s + (e - m)))]? else l[i]? := by
  unfold rot
  by_cases c1 : i < s
  · rw [if_pos c1, List.getElem?_append_left (by rw [List.length_take]; omega), List.getElem?_take_of_lt c1]
  rw [if_neg c1, List.getElem?_append_right (by rw [List.length_take]; omega), List.length_take, Nat.min_eq_left (by omega)]
  by_cases c2 : i < s + (e - m)
  · rw [if_pos c2, List.getElem?_append_left (by rw [List.length_take, List.length_drop]; omega), List.getElem?_take_of_lt (by omega), List.getElem?_drop]
  rw [if_neg c2, List.getElem?_append_right (by rw [List.length_take, List.length_drop]; omega), List.length_take, List.length_drop, Nat.min_eq_left (by omega)]
  by_cases c3 : i < e
  · rw [if_pos c3, List.getElem?_append_left (by rw [List.length_take, List.length_drop]; omega), List.getElem?_take_of_lt (by omega), List.getElem?_drop]
    congr 1
    omega
  · rw [if_neg c3, List.getElem?_append_right (by rw [List.length_take, List.length_drop]; omega), List.length_take, List.length_drop, Nat.min_eq_left (by omega), List.getElem?_drop]
    congr 1
    omega
theorem rot_left (l : List α) {s m : Nat} (h : s ≤ m) (hl : m ≤ l.length) : rot l s m m = l := by
  apply List.ext_getElem?
  intro i
  rw [rot_get l h (Nat.le_refl _) hl]
  split
  · rfl
  · split
    · omega
    · split
      · congr 1; omega
      · rfl
theorem rot_right (l : List α) {m e : Nat} (h : m ≤ e) (hl : e ≤ l.length) : rot l m m e = l := by
  apply List.ext_getElem?
  intro i
  rw [rot_get l (Nat.le_refl _) h hl]
  split
  · rfl
  · split
    · congr 1; omega
    · split
      · omega
      · rfl
theorem rot_seg (l : List α) {s m e a b : Nat} (h1 : s ≤ m) (h2 : m ≤ e) (h3 : e ≤ l.length) (ha : a ≤ s) (hb : e ≤ b) : Seg l (rot l s m e) a b := by
  refine Seg.mono (a := s) (b := e) ⟨rot_perm l h1 h2, fun i hi => ?_, fun i x hi1 hi2 hx => ?_⟩ ha hb
  · rw [rot_get l h1 h2 h3]
    rcases hi with hi | hi
    · rw [if_pos hi]
    · rw [if_neg (by omega), if_neg (by omega), if_neg (by omega)]
  · rw [rot_get l h1 h2 h3, if_neg (by omega)] at hx
    split at hx
    · exact ⟨_, by omega, by omega, hx⟩
    · exact ⟨_, by omega, by omega, hx⟩
/-- One element ahead is placed among those behind it. -/
theorem one_ahead (_hw : Way lt ix) {l : List α} {a b i : Nat} {x : α} (hb : b ≤ l.length) (hx : l[a]? = some x) (ho : Ord lt ix l (a + 1) b) (hlo : Low ix l a (a + 1) b) (hi1 : a + 1 ≤ i) (hi2 : i ≤ b)
    (h1 : ∀ k y, a + 1 ≤ k → k < i → l[k]? = some y → lt y x = true) (h2 : ∀ k y, i ≤ k → k < b → l[k]? = some y → lt y x = false) : Seg l (rot l a (a + 1) i) a b ∧ Ord lt ix (rot l a (a + 1) i) a b := by
  refine ⟨rot_seg l (by omega) hi1 (by omega) (Nat.le_refl _) hi2, fun p q u v hp hpq hq hu hv => ?_⟩
  rw [rot_get l (by omega) hi1 (by omega), if_neg (by omega)] at hu hv
  by_cases c1 : p < a + (i - (a + 1))
  · rw [if_pos c1] at hu
    by_cases c2 : q < a + (i - (a + 1))
    · rw [if_pos c2] at hv
      exact ho _ _ u v (by omega) (by omega) (by omega) hu hv
    · rw [if_neg c2] at hv
      by_cases c3 : q < i
      · rw [if_pos c3, show a + (q - (a + (i - (a + 1)))) = a by omega, hx] at hv
        obtain rfl : x = v := Option.some.inj hv
        exact .inl (h1 _ u (by omega) (by omega) hu)
      · rw [if_neg c3] at hv
        exact ho _ _ u v (by omega) (by omega) (by omega) hu hv
  · rw [if_neg c1] at hu
    rw [if_neg (by omega)] at hv
    by_cases c3 : p < i
    · rw [if_pos c3, show a + (p - (a + (i - (a + 1)))) = a by omega, hx] at hu
      obtain rfl : x = u := Option.some.inj hu
      rw [if_neg (by omega)] at hv
      exact .inr ⟨h2 q v (by omega) hq hv, hlo a q x v (by omega) (by omega) (by omega) hq hx hv⟩
    · rw [if_neg c3] at hu
      rw [if_neg (by omega)] at hv
      exact ho _ _ u v (by omega) hpq hq hu hv
/-- One element behind is placed among those ahead of it. -/
theorem one_behind (_hw : Way lt ix) {l : List α} {a m i : Nat} {x : α} (hb : m + 1 ≤ l.length) (hx : l[m]? = some x) (ho : Ord lt ix l a m) (hlo : Low ix l a m (m + 1)) (hi1 : a ≤ i) (hi2 : i ≤ m)
    (h1 : ∀ k y, a ≤ k → k < i → l[k]? = some y → lt x y = false) (h2 : ∀ k y, i ≤ k → k < m → l[k]? = some y → lt x y = true) : Seg l (rot l i m (m + 1)) a (m + 1) ∧ Ord lt ix (rot l i m (m + 1)) a (m + 1) := by
  refine ⟨rot_seg l hi2 (by omega) hb hi1 (Nat.le_refl _), fun p q u v hp hpq hq hu hv => ?_⟩
  rw [rot_get l hi2 (by omega) hb] at hu hv
  by_cases c1 : q < i
  · rw [if_pos c1] at hv
    rw [if_pos (by omega)] at hu
    exact ho p q u v hp hpq (by omega) hu hv
  rw [if_neg c1] at hv
  by_cases c2 : q < i + (m + 1 - m)
  · rw [if_pos c2, show m + (q - i) = m by omega, hx] at hv
    obtain rfl : x = v := Option.some.inj hv
    rw [if_pos (by omega)] at hu
    exact .inr ⟨h1 p u hp (by omega) hu, hlo p m u x hp (by omega) (by omega) (by omega) hu hx⟩
  rw [if_neg c2, if_pos hq] at hv
  by_cases c3 : p < i
  · rw [if_pos c3] at hu
    exact ho p _ u v hp (by omega) (by omega) hu hv
  rw [if_neg c3] at hu
  by_cases c4 : p < i + (m + 1 - m)
  · rw [if_pos c4, show m + (p - i) = m by omega, hx] at hu
    obtain rfl : x = u := Option.some.inj hu
    exact .inl (h2 _ v (by omega) (by omega) hv)
  rw [if_neg c4, if_pos (by omega)] at hu
  exact ho _ _ u v (by omega) (by omega) (by omega) hu hv
/-- Where both parts are cut: what is ahead of the middle then comes ahead of what is behind it. -/
structure Cut (lt : α → α → Bool) (l : List α) (a m b s e mid : Nat) : Prop where
  alo : a ≤ s
  sm : s ≤ m
  me : m ≤ e
  eb : e ≤ b
  bl : b ≤ l.length
  mid : s + e = mid + m
  c1 : ∀ x y, a < s → e < b → l[s - 1]? = some x → l[e]? = some y → lt y x = false
  c2 : ∀ x y, s < m → m < e → l[s]? = some x → l[e - 1]? = some y → lt y x = true
theorem Cut.parts (hw : Way lt ix) {l : List α} {a m b s e mid : Nat} (c : Cut lt l a m b s e mid) (h1 : Ord lt ix l a m) (h2 : Ord lt ix l m b) (hlo : Low ix l a m b) :
    (∀ i j x y, a ≤ i → i < mid → mid ≤ j → j < b → (rot l s m e)[i]? = some x → (rot l s m e)[j]? = some y → R lt ix x y) ∧
    Ord lt ix (rot l s m e) a s ∧ Ord lt ix (rot l s m e) s mid ∧ Low ix (rot l s m e) a s mid ∧ Ord lt ix (rot l s m e) mid e ∧ Ord lt ix (rot l s m e) e b ∧ Low ix (rot l s m e) mid e b := by
  have g := rot_get l c.sm c.me (Nat.le_trans c.eb c.bl)
  have hmid : s + (e - m) = mid := by have := c.mid; have := c.me; omega
  rw [hmid] at g
  have hms : s ≤ mid := by omega
  have hme : mid ≤ e := by have := c.sm; have := c.me; omega
  have bnd := c.alo; have := c.sm; have := c.me; have := c.eb; have := c.bl
  have le_last : ∀ i x y, a ≤ i → i < s → l[i]? = some x → l[s - 1]? = some y → lt y x = false := fun i x y hi1 hi2 hx hy => by
    rcases Nat.lt_or_ge i (s - 1) with h | h
    · exact hw.le (h1 i (s - 1) x y hi1 h (by omega) hx hy)
    · obtain rfl : i = s - 1 := by omega
      rw [hx] at hy; cases hy
      exact hw.irr _
  have first_le : ∀ j x y, e ≤ j → j < b → l[e]? = some x → l[j]? = some y → lt y x = false := fun j x y hj1 hj2 hx hy => by
    rcases Nat.lt_or_ge e j with h | h
    · exact hw.le (h2 e j x y (by omega) h hj2 hx hy)
    · obtain rfl : j = e := by omega
      rw [hx] at hy; cases hy
      exact hw.irr _
  have a1b2 : ∀ i j x y, a ≤ i → i < s → e ≤ j → j < b → l[i]? = some x → l[j]? = some y → R lt ix x y := fun i j x y hi1 hi2 hj1 hj2 hx hy => by
    obtain ⟨u, hu⟩ : ∃ u, l[s - 1]? = some u := ⟨l[s - 1], List.getElem?_eq_getElem (by omega)⟩
    obtain ⟨v, hv⟩ : ∃ v, l[e]? = some v := ⟨l[e], List.getElem?_eq_getElem (by omega)⟩
    have k1 := le_last i x u hi1 hi2 hx hu
    have k2 := c.c1 u v (by omega) (by omega) hu hv
    have k3 := first_le j v y hj1 hj2 hv hy
    exact .inr ⟨hw.ntr y v x k3 (hw.ntr v u x k2 k1), hlo i j x y hi1 (by omega) (by omega) hj2 hx hy⟩
  have b1a2 : ∀ i j x y, m ≤ i → i < e → s ≤ j → j < m → l[i]? = some x → l[j]? = some y → R lt ix x y := fun i j x y hi1 hi2 hj1 hj2 hx hy => by
    obtain ⟨u, hu⟩ : ∃ u, l[e - 1]? = some u := ⟨l[e - 1], List.getElem?_eq_getElem (by omega)⟩
    obtain ⟨v, hv⟩ : ∃ v, l[s]? = some v := ⟨l[s], List.getElem?_eq_getElem (by omega)⟩
    have k2 := c.c2 v u (by omega) (by omega) hv hu
    have k1 : lt u x = false := by
      rcases Nat.lt_or_ge i (e - 1) with h | h
      · exact hw.le (h2 i (e - 1) x u hi1 h (by omega) hx hu)
      · obtain rfl : i = e - 1 := by omega
        rw [hx] at hu; cases hu
        exact hw.irr _
    have k3 : lt y v = false := by
      rcases Nat.lt_or_ge s j with h | h
      · exact hw.le (h1 s j v y (by omega) h hj2 hv hy)
      · obtain rfl : j = s := by omega
        rw [hv] at hy; cases hy
        exact hw.irr _
    exact .inl (hw.lt_le (hw.le_lt k1 k2) k3)
  refine ⟨fun i j x y hi1 hi2 hj1 hj2 hx hy => ?_, fun i j x y hi1 hij hj hx hy => ?_, fun i j x y hi1 hij hj hx hy => ?_, fun i j x y hi1 hi2 hj1 hj2 hx hy => ?_, fun i j x y hi1 hij hj hx hy => ?_, fun i j x y hi1 hij hj hx hy => ?_, fun i j x y hi1 hi2 hj1 hj2 hx hy => ?_⟩
  · rw [g] at hx hy
    rw [if_neg (show ¬ j < s by omega), if_neg (show ¬ j < mid by omega)] at hy
    by_cases k1 : i < s
    · rw [if_pos k1] at hx
      by_cases k2 : j < e
      · rw [if_pos k2] at hy
        exact h1 i _ x y hi1 (by omega) (by omega) hx hy
      · rw [if_neg k2] at hy
        exact a1b2 i j x y hi1 k1 (by omega) hj2 hx hy
    · rw [if_neg k1, if_pos hi2] at hx
      by_cases k2 : j < e
      · rw [if_pos k2] at hy
        exact b1a2 _ _ x y (by omega) (by omega) (by omega) (by omega) hx hy
      · rw [if_neg k2] at hy
        exact h2 _ j x y (by omega) (by omega) hj2 hx hy
  · rw [g, if_pos (show i < s by omega)] at hx
    rw [g, if_pos (show j < s by omega)] at hy
    exact h1 i j x y hi1 hij (by omega) hx hy
  · rw [g, if_neg (show ¬ i < s by omega), if_pos (show i < mid by omega)] at hx
    rw [g, if_neg (show ¬ j < s by omega), if_pos (show j < mid by omega)] at hy
    exact h2 _ _ x y (by omega) (by omega) (by omega) hx hy
  · rw [g, if_pos hi2] at hx
    rw [g, if_neg (show ¬ j < s by omega), if_pos hj2] at hy
    exact hlo _ _ x y hi1 (by omega) (by omega) (by omega) hx hy
  · rw [g, if_neg (show ¬ i < s by omega), if_neg (show ¬ i < mid by omega), if_pos (show i < e by omega)] at hx
    rw [g, if_neg (show ¬ j < s by omega), if_neg (show ¬ j < mid by omega), if_pos hj] at hy
    exact h1 _ _ x y (by omega) (by omega) (by omega) hx hy
  · rw [g, if_neg (show ¬ i < s by omega), if_neg (show ¬ i < mid by omega), if_neg (show ¬ i < e by omega)] at hx
    rw [g, if_neg (show ¬ j < s by omega), if_neg (show ¬ j < mid by omega), if_neg (show ¬ j < e by omega)] at hy
    exact h2 _ _ x y (by omega) hij hj hx hy
  · rw [g, if_neg (show ¬ i < s by omega), if_neg (show ¬ i < mid by omega), if_pos hi2] at hx
    rw [g, if_neg (show ¬ j < s by omega), if_neg (show ¬ j < mid by omega), if_neg (show ¬ j < e by omega)] at hy
    exact hlo _ _ x y (by omega) (by omega) (by omega) hj2 hx hy
/-- Both halves put in order: the whole is. -/
theorem whole {l l1 l2 l3 : List α} {a mid b : Nat} (hx : ∀ i j x y, a ≤ i → i < mid → mid ≤ j → j < b → l1[i]? = some x → l1[j]? = some y → R lt ix x y) (ham : a ≤ mid) (hmb : mid ≤ b)
    (s1 : Seg l l1 a b) (s2 : Seg l1 l2 a mid) (o2 : Ord lt ix l2 a mid) (s3 : Seg l2 l3 mid b) (o3 : Ord lt ix l3 mid b) : Seg l l3 a b ∧ Ord lt ix l3 a b := by
  refine ⟨s1.trans ((s2.mono (Nat.le_refl _) hmb).trans (s3.mono ham (Nat.le_refl _))), fun i j x y h1 h2 h3 hxi hyj => ?_⟩
  by_cases k1 : j < mid
  · exact o2 i j x y h1 h2 k1 (by rw [← s3.out i (by omega)]; exact hxi) (by rw [← s3.out j (by omega)]; exact hyj)
  by_cases k2 : mid ≤ i
  · exact o3 i j x y k2 h2 h3 hxi hyj
  rw [s3.out i (by omega)] at hxi
  obtain ⟨i', p1, p2, p3⟩ := s2.inn i x h1 (by omega) hxi
  obtain ⟨j', q1, q2, q3⟩ := s3.inn j y (by omega) h3 hyj
  rw [s2.out j' (by omega)] at q3
  exact hx i' j' x y p1 p2 q1 q2 p3 q3
/-- Two parts of one length change places: what swapRange does. -/
theorem Ord.le_of (hw : Way lt ix) {l : List α} {a b : Nat} (h : Ord lt ix l a b) {i j : Nat} {x y : α} (h1 : a ≤ i) (h2 : i < j) (h3 : j < b) (hx : l[i]? = some x) (hy : l[j]? = some y) : lt y x = false := hw.le (h i j x y h1 h2 h3 hx hy)
end Stb
end Go.Proofs.YtpfohfihkmjnaaaGreatDoor
