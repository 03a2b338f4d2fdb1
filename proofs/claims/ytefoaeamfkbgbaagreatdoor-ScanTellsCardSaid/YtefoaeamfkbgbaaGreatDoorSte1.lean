/- scan.Count, scan.Find: the walks. A table beside a snap that is written. The document's rows of a snap, step by step: plain. deedboxref2.SnapFault: the walk. -/
import Derived.Test.YtefoaeamfkbgbaaGreatDoorP24
import Derived.Test.YtefoaeamfkbgbaaGreatDoorP14
import Derived.Test.YtefoaeamfkbgbaaGreatDoorP22
import Derived.Test.YtefoaeamfkbgbaaGreatDoorP19
import Derived.Test.YtefoaeamfkbgbaaGreatDoorP17
import Derived.Test.YtefoaeamfkbgbaaGreatDoorP18
import Derived.Test.YtefoaeamfkbgbaaGreatDoorP16
namespace Go.Proofs.YtefoaeamfkbgbaaGreatDoor
open Go.RowKit Go.Maps
set_option maxRecDepth 20000 in
theorem scanCount_any (E : Nat → Addr) (B : Nat) (sb mb : Nat) (st : St) (s : Sn) (v : Value) (w : World) (hE : Errs [1, 2, 3, 4, 5, 6, 8, 9, 10] E B w) (hT : LNum B w) (hM : LMax B w) (h : StoreAt w sb mb st) (hx : ∀ o ∈ st.objs, o.text.length ≤ 10000)
    (hl : FilesAt w v s.files) (hs : ∀ x ∈ s.files, midF x) :
    Calls Tryz.prog 19 #[stP sb, snapV s v] w fun e w' => ∃ ev, e = .returned (.tuple #[.int .i64 ((rowsL st.objs s iMin iMax).length : Int), ev]) ∧ ErV E w' ev (rowsE st.objs s iMin iMax) ∧ Below w.heap.size w w' := by
  have hBw := hE.le
  obtain ⟨n, hn⟩ : ∃ n : Nat, (rowsL st.objs s iMin iMax).length = n := ⟨_, rfl⟩
  rw [hn]
  have HN := Lib.hid hn
  clear hn
  obtain ⟨a, c, rfl, -, -⟩ := At.form' hl
  have hba : Below w.heap.size w (w.alloc (.cells #[.int .i64 s.id, .int .i64 s.parent, .int .i64 s.seq, .int .i64 s.day, .int .i64 s.index, S s.op, .slice a s.files.length c] 25)) := (Below.refl _ _).alloc (Nat.le_refl _) _
  have HRo := Lib.hid (scanRows_any E B sb mb st s _ iMin iMax _ (hE.below' hba hBw) (hT.below' hba hBw) (hM.below' hba hBw) (h.below hba) hx (hl.below hba) hs)
  clear hE hT hM h hx hl hs
  go_enter Tryz.func19, Tryz.ntmps19
  go_wp2_with fail
  refine HRo.out.mono ?_
  rintro e w1 ⟨u, ev, rfl, hev, hu, hb1⟩
  obtain ⟨au, cu, rfl, -, -⟩ := At.form' hu
  rw [HN.out]
  have HEv := Lib.hid hev
  clear hu hev
  go_wp2_with fail
  go_ret2
  exact ⟨_, rfl, HEv.out, hba.trans (hb1.mono hba.size)⟩
/-- The values of rows, rising. -/
def valsR (l : List Rw) : List Int := sortI (l.map (·.val))
end Go.Proofs.YtefoaeamfkbgbaaGreatDoor
namespace Go.Proofs.YtefoaeamfkbgbaaGreatDoor
open Go.RowKit Go.Maps
theorem snap_set {W : World} {g : Nat} {a0 a1 a2 a3 a4 a5 v u : Value} {t : TypeId} (h : W.heap[g]? = some (.cells #[a0, a1, a2, a3, a4, a5, v] t (0, 0))) : (W.setCell ⟨g, 6, none⟩ u).heap[g]? = some (.cells #[a0, a1, a2, a3, a4, a5, u] t (0, 0)) :=
  heap_setCell_same W g 6 #[a0, a1, a2, a3, a4, a5, v] t u h
theorem filesAt_snap {W : World} {g : Nat} {a0 a1 a2 a3 a4 : Int} {a5 : Str} {v u : Value} {l : List Fl} {t : TypeId} (h : W.heap[g]? = some (.cells #[.int .i64 a0, .int .i64 a1, .int .i64 a2, .int .i64 a3, .int .i64 a4, S a5, v] t (0, 0))) {av : Option Addr} {nv cv : Nat} (hv : v = .slice av nv cv) (x : Value) (hu : FilesAt W u l) :
    FilesAt (W.setCell ⟨g, 6, none⟩ x) u l := by
  obtain ⟨a, c, b, o, hv', ha, hc, hm, hx⟩ := hu
  refine ⟨a, c, b, o, hv', ha, hc, hm, fun k y hk j z hz => ?_⟩
  have hbA : b ≠ g := by
    rintro rfl
    have c1 := hx k y hk 0 _ rfl
    have c2 := hx k y hk 1 _ rfl
    rw [cell_of_row W _ _ _ _ (0, 0) h] at c1 c2
    rcases Nat.lt_or_ge (o + k * 6) 7 with h' | h'
    · have : o + k * 6 = 0 ∨ o + k * 6 = 1 ∨ o + k * 6 = 2 ∨ o + k * 6 = 3 ∨ o + k * 6 = 4 ∨ o + k * 6 = 5 ∨ o + k * 6 = 6 := by omega
      rcases this with e | e | e | e | e | e | e <;> rw [e] at c1 c2 <;> simp [hv] at c1 c2
    · rw [Array.getElem?_eq_none (by simp; omega)] at c1; cases c1
  rw [World.cell?_setCell_other _ _ _ _ (by intro e; have := congrArg Addr.block e; simp at this; omega)]
  exact hx k y hk j z hz
section
variable {w0 w w1 W : World} {sb mb xb : Nat} {v : Value} {s : St}
theorem Twin.base (h : Twin w1 sb mb xb v s W) (hb : Below w0.heap.size w0 w1) : Twin w0 sb mb xb v s W :=
  { h with
    mdl := ⟨h.mdl.blk, own_base h.mdl.own hb.size, h.mdl.ok⟩
    bel := hb.trans (h.bel.mono hb.size)
    h1 := Nat.le_trans hb.size h.h1
    h2 := Nat.le_trans hb.size h.h2
    h3 := Nat.le_trans hb.size h.h3 }
theorem Twin.away (h : Twin w0 sb mb xb v s W) {g i : Nat} {cs : Array Value} (hg : W.heap[g]? = some (.cells cs 25 (0, 0))) (hge : w0.heap.size ≤ g) (n1 : g ≠ sb) (n2 : g ≠ mb) (n3 : g ≠ xb) (x : Value) : Twin w0 sb mb xb v s (W.setCell ⟨g, i, none⟩ x) :=
  { h with
    sto := h.sto.away n1 n2 x
    mdl := ⟨(set_other n3 x).trans h.mdl.blk, own_but h.mdl.own (own_ne h.mdl.own hg (fun cs hc => by simp at hc)) (own_ne h.mdl.own hg (fun cs hc => by simp at hc)) (But2.set (mb := g) W i x), h.mdl.ok⟩
    bel := h.bel.setCell (p := ⟨g, i, none⟩) hge x }
end
/-- The files that a scan is asked for. -/
def asked (s : Sn) (l : List Fl) : Sn := if s.files = [] then { s with files := l } else s
theorem asked_mid {s : Sn} {l : List Fl} (h1 : ∀ x ∈ s.files, midF x) (h2 : ∀ x ∈ l, midF x) : ∀ x ∈ (asked s l).files, midF x := by
  unfold asked
  split
  · exact h2
  · exact h1
end Go.Proofs.YtefoaeamfkbgbaaGreatDoor
namespace Go.Proofs.YtefoaeamfkbgbaaGreatDoor
open Go.RowKit
theorem goOn_snoc (os : List Ob) (lo hi : Int) (l : List Fl) (f : Fl) (acc : List (Rw × Int)) : goOn os lo hi (l ++ [f]) acc = stepO os lo hi (goOn os lo hi l acc) f := by
  unfold goOn
  rw [List.foldl_append]
  rfl
theorem goOn_next {os : List Ob} {lo hi : Int} {l : List Fl} {k : Nat} {f : Fl} (h : l[k]? = some f) : goOn os lo hi (l.take (k + 1)) [] = stepO os lo hi (goOn os lo hi (l.take k) []) f := by
  rw [take_snoc' h, goOn_snoc]
theorem dataL_40 (t : Str) : (dataL t).length ≤ 40 := by
  unfold dataL
  split
  · rename_i hE
    obtain ⟨-, -, -, -, e5⟩ := readEr_text hE
    unfold keysR at e5
    rwa [List.length_map] at e5
  · simp
theorem withinR_len (l : List Rw) (lo hi : Int) : (withinR l lo hi).length ≤ l.length := List.length_filter_le _ _
theorem stepO_len (os : List Ob) (lo hi : Int) (acc : List (Rw × Int)) (f : Fl) : (stepO os lo hi acc f).length ≤ acc.length + 40 := by
  unfold stepO
  split
  · omega
  split
  · have := List.length_filter_le (fun x : Rw × Int => !(decide (x.1.key ∈ goneL (textO os f.path)) && decide (x.2 < f.seq))) acc
    omega
  · rw [List.length_append, List.length_map]
    have h1 := withinR_len (dataL (textO os f.path)) lo hi
    have h2 := dataL_40 (textO os f.path)
    omega
theorem goOn_len (os : List Ob) (lo hi : Int) : ∀ (l : List Fl) (acc : List (Rw × Int)), (goOn os lo hi l acc).length ≤ acc.length + l.length * 40
  | [], acc => by show acc.length ≤ _; omega
  | f :: l, acc => by
    have h1 := goOn_len os lo hi l (stepO os lo hi acc f)
    have h2 := stepO_len os lo hi acc f
    show (goOn os lo hi l (stepO os lo hi acc f)).length ≤ _
    rw [List.length_cons]
    omega
theorem stepO_idle {os : List Ob} {lo hi : Int} {acc : List (Rw × Int)} {f : Fl} (h : pruneP lo hi f = true) : stepO os lo hi acc f = acc := if_pos h
theorem stepO_gone {os : List Ob} {lo hi : Int} {acc : List (Rw × Int)} {f : Fl} (h : pruneP lo hi f = false) (hg : isG f = true) : stepO os lo hi acc f = acc.filter fun x => !(decide (x.1.key ∈ goneL (textO os f.path)) && decide (x.2 < f.seq)) := by
  unfold stepO
  rw [if_neg (by rw [h]; decide), if_pos hg]
theorem stepO_data {os : List Ob} {lo hi : Int} {acc : List (Rw × Int)} {f : Fl} (h : pruneP lo hi f = false) (hg : isG f = false) : stepO os lo hi acc f = acc ++ (withinR (dataL (textO os f.path)) lo hi).map fun r => (r, f.seq) := by
  unfold stepO
  rw [if_neg (by rw [h]; decide), if_neg (by rw [hg]; decide)]
theorem prune_one (lo hi : Int) (f : Fl) : pruneL [f] lo hi = if pruneP lo hi f = true then [] else [f] := by
  unfold pruneL
  cases h : pruneP lo hi f <;> simp [h]
/-- What is told, when file k cannot be read. -/
theorem rowsE_hit {os : List Ob} {s : Sn} {lo hi : Int} {k : Nat} (hc : snapCheck s = .nil) (hk : k < s.files.length) (hj : ∀ j < k, scanF os lo hi s.files j = 0) (h : scanF os lo hi s.files k ≠ 0) : rowsE os s lo hi = .loc (scanF os lo hi s.files k) k := by
  unfold rowsE
  rw [if_neg (by rw [hc]; simp)]
  exact firstErr_hit hk hj h
theorem rowsE_all {os : List Ob} {s : Sn} {lo hi : Int} (hc : snapCheck s = .nil) (hj : ∀ j < s.files.length, scanF os lo hi s.files j = 0) : rowsE os s lo hi = .nil := by
  unfold rowsE
  rw [if_neg (by rw [hc]; simp)]
  exact firstErr_all hj
theorem rowsL_bad {os : List Ob} {s : Sn} {lo hi : Int} (h : rowsE os s lo hi ≠ .nil) : rowsL os s lo hi = [] := if_neg h
theorem rowsL_good {os : List Ob} {s : Sn} {lo hi : Int} (h : rowsE os s lo hi = .nil) : rowsL os s lo hi = sortR ((goOn os lo hi s.files []).map (·.1)) := by
  rw [goOn_rows (rowsE_nil h).1.lst]
  exact if_pos h
theorem scanF_at {os : List Ob} {lo hi : Int} {files : List Fl} {k : Nat} {f : Fl} (h : files[k]? = some f) : scanF os lo hi files k = if pruneP lo hi f = true then 0 else fileE os f := by
  unfold scanF
  rw [h]
/-- A file's error, in the walk's order. -/
theorem fileE_lack {os : List Ob} {f : Fl} (h : (getO os f.path).isSome = false) : fileE os f = 6 := by
  unfold fileE
  rw [if_pos]
  cases hg : getO os f.path with
  | none => rfl
  | some o => rw [hg] at h; cases h
theorem fileE_text {os : List Ob} {f x : Fl} {c : Nat} (h : (getO os f.path).isSome = true) (h2 : ofText f.path f.part (textO os f.path) f.seq = (x, c)) : fileE os f = if c ≠ 0 then c else if x ≠ f then 3 else 0 := by
  unfold fileE
  rw [if_neg, h2]
  cases hg : getO os f.path with
  | none => rw [hg] at h; cases h
  | some o => simp
end Go.Proofs.YtefoaeamfkbgbaaGreatDoor
namespace Go.Proofs.YtefoaeamfkbgbaaGreatDoor
open Go.RowKit
theorem listCheck_code' {l : List Fl} (h : listCheck l ≠ .nil) : 0 < (listCheck l).code := by
  unfold listCheck at h ⊢
  split
  · decide
  · rename_i h0
    rw [if_neg h0] at h
    exact firstFrom_code h
theorem fault_ways (s : Sn) : (snapBound s = true ∧ (s.id < 1 ∨ (decide (s.id < 1) = false ∧ (1073741824 < s.id ∨ (decide (1073741824 < s.id) = false ∧ (s.parent < 0 ∨ (decide (s.parent < 0) = false ∧ (s.id ≤ s.parent ∨ (decide (s.id ≤ s.parent) = false ∧ (s.seq < 0 ∨ (decide (s.seq < 0) = false ∧ (1073741824 < s.seq ∨ (decide (1073741824 < s.seq) = false ∧ (s.day < 0 ∨ (decide (s.day < 0) = false ∧ (100000 < s.day ∨ (decide (100000 < s.day) = false ∧ (s.index < 0 ∨ (decide (s.index < 0) = false ∧ 1073741824 < s.index))))))))))))))))))) ∨ (snapBound s = false ∧ decide (s.id < 1) = false ∧ decide (1073741824 < s.id) = false ∧ decide (s.parent < 0) = false ∧ decide (s.id ≤ s.parent) = false ∧ decide (s.seq < 0) = false ∧ decide (1073741824 < s.seq) = false ∧ decide (s.day < 0) = false ∧ decide (100000 < s.day) = false ∧ decide (s.index < 0) = false ∧ decide (1073741824 < s.index) = false) := by
  unfold snapBound inB
  simp only [Bool.or_eq_true, Bool.or_eq_false_iff, Bool.not_eq_true', Bool.not_eq_false', Bool.and_eq_true, Bool.and_eq_false_iff, decide_eq_true_eq, decide_eq_false_iff_not]
  omega
set_option maxHeartbeats 2000000 in
set_option maxRecDepth 20000 in
theorem snapFault_any (s : Sn) (v : Value) (w : World) (hl : FilesAt w v s.files) (hs : ∀ x ∈ s.files, midF x) :
    Calls Tryz.prog 64 #[snapV s v] w fun e w' => e = .returned (faultOf (snapCheck s)) ∧ Below w.heap.size w w' := by
  have hSC : snapCheck s = if snapBound s = true then .bare 2 else if s.op ∉ kOps then .bare 4 else if listCheck s.files ≠ .nil then listCheck s.files else firstErr (seqFault s) s.files.length := rfl
  have HSC := Lib.hid hSC; clear hSC
  have Hs := Lib.hid hs; clear hs
  obtain ⟨w0, hw0⟩ : ∃ w0, w0 = w.alloc (.cells #[.int .i64 s.id, .int .i64 s.parent, .int .i64 s.seq, .int .i64 s.day, .int .i64 s.index, S s.op, v] 25) := ⟨_, rfl⟩
  obtain ⟨w1, hw1⟩ : ∃ w1, w1 = w0.alloc (.cells #[.int .i64 0, .int .i64 0] 58) := ⟨_, rfl⟩
  have hz0 : w0.heap.size = w.heap.size + 1 := by rw [hw0]; simp
  have hz1 : w1.heap.size = w.heap.size + 2 := by rw [hw1]; simp [hz0]
  have hb01 : Below w0.heap.size w0 w1 := hw1 ▸ (Below.refl _ _).alloc (Nat.le_refl _) _
  have hb0 : Below w.heap.size w w0 := hw0 ▸ (Below.refl _ _).alloc (Nat.le_refl _) _
  have hb1 := hb0.trans (hb01.mono hb0.size)
  have CS := Lib.hid (fun w6 (h : Below w1.heap.size w1 w6) => snapCells (s := s) (v := v) (t := 25) (w := w) (w6 := w6) (by rw [← hw0]; exact hb01.trans (h.mono hb01.size)))
  have hG := fun W (h : Below w1.heap.size w1 W) => ((h.block (w.heap.size + 1) (by omega)).trans (by rw [hw1, ← hz0]; exact heap_alloc_new w0 _) : W.heap[w.heap.size + 1]? = some (.cells #[.int .i64 0, .int .i64 0] 58 (0, 0)))
  have HG := Lib.hid hG; clear hG
  have HZ := Lib.hid hz1
  have HW : Hid (w1 = (w.alloc (.cells #[.int .i64 s.id, .int .i64 s.parent, .int .i64 s.seq, .int .i64 s.day, .int .i64 s.index, S s.op, v] 25)).alloc (.cells #[.int .i64 0, .int .i64 0] 58)) := Lib.hid (by rw [hw1, hw0])
  clear hz0 hz1 hw1 hw0 hb0 hb01
  obtain ⟨c0, c1, c2, c3, c4, c5, c6⟩ := CS.out _ (Below.refl _ _)
  obtain ⟨a, c, rfl, -, -⟩ := At.form' hl
  go_enter Tryz.func64, Tryz.ntmps64
  go_upto_region 1 with fail
  rw [← HW.out]
  rcases fault_ways s with ⟨hbd, g1 | ⟨g1, g2 | ⟨g2, g3 | ⟨g3, g4 | ⟨g4, g5 | ⟨g5, g6 | ⟨g6, g7 | ⟨g7, g8 | ⟨g8, g9 | ⟨g9, g10⟩⟩⟩⟩⟩⟩⟩⟩⟩⟩ | ⟨hbd, g1, g2, g3, g4, g5, g6, g7, g8, g9, g10⟩
  · have HC : Hid (snapCheck s = .bare 2) := Lib.hid (by rw [HSC.out, if_pos hbd])
    clear hbd
    go_wp2_with fail
    refine (refBare_any 2 _).mono ?_
    rintro e w2 ⟨rfl, hb⟩
    have hg := HG.out _ hb
    have z0 : w2.cell? ⟨w.heap.size + 1, 0, none⟩ = some (.int .i64 0) := by simp [World.cell?, hg]
    have z1 : w2.cell? ⟨w.heap.size + 1, 1, none⟩ = some (.int .i64 0) := by simp [World.cell?, hg]
    have f0 : w2.frozen? ⟨w.heap.size + 1, 0, none⟩ = false := by simp [World.frozen?, hg]
    have f1 : w2.frozen? ⟨w.heap.size + 1, 1, none⟩ = false := by simp [World.frozen?, hg]
    have HGg := Lib.hid hg; clear hg
    unfold faultV
    go_wp2_with fail
    refine bodyPost_ret (fault_cell (g := w.heap.size + 1) rfl rfl (set_two HGg.out _ _)) rfl ⟨by rw [HC.out]; rfl, ?_⟩
    exact ((hb1.trans (hb.mono hb1.size)).setCell (by simp; try omega) _).setCell (by simp; try omega) _
  · have HC : Hid (snapCheck s = .bare 2) := Lib.hid (by rw [HSC.out, if_pos hbd])
    clear hbd
    go_wp2_with fail
    refine (refBare_any 2 _).mono ?_
    rintro e w2 ⟨rfl, hb⟩
    have hg := HG.out _ hb
    have z0 : w2.cell? ⟨w.heap.size + 1, 0, none⟩ = some (.int .i64 0) := by simp [World.cell?, hg]
    have z1 : w2.cell? ⟨w.heap.size + 1, 1, none⟩ = some (.int .i64 0) := by simp [World.cell?, hg]
    have f0 : w2.frozen? ⟨w.heap.size + 1, 0, none⟩ = false := by simp [World.frozen?, hg]
    have f1 : w2.frozen? ⟨w.heap.size + 1, 1, none⟩ = false := by simp [World.frozen?, hg]
    have HGg := Lib.hid hg; clear hg
    unfold faultV
    go_wp2_with fail
    refine bodyPost_ret (fault_cell (g := w.heap.size + 1) rfl rfl (set_two HGg.out _ _)) rfl ⟨by rw [HC.out]; rfl, ?_⟩
    exact ((hb1.trans (hb.mono hb1.size)).setCell (by simp; try omega) _).setCell (by simp; try omega) _
  · have HC : Hid (snapCheck s = .bare 2) := Lib.hid (by rw [HSC.out, if_pos hbd])
    clear hbd
    go_wp2_with fail
    refine (refBare_any 2 _).mono ?_
    rintro e w2 ⟨rfl, hb⟩
    have hg := HG.out _ hb
    have z0 : w2.cell? ⟨w.heap.size + 1, 0, none⟩ = some (.int .i64 0) := by simp [World.cell?, hg]
    have z1 : w2.cell? ⟨w.heap.size + 1, 1, none⟩ = some (.int .i64 0) := by simp [World.cell?, hg]
    have f0 : w2.frozen? ⟨w.heap.size + 1, 0, none⟩ = false := by simp [World.frozen?, hg]
    have f1 : w2.frozen? ⟨w.heap.size + 1, 1, none⟩ = false := by simp [World.frozen?, hg]
    have HGg := Lib.hid hg; clear hg
    unfold faultV
    go_wp2_with fail
    refine bodyPost_ret (fault_cell (g := w.heap.size + 1) rfl rfl (set_two HGg.out _ _)) rfl ⟨by rw [HC.out]; rfl, ?_⟩
    exact ((hb1.trans (hb.mono hb1.size)).setCell (by simp; try omega) _).setCell (by simp; try omega) _
  · have HC : Hid (snapCheck s = .bare 2) := Lib.hid (by rw [HSC.out, if_pos hbd])
    clear hbd
    go_wp2_with fail
    refine (refBare_any 2 _).mono ?_
    rintro e w2 ⟨rfl, hb⟩
    have hg := HG.out _ hb
    have z0 : w2.cell? ⟨w.heap.size + 1, 0, none⟩ = some (.int .i64 0) := by simp [World.cell?, hg]
    have z1 : w2.cell? ⟨w.heap.size + 1, 1, none⟩ = some (.int .i64 0) := by simp [World.cell?, hg]
    have f0 : w2.frozen? ⟨w.heap.size + 1, 0, none⟩ = false := by simp [World.frozen?, hg]
    have f1 : w2.frozen? ⟨w.heap.size + 1, 1, none⟩ = false := by simp [World.frozen?, hg]
    have HGg := Lib.hid hg; clear hg
    unfold faultV
    go_wp2_with fail
    refine bodyPost_ret (fault_cell (g := w.heap.size + 1) rfl rfl (set_two HGg.out _ _)) rfl ⟨by rw [HC.out]; rfl, ?_⟩
    exact ((hb1.trans (hb.mono hb1.size)).setCell (by simp; try omega) _).setCell (by simp; try omega) _
  · have HC : Hid (snapCheck s = .bare 2) := Lib.hid (by rw [HSC.out, if_pos hbd])
    clear hbd
    go_wp2_with fail
    refine (refBare_any 2 _).mono ?_
    rintro e w2 ⟨rfl, hb⟩
    have hg := HG.out _ hb
    have z0 : w2.cell? ⟨w.heap.size + 1, 0, none⟩ = some (.int .i64 0) := by simp [World.cell?, hg]
    have z1 : w2.cell? ⟨w.heap.size + 1, 1, none⟩ = some (.int .i64 0) := by simp [World.cell?, hg]
    have f0 : w2.frozen? ⟨w.heap.size + 1, 0, none⟩ = false := by simp [World.frozen?, hg]
    have f1 : w2.frozen? ⟨w.heap.size + 1, 1, none⟩ = false := by simp [World.frozen?, hg]
    have HGg := Lib.hid hg; clear hg
    unfold faultV
    go_wp2_with fail
    refine bodyPost_ret (fault_cell (g := w.heap.size + 1) rfl rfl (set_two HGg.out _ _)) rfl ⟨by rw [HC.out]; rfl, ?_⟩
    exact ((hb1.trans (hb.mono hb1.size)).setCell (by simp; try omega) _).setCell (by simp; try omega) _
  · have HC : Hid (snapCheck s = .bare 2) := Lib.hid (by rw [HSC.out, if_pos hbd])
    clear hbd
    go_wp2_with fail
    refine (refBare_any 2 _).mono ?_
    rintro e w2 ⟨rfl, hb⟩
    have hg := HG.out _ hb
    have z0 : w2.cell? ⟨w.heap.size + 1, 0, none⟩ = some (.int .i64 0) := by simp [World.cell?, hg]
    have z1 : w2.cell? ⟨w.heap.size + 1, 1, none⟩ = some (.int .i64 0) := by simp [World.cell?, hg]
    have f0 : w2.frozen? ⟨w.heap.size + 1, 0, none⟩ = false := by simp [World.frozen?, hg]
    have f1 : w2.frozen? ⟨w.heap.size + 1, 1, none⟩ = false := by simp [World.frozen?, hg]
    have HGg := Lib.hid hg; clear hg
    unfold faultV
    go_wp2_with fail
    refine bodyPost_ret (fault_cell (g := w.heap.size + 1) rfl rfl (set_two HGg.out _ _)) rfl ⟨by rw [HC.out]; rfl, ?_⟩
    exact ((hb1.trans (hb.mono hb1.size)).setCell (by simp; try omega) _).setCell (by simp; try omega) _
  · have HC : Hid (snapCheck s = .bare 2) := Lib.hid (by rw [HSC.out, if_pos hbd])
    clear hbd
    go_wp2_with fail
    refine (refBare_any 2 _).mono ?_
    rintro e w2 ⟨rfl, hb⟩
    have hg := HG.out _ hb
    have z0 : w2.cell? ⟨w.heap.size + 1, 0, none⟩ = some (.int .i64 0) := by simp [World.cell?, hg]
    have z1 : w2.cell? ⟨w.heap.size + 1, 1, none⟩ = some (.int .i64 0) := by simp [World.cell?, hg]
    have f0 : w2.frozen? ⟨w.heap.size + 1, 0, none⟩ = false := by simp [World.frozen?, hg]
    have f1 : w2.frozen? ⟨w.heap.size + 1, 1, none⟩ = false := by simp [World.frozen?, hg]
    have HGg := Lib.hid hg; clear hg
    unfold faultV
    go_wp2_with fail
    refine bodyPost_ret (fault_cell (g := w.heap.size + 1) rfl rfl (set_two HGg.out _ _)) rfl ⟨by rw [HC.out]; rfl, ?_⟩
    exact ((hb1.trans (hb.mono hb1.size)).setCell (by simp; try omega) _).setCell (by simp; try omega) _
  · have HC : Hid (snapCheck s = .bare 2) := Lib.hid (by rw [HSC.out, if_pos hbd])
    clear hbd
    go_wp2_with fail
    refine (refBare_any 2 _).mono ?_
    rintro e w2 ⟨rfl, hb⟩
    have hg := HG.out _ hb
    have z0 : w2.cell? ⟨w.heap.size + 1, 0, none⟩ = some (.int .i64 0) := by simp [World.cell?, hg]
    have z1 : w2.cell? ⟨w.heap.size + 1, 1, none⟩ = some (.int .i64 0) := by simp [World.cell?, hg]
    have f0 : w2.frozen? ⟨w.heap.size + 1, 0, none⟩ = false := by simp [World.frozen?, hg]
    have f1 : w2.frozen? ⟨w.heap.size + 1, 1, none⟩ = false := by simp [World.frozen?, hg]
    have HGg := Lib.hid hg; clear hg
    unfold faultV
    go_wp2_with fail
    refine bodyPost_ret (fault_cell (g := w.heap.size + 1) rfl rfl (set_two HGg.out _ _)) rfl ⟨by rw [HC.out]; rfl, ?_⟩
    exact ((hb1.trans (hb.mono hb1.size)).setCell (by simp; try omega) _).setCell (by simp; try omega) _
  · have HC : Hid (snapCheck s = .bare 2) := Lib.hid (by rw [HSC.out, if_pos hbd])
    clear hbd
    go_wp2_with fail
    refine (refBare_any 2 _).mono ?_
    rintro e w2 ⟨rfl, hb⟩
    have hg := HG.out _ hb
    have z0 : w2.cell? ⟨w.heap.size + 1, 0, none⟩ = some (.int .i64 0) := by simp [World.cell?, hg]
    have z1 : w2.cell? ⟨w.heap.size + 1, 1, none⟩ = some (.int .i64 0) := by simp [World.cell?, hg]
    have f0 : w2.frozen? ⟨w.heap.size + 1, 0, none⟩ = false := by simp [World.frozen?, hg]
    have f1 : w2.frozen? ⟨w.heap.size + 1, 1, none⟩ = false := by simp [World.frozen?, hg]
    have HGg := Lib.hid hg; clear hg
    unfold faultV
    go_wp2_with fail
    refine bodyPost_ret (fault_cell (g := w.heap.size + 1) rfl rfl (set_two HGg.out _ _)) rfl ⟨by rw [HC.out]; rfl, ?_⟩
    exact ((hb1.trans (hb.mono hb1.size)).setCell (by simp; try omega) _).setCell (by simp; try omega) _
  · have HC : Hid (snapCheck s = .bare 2) := Lib.hid (by rw [HSC.out, if_pos hbd])
    clear hbd
    go_wp2_with fail
    refine (refBare_any 2 _).mono ?_
    rintro e w2 ⟨rfl, hb⟩
    have hg := HG.out _ hb
    have z0 : w2.cell? ⟨w.heap.size + 1, 0, none⟩ = some (.int .i64 0) := by simp [World.cell?, hg]
    have z1 : w2.cell? ⟨w.heap.size + 1, 1, none⟩ = some (.int .i64 0) := by simp [World.cell?, hg]
    have f0 : w2.frozen? ⟨w.heap.size + 1, 0, none⟩ = false := by simp [World.frozen?, hg]
    have f1 : w2.frozen? ⟨w.heap.size + 1, 1, none⟩ = false := by simp [World.frozen?, hg]
    have HGg := Lib.hid hg; clear hg
    unfold faultV
    go_wp2_with fail
    refine bodyPost_ret (fault_cell (g := w.heap.size + 1) rfl rfl (set_two HGg.out _ _)) rfl ⟨by rw [HC.out]; rfl, ?_⟩
    exact ((hb1.trans (hb.mono hb1.size)).setCell (by simp; try omega) _).setCell (by simp; try omega) _
  have hba : Below w1.heap.size w1 (w1.alloc (.cells #[S kStart, S kAppend, S kDelete, S kRewrite] 9)) := (Below.refl _ _).alloc (Nat.le_refl _) _
  have hops : StrsAt (w1.alloc (.cells #[S kStart, S kAppend, S kDelete, S kRewrite] 9)) (.slice (some ⟨w1.heap.size, 0, none⟩) 4 4) kOps := strs_new kOps w1 9 _ 4 _ rfl rfl rfl (by decide)
  have HOps := Lib.hid hops
  have HBd := Lib.hid hbd
  clear hbd hops
  go_wp2_with fail
  refine (inTexts_any s.op _ kOps _ HOps.out).mono ?_
  rintro e w2 ⟨rfl, hb2⟩
  have hb12 := hba.trans (hb2.mono hba.size)
  clear c0 c1 c2 c3 c4 c5 c6 g1 g2 g3 g4 g5 g6 g7 g8 g9 g10 hba hb2
  by_cases hop : s.op ∈ kOps
  case neg =>
    rw [decide_eq_false hop]
    have HC : Hid (snapCheck s = .bare 4) := Lib.hid (by rw [HSC.out, if_neg (by rw [HBd.out]; simp), if_pos hop])
    clear hop
    go_wp2_with fail
    refine (refBare_any 4 _).mono ?_
    rintro e w3 ⟨rfl, hb⟩
    have hb13 := hb12.trans (hb.mono hb12.size)
    have hg := HG.out _ hb13
    have z0 : w3.cell? ⟨w.heap.size + 1, 0, none⟩ = some (.int .i64 0) := by simp [World.cell?, hg]
    have z1 : w3.cell? ⟨w.heap.size + 1, 1, none⟩ = some (.int .i64 0) := by simp [World.cell?, hg]
    have f0 : w3.frozen? ⟨w.heap.size + 1, 0, none⟩ = false := by simp [World.frozen?, hg]
    have f1 : w3.frozen? ⟨w.heap.size + 1, 1, none⟩ = false := by simp [World.frozen?, hg]
    have HGg := Lib.hid hg; clear hg
    unfold faultV
    go_wp2_with fail
    refine bodyPost_ret (fault_cell (g := w.heap.size + 1) rfl rfl (set_two HGg.out _ _)) rfl ⟨by rw [HC.out]; rfl, ?_⟩
    exact ((hb1.trans (hb13.mono hb1.size)).setCell (by simp; try omega) _).setCell (by simp; try omega) _
  rw [decide_eq_true hop]
  have HC : Hid (snapCheck s = if listCheck s.files ≠ .nil then listCheck s.files else firstErr (seqFault s) s.files.length) := Lib.hid (by rw [HSC.out, if_neg (by rw [HBd.out]; simp), if_neg (fun h => h hop)])
  clear hop HSC HBd
  have k6 := (CS.out _ hb12).2.2.2.2.2.2
  have hbw2 := hb1.trans (hb12.mono hb1.size)
  go_wp2_with fail
  refine (listFault_any _ s.files w2 (hl.below hbw2) Hs.out).mono ?_
  rintro e w3 ⟨rfl, hb3⟩
  have hb13 := hb12.trans (hb3.mono hb12.size)
  have hbw3 := hb1.trans (hb13.mono hb1.size)
  clear k6 hb3 hb12 hbw2
  obtain ⟨cf, hcf⟩ : ∃ cf : Int, (listCheck s.files).code = cf := ⟨_, rfl⟩
  obtain ⟨pf, hpf⟩ : ∃ pf : Int, (listCheck s.files).place = pf := ⟨_, rfl⟩
  unfold faultOf
  rw [hcf, hpf]
  have hbF : Below w3.heap.size w3 (w3.alloc (.cells #[.int .i64 cf, .int .i64 pf] 58)) := (Below.refl _ _).alloc (Nat.le_refl _) _
  have hb14 := hb13.trans (hbF.mono hb13.size)
  have hbw4 := hb1.trans (hb14.mono hb1.size)
  have d0 : (w3.alloc (.cells #[.int .i64 cf, .int .i64 pf] 58)).cell? ⟨w3.heap.size, 0, none⟩ = some (.int .i64 cf) := newCell (Below.refl _ _) 0 rfl
  have d1 : (w3.alloc (.cells #[.int .i64 cf, .int .i64 pf] 58)).cell? ⟨w3.heap.size, 1, none⟩ = some (.int .i64 pf) := newCell (Below.refl _ _) 1 rfl
  obtain ⟨H3, hH3⟩ : ∃ H3, w3.heap.size = H3 := ⟨_, rfl⟩
  rw [hH3] at d0 d1
  unfold faultV
  go_upto_region 11 with fail
  try rw [hH3]
  generalize w3.alloc (.cells #[.int .i64 cf, .int .i64 pf] 58) = w4 at *
  by_cases hck : listCheck s.files = .nil
  case neg =>
    have hpos : (0 : Int) < cf := by have := listCheck_code' hck; omega
    have HC' : Hid (snapCheck s = listCheck s.files) := Lib.hid (by rw [HC.out, if_pos hck])
    have HCf := Lib.hid hcf; have HPf := Lib.hid hpf
    have hg := HG.out _ hb14
    have z0 : w4.cell? ⟨w.heap.size + 1, 0, none⟩ = some (.int .i64 0) := by simp [World.cell?, hg]
    have z1 : w4.cell? ⟨w.heap.size + 1, 1, none⟩ = some (.int .i64 0) := by simp [World.cell?, hg]
    have f0 : w4.frozen? ⟨w.heap.size + 1, 0, none⟩ = false := by simp [World.frozen?, hg]
    have f1 : w4.frozen? ⟨w.heap.size + 1, 1, none⟩ = false := by simp [World.frozen?, hg]
    have HGg := Lib.hid hg; clear hg hck hcf hpf
    go_wp2_with fail
    refine bodyPost_ret (fault_cell (g := w.heap.size + 1) rfl rfl (set_two HGg.out _ _)) rfl ⟨by rw [HC'.out]; unfold faultOf faultV; rw [HCf.out, HPf.out], ?_⟩
    exact (hbw4.setCell (by simp; try omega) _).setCell (by simp; try omega) _
  have hcf0 : cf = 0 := by rw [← hcf, hck]; rfl
  subst hcf0
  have HF : Hid (snapCheck s = firstErr (seqFault s) s.files.length) := Lib.hid (by rw [HC.out, if_neg (fun h => h hck)])
  clear hcf hpf hck HC
  obtain ⟨a', c', b, o, hv, ha, hc, hcm, hx⟩ := hl
  cases hv
  unfold maxLen at hcm
  obtain ⟨fl, hfl⟩ : ∃ fl, s.files = fl := ⟨_, rfl⟩
  rw [hfl] at hx ha hc HF ⊢
  have HFl := Lib.hid hfl
  have CS' := Lib.hid (fun w6 (h : Below w4.heap.size w4 w6) => (⟨(CS.out _ (hb14.trans (h.mono hb14.size))).2.2.1, by have := (CS.out _ (hb14.trans (h.mono hb14.size))).2.2.2.2.2.2; rwa [hfl] at this⟩ : w6.cell? ⟨w.heap.size, 2, none⟩ = some (.int .i64 s.seq) ∧ w6.cell? ⟨w.heap.size, 6, none⟩ = some (.slice a fl.length c)))
  clear hfl CS
  go_wp2_with fail
  clear d0 d1
  go_loopw [5] (fun i wr => ∃ k : Nat, k ≤ fl.length ∧ i = .int .i64 k ∧ Hid (∀ j < k, seqFault s j = 0) ∧ Below w4.heap.size w4 wr) (fun i _ => fl.length - (intOf i).toNat)
  case atStart => exact ⟨0, by omega, rfl, Lib.hid fun j hj => absurd hj (by omega), Below.refl _ _⟩
  case round =>
    obtain ⟨k, hk, rfl, hj, hb⟩ := hrel
    have hb1r := hb14.trans (hb.mono hb14.size)
    have hbr := hbw4.trans (hb.mono hbw4.size)
    obtain ⟨k2, k6⟩ := CS'.out _ hb
    by_cases hlt : k < fl.length
    case neg =>
      obtain rfl : k = fl.length := by omega
      have f : decide ((fl.length : Int) < (fl.length : Int)) = false := by simp
      go_wp2_with fail
      refine (refFine_any _).mono ?_
      rintro e w5 ⟨rfl, hb5⟩
      have hb15 := hb1r.trans (hb5.mono hb1r.size)
      clear k2 k6
      have hg := HG.out _ hb15
      have z0 : w5.cell? ⟨w.heap.size + 1, 0, none⟩ = some (.int .i64 0) := by simp [World.cell?, hg]
      have z1 : w5.cell? ⟨w.heap.size + 1, 1, none⟩ = some (.int .i64 0) := by simp [World.cell?, hg]
      have f0 : w5.frozen? ⟨w.heap.size + 1, 0, none⟩ = false := by simp [World.frozen?, hg]
      have f1 : w5.frozen? ⟨w.heap.size + 1, 1, none⟩ = false := by simp [World.frozen?, hg]
      have HGg := Lib.hid hg; clear hg
      unfold faultV
      go_wp2_with fail
      refine bodyPost_ret (fault_cell (g := w.heap.size + 1) rfl rfl (set_two HGg.out _ _)) rfl ⟨by rw [HF.out, firstErr_all hj.out]; rfl, ?_⟩
      exact ((hb1.trans (hb15.mono hb1.size)).setCell (by simp; try omega) _).setCell (by simp; try omega) _
    obtain ⟨x, hxk⟩ := get_ex hlt
    have hbrD : Below w.heap.size w wr.drew := Bdn hbr 1
    obtain ⟨-, -, -, -, -, q5⟩ := flCells hx hbr hxk
    have i1 := idx_at (c := c) 6 Tryz.underlying23 szFl ha k hlt
    have f : (k : Int) < (fl.length : Int) := by omega
    by_cases hsq : s.seq < x.seq
    · have hf : seqFault s k = 9 := by unfold seqFault; rw [HFl.out, hxk]; simp only; rw [if_pos hsq]
      have HL : Hid (snapCheck s = .loc 9 k) := Lib.hid (HF.out.trans ((firstErr_hit hlt hj.out (by rw [hf]; decide)).trans (by rw [hf])))
      clear hf hxk
      go_wp2_with fail
      go_quiet (fail)
      have hb1q : Below w1.heap.size w1 (wr.drewN nq) := Bdn hb1r nq
      have hg := HG.out _ hb1r
      have z0 : (wr.drewN nq).cell? ⟨w.heap.size + 1, 0, none⟩ = some (.int .i64 0) := by simp [World.cell?, hg]
      have z1 : (wr.drewN nq).cell? ⟨w.heap.size + 1, 1, none⟩ = some (.int .i64 0) := by simp [World.cell?, hg]
      have f0 : (wr.drewN nq).frozen? ⟨w.heap.size + 1, 0, none⟩ = false := by simp [World.frozen?, hg]
      have f1 : (wr.drewN nq).frozen? ⟨w.heap.size + 1, 1, none⟩ = false := by simp [World.frozen?, hg]
      have HGg := Lib.hid (HG.out _ hb1q); clear hg
      have hbq : Below w.heap.size w (wr.drewN nq) := Bdn hbr nq
      generalize wr.drewN nq = wq at *
      go_wp2_with fail
      refine bodyPost_ret (fault_cell (g := w.heap.size + 1) rfl rfl (set_two HGg.out _ _)) rfl ⟨by rw [HL.out]; rfl, ?_⟩
      exact (hbq.setCell (by simp; try omega) _).setCell (by simp; try omega) _
    · have hsq' : decide (s.seq < x.seq) = false := decide_eq_false hsq
      have hf : seqFault s k = 0 := by unfold seqFault; rw [HFl.out, hxk]; simp only; rw [if_neg hsq]
      have HF0 := Lib.hid hf
      clear hf hxk hsq
      go_wp2_with fail
      go_quiet (fail)
      go_wp2_with fail
      go_roundw
      case rel => exact ⟨k + 1, by omega, by go_num, (Lib.hid fun j hj' => by
        rcases Nat.lt_or_ge j k with h | h
        · exact hj.out j h
        · obtain rfl : j = k := by omega
          exact HF0.out), Bdn hb _⟩
      case measure => simp [intOf]; omega
end Go.Proofs.YtefoaeamfkbgbaaGreatDoor
