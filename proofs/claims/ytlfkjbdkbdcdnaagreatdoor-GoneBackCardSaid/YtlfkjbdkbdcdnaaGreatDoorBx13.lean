/- deedboxref1.SplitOf: the walk. A witness's world that has both: all listed data laid by the function, and the handle that errors.As reads. Rising lists of numbers without doubles; sorted and compacted; the least and the greatest. Of no program. -/
import Derived.Test.YtlfkjbdkbdcdnaaGreatDoorBx11
import Derived.Test.YtlfkjbdkbdcdnaaGreatDoorBx12
import Derived.Deep.RegionLaw
import Derived.Lay
import Derived.LaidMore
import Derived.LaidHandle
import Derived.ProofKit
import Derived.Test.YtlfkjbdkbdcdnaaGreatDoorBx4
namespace Go.Proofs.YtlfkjbdkbdcdnaaGreatDoor
open Go.RowKit Go.Maps

theorem szGr (w : World) : (sizeOf 60).run Tryz.prog w = .ok 2 w := by kernel_rfl
theorem elGr : ElemInfo Tryz.prog 54 60 2 40 := elemInfo_of Tryz.underlying54 (z := .agg #[.string ByteArray.empty, .slice none 0 0]) (by kernel_rfl) rfl (by decide)
abbrev gp (g : Gv) : Str × Value := (g.name, g.sl)
theorem grownBy_setCellAt (W : World) (b i : Nat) (v : Value) : W.grownBy (W.setCell ⟨b, i, none⟩ v) (some b) :=
  ⟨rfl, rfl, rfl, (KeepsWalks.setCell W _ v).size, fun k _ hk => Below.heap_setCell _ _ _ k (fun e => hk (by rw [e]))⟩
theorem set_mid {A R : List Value} {s v v' : Value} : (A ++ ([s, v] ++ R)).set (A.length + 1) v' = A ++ ([s, v'] ++ R) := by
  rw [List.set_append_right _ _ (by omega), show A.length + 1 - A.length = 1 by omega]
  rfl
/-- The slice of one group is written anew. -/
theorem own_setSl {B : Nat} {w : World} {g n cap p : Nat} {q : List Gv} {y : Gv} (h : Own encG 60 2 B w (.slice (some ⟨g, 0, none⟩) n cap) q) (hp : q[p]? = some y) (a : Option Addr) (m c : Nat) :
    Own encG 60 2 B (w.setCell ⟨g, p * 2 + 1, none⟩ (.slice a m c)) (.slice (some ⟨g, 0, none⟩) n cap) (q.set p ⟨y.name, a, m, c⟩) := by
  have hpl := (List.getElem?_eq_some_iff.1 hp).1
  obtain ⟨g', cap', cur, e, hB, hg, hc, hm, hs, ht⟩ := h.open (by omega)
  simp only [Value.slice.injEq, Option.some.injEq, Addr.mk.injEq, and_true] at e
  obtain ⟨rfl, rfl, rfl⟩ := e
  refine Own.mk encG_enc (by simp) hB (row_setCell hg _) hc hm (by simp [hs]) ?_
  rw [Array.toList_setIfInBounds, List.take_set, ht]
  have h1 := set_take_drop (s := q) (i := p) (⟨y.name, a, m, c⟩ : Gv) hpl
  have h2 : q = q.take p ++ y :: q.drop (p + 1) := by
    have hy := (List.getElem?_eq_some_iff.1 hp).2
    rw [← hy, List.getElem_cons_drop, List.take_append_drop]
  rw [h1]
  conv => lhs; rw [h2]
  simp only [List.flatMap_append, List.flatMap_cons]
  have hl : ((q.take p).flatMap encG).length = p * 2 := by
    rw [flat_length encG_enc, List.length_take]; congr 1; omega
  rw [← hl]
  exact set_mid
theorem Held.mono {B B' : Nat} {w : World} {xs : List (Str × Value)} {gs : List (Str × List Rw)} (h : Held B w xs gs) (hB : B' ≤ B) : Held B' w xs gs :=
  ⟨h.keys, fun k v hk => by
    obtain ⟨l, h1, h2⟩ := h.own k v hk
    exact ⟨l, h1, Own.base h2 hB⟩, h.apart⟩
/-- Whatever is appended to the row of groups, the groups' rows stay. -/
theorem Held.aside {B B' : Nat} {w w' : World} {xs : List (Str × Value)} {gs : List (Str × List Rw)} {v : Value} {m : List Gv} (h : Held B w xs gs) (ho : Own encG 60 2 B' w v m) (hg : w.grownBy w' v.ownBlock) : Held B w' xs gs :=
  h.kept hg fun k u b hk hb e => by
    obtain ⟨l, -, ho2⟩ := h.own k u hk
    rcases ho.2 with ⟨rfl, _⟩ | ⟨g, cap, cur, rfl, _, hgg, _⟩
    · cases e
    · simp only [Value.ownBlock, Option.some.injEq] at e
      subst e
      rcases ho2.2 with ⟨rfl, _⟩ | ⟨g', cap', cur', rfl, _, hgg', _⟩
      · cases hb
      · simp only [Value.ownBlock, Option.some.injEq] at hb
        subst hb
        rw [hgg] at hgg'
        simp only [Option.some.injEq, Obj.cells.injEq] at hgg'
        exact absurd hgg'.2.1 (by decide)
/-- What the answer's slice of groups is. -/
structure SplitAt (B : Nat) (w : World) (u : Value) (gs : List (Str × List Rw)) (gvs : List Gv) : Prop where
  own : Own encG 60 2 B w u gvs
  held : Held B w (gvs.map gp) gs
theorem SplitAt.below {B : Nat} {w w' : World} {u : Value} {gs : List (Str × List Rw)} {gvs : List Gv} (h : SplitAt B w u gs gvs) (hb : Below w.heap.size w w') : SplitAt B w' u gs gvs := ⟨h.own.below hb, h.held.below hb⟩
theorem SplitAt.names {B : Nat} {w : World} {u : Value} {gs : List (Str × List Rw)} {gvs : List Gv} (h : SplitAt B w u gs gvs) : gvs.map (·.name) = gs.map (·.1) := by
  have := h.held.keys
  rwa [List.map_map] at this
theorem SplitAt.rising {B : Nat} {w : World} {u : Value} {f : Rw → Str} {l : List Rw} {gvs : List Gv} (h : SplitAt B w u (splitG f l) gvs) : RisP (gvs.map gp) := by
  have h1 : ((gvs.map gp).map (·.1)).Pairwise (fun a b => bef a b = true) := by
    rw [h.held.keys]
    exact List.pairwise_map.2 (splitG_rising f l)
  exact List.pairwise_map.1 h1
theorem SplitAt.groups {B : Nat} {w : World} {u : Value} {f : Rw → Str} {l : List Rw} {gvs : List Gv} (h : SplitAt B w u (splitG f l) gvs) : GroupsAt w u (splitG f l) := by
  refine ⟨gvs, h.own.at encG_enc, h.names, fun j x g hx hg => ?_⟩
  have hget : getP g.1 (splitG f l) = some g.2 := getP_of_mem (splitG_rising f l) (List.mem_of_getElem? hg)
  have hname : x.name = g.1 := by
    have := congrArg (fun q => q[j]?) h.names
    simp only [List.getElem?_map, hx, hg, Option.map_some, Option.some.injEq] at this
    exact this
  have hx2 : getP x.name (gvs.map gp) = some x.sl := getP_of_mem h.rising (List.mem_map.2 ⟨x, List.mem_of_getElem? hx, rfl⟩)
  obtain ⟨m, h1, h2⟩ := h.held.own _ _ hx2
  rw [hname, hget] at h1
  rw [Option.some.inj h1]
  exact h2.at encR_enc
/-- The place of a name among the groups: whether its group is there or is laid, with no rows, at that place: q, as it then is. -/
structure SpotAt (B : Nat) (w : World) (u : Value) (gs : List (Str × List Rw)) (nm : Str) (p : Nat) (q : List Gv) : Prop where
  own : Own encG 60 2 B w u q
  held : ∃ gvs : List Gv, Held B w (gvs.map gp) gs ∧ RisP (gvs.map gp) ∧ (∀ v, putP nm v (gvs.map gp) = (q.map gp).set p (nm, v)) ∧ ∃ y, q[p]? = some y ∧ y.name = nm ∧ (getP nm (gvs.map gp)).getD (.slice none 0 0) = y.sl
theorem map_take_gp (gvs : List Gv) (p : Nat) : (gvs.map gp).take p = (gvs.take p).map gp := (List.map_take).symm
theorem map_drop_gp (gvs : List Gv) (p : Nat) : (gvs.map gp).drop p = (gvs.drop p).map gp := (List.map_drop).symm
theorem gp_low {gvs : List Gv} {nm : Str} {p : Nat} (h : ∀ j < p, ∀ x, gvs[j]? = some x → bef x.name nm = true) : ∀ a ∈ (gvs.take p).map gp, bef a.1 nm = true := fun a ha => by
  obtain ⟨x, hx, rfl⟩ := List.mem_map.1 ha
  obtain ⟨j, hj, e⟩ := List.getElem_of_mem hx
  rw [List.getElem_take] at e
  rw [List.length_take] at hj
  exact h j (by omega) x (by rw [← e, List.getElem?_eq_getElem])
theorem place_there {B : Nat} {w : World} {u : Value} {gs : List (Str × List Rw)} {gvs : List Gv} {nm : Str} {p : Nat} {y : Gv} (h : SplitAt B w u gs gvs) (hr : RisP (gvs.map gp)) (hy : gvs[p]? = some y) (hn : y.name = nm) : SpotAt B w u gs nm p gvs := by
  have hp := (List.getElem?_eq_some_iff.1 hy).1
  have h2 : gvs.map gp = (gvs.take p).map gp ++ gp y :: (gvs.drop (p + 1)).map gp := by
    have he := (List.getElem?_eq_some_iff.1 hy).2
    conv => lhs; rw [← List.take_append_drop p gvs, ← List.getElem_cons_drop hp, he]
    simp
  refine ⟨h.own, gvs, h.held, hr, fun v => ?_, y, hy, hn, ?_⟩
  · rw [h2] at hr
    have := (putP_same (v := v) hr).2
    rw [← hn]
    conv => lhs; rw [h2]
    show putP (gp y).1 v _ = _
    rw [this, set_take_drop (s := gvs.map gp) (i := p) (y.name, v) (by simpa using hp), map_take_gp, map_drop_gp]
  · rw [h2] at hr ⊢
    have := (putP_same (v := y.sl) hr).1
    rw [← hn]
    show (getP (gp y).1 _).getD _ = _
    rw [this]; rfl
theorem place_new {B : Nat} {w : World} {u : Value} {gs : List (Str × List Rw)} {gvs : List Gv} {nm : Str} {p : Nat} (ho : Own encG 60 2 B w u (gvs.take p ++ ⟨nm, none, 0, 0⟩ :: gvs.drop p)) (hh : Held B w (gvs.map gp) gs) (hr : RisP (gvs.map gp)) (hp : p ≤ gvs.length) (h1 : ∀ j < p, ∀ x, gvs[j]? = some x → bef x.name nm = true) (h2 : ∀ x, gvs[p]? = some x → bef nm x.name = true) :
    SpotAt B w u gs nm p (gvs.take p ++ ⟨nm, none, 0, 0⟩ :: gvs.drop p) := by
  have hsplit : gvs.map gp = (gvs.take p).map gp ++ (gvs.drop p).map gp := by rw [← List.map_append, List.take_append_drop]
  have hhigh : ∀ a ∈ (gvs.drop p).map gp, bef nm a.1 = true := by
    have := place_high (xs := gvs.map gp) (k := nm) (p := p) hr (fun a ha => by
      rw [List.getElem?_map] at ha
      cases hx : gvs[p]? with
      | none => rw [hx] at ha; cases ha
      | some x => rw [hx] at ha; cases ha; exact h2 x hx)
    rwa [map_drop_gp] at this
  have hlt : (gvs.take p).length = p := by rw [List.length_take]; omega
  refine ⟨ho, gvs, hh, hr, fun v => ?_, ⟨nm, none, 0, 0⟩, ?_, rfl, ?_⟩
  · conv => lhs; rw [hsplit]
    rw [(putP_mid (v := v) (gp_low h1) hhigh).2]
    simp only [List.map_append, List.map_cons]
    rw [List.set_append_right _ _ (by rw [List.length_map, hlt]; exact Nat.le_refl _), show p - ((gvs.take p).map gp).length = 0 by rw [List.length_map, hlt, Nat.sub_self]]
    rfl
  · rw [List.getElem?_append_right (by omega), hlt]; simp
  · rw [hsplit, (putP_mid (v := Value.slice none 0 0) (gp_low h1) hhigh).1]; rfl
/-- The row of groups stays where rows are appended to. -/
theorem SpotAt.kept {B : Nat} {w w6 : World} {g n cap : Nat} {gs : List (Str × List Rw)} {nm : Str} {p : Nat} {q : List Gv} {y : Gv} (h : SpotAt B w (.slice (some ⟨g, 0, none⟩) n cap) gs nm p q) (hy : q[p]? = some y) (hg : w.grownBy w6 y.sl.ownBlock) : Own encG 60 2 B w6 (.slice (some ⟨g, 0, none⟩) n cap) q := by
  obtain ⟨gvs, hh, hr, hput, y', hy', hname, hget⟩ := h.held
  rw [hy] at hy'
  obtain rfl := Option.some.inj hy'
  refine World.ownsRow.kept h.own hg ?_
  rcases h.own.2 with ⟨e, _⟩ | ⟨g1, cap1, cur1, e1, _, hgg, _⟩
  · cases e
  · refine .inr fun e => ?_
    have hgb : g1 = g := by simp only [Value.slice.injEq, Option.some.injEq, Addr.mk.injEq] at e1; exact e1.1.1.symm
    subst hgb
    have hat := hh.at nm
    rw [hget] at hat
    rcases hat.2 with ⟨e2, _⟩ | ⟨g2, cap2, cur2, e2, _, hgg2, _⟩
    · rw [e2] at e; cases e
    · rw [e2] at e
      simp only [Value.ownBlock, Option.some.injEq] at e
      subst e
      rw [hgg] at hgg2
      simp only [Option.some.injEq, Obj.cells.injEq] at hgg2
      exact absurd hgg2.2.1 (by decide)
/-- Behind the append to the group's rows and the store: one row more. -/
theorem SpotAt.done {B : Nat} {w w6 : World} {g n cap : Nat} {f : Rw → Str} {l : List Rw} {x : Rw} {nm : Str} (hnm : f x = nm) {p : Nat} {q : List Gv} {y : Gv} (h : SpotAt B w (.slice (some ⟨g, 0, none⟩) n cap) (splitG f l) nm p q) (hy : q[p]? = some y) {a6 : Option Addr} {m6 c6 : Nat}
    (hown : w6.ownsRow B 36 3 (.slice a6 m6 c6) (((getP nm (splitG f l)).getD []).length + 1) (((getP nm (splitG f l)).getD []).flatMap encR ++ encR x)) (hg : w.grownBy w6 y.sl.ownBlock) (hn : Value.ownBlock (.slice a6 m6 c6) = y.sl.ownBlock ∨ Value.ownBlock (.slice a6 m6 c6) = some w.heap.size) :
    SplitAt B (w6.setCell ⟨g, p * 2 + 1, none⟩ (.slice a6 m6 c6)) (.slice (some ⟨g, 0, none⟩) n cap) (splitG f (l ++ [x])) (q.set p ⟨nm, a6, m6, c6⟩) := by
  subst hnm
  obtain ⟨gvs, hh, hr, hput, y', hy', hname, hget⟩ := h.held
  rw [hy] at hy'
  obtain rfl := Option.some.inj hy'
  have hq6 := h.kept hy hg
  have hset := own_setSl hq6 hy a6 m6 c6
  rw [hname] at hset
  refine ⟨hset, ?_⟩
  have hput6 := hh.put hr (splitG_rising f l) (f x) (v' := .slice a6 m6 c6) (l' := (getP (f x) (splitG f l)).getD [] ++ [x]) (by rw [hget]; exact hg) (Own.snoc hown) (by rw [hget]; exact hn)
  rw [hput] at hput6
  have e2 : (q.set p ⟨f x, a6, m6, c6⟩).map gp = (q.map gp).set p (f x, .slice a6 m6 c6) := by rw [List.map_set]
  rw [e2, splitG_snoc]
  refine hput6.kept (grownBy_setCellAt _ _ _ _) fun k u b hk hb e => ?_
  simp only [Option.some.injEq] at e
  subst e
  obtain ⟨m, -, ho⟩ := hput6.own k u hk
  rcases hq6.2 with ⟨e, _⟩ | ⟨g1, cap1, cur1, e1, _, hgg, _⟩
  · cases e
  · have hgb : g1 = g := by simp only [Value.slice.injEq, Option.some.injEq, Addr.mk.injEq] at e1; exact e1.1.1.symm
    subst hgb
    rcases ho.2 with ⟨e2, _⟩ | ⟨g2, cap2, cur2, e2, _, hgg2, _⟩
    · rw [e2] at hb; cases hb
    · rw [e2] at hb
      simp only [Value.ownBlock, Option.some.injEq] at hb
      subst hb
      rw [hgg] at hgg2
      simp only [Option.some.injEq, Obj.cells.injEq] at hgg2
      exact absurd hgg2.2.1 (by decide)
theorem SplitAt.set {B : Nat} {w : World} {u : Value} {gs : List (Str × List Rw)} {gvs : List Gv} (h : SplitAt B w u gs gvs) {g : Nat} (hg : g < B) (i : Nat) (v : Value) : SplitAt B (w.setCell ⟨g, i, none⟩ v) u gs gvs := by
  refine ⟨World.ownsRow.kept h.own (grownBy_setCellAt _ _ _ _) ?_, h.held.kept (grownBy_setCellAt _ _ _ _) fun k u b hk hb e => ?_⟩
  · cases hb : u.ownBlock with
    | none => exact .inl rfl
    | some b =>
      refine .inr fun e => ?_
      simp only [Option.some.injEq] at e
      have := (World.ownsRow.lt h.own b hb).1
      omega
  · simp only [Option.some.injEq] at e
    obtain ⟨m, -, ho⟩ := h.held.own k u hk
    have := (World.ownsRow.lt ho b hb).1
    omega
theorem SpotAt.below {B : Nat} {w w' : World} {u : Value} {gs : List (Str × List Rw)} {nm : Str} {p : Nat} {q : List Gv} (h : SpotAt B w u gs nm p q) (hb : Below w.heap.size w w') : SpotAt B w' u gs nm p q := by
  obtain ⟨gvs, hh, h3⟩ := h.held
  exact ⟨h.own.below hb, gvs, hh.below hb, h3⟩
/-- The rows that lie at the place. -/
theorem SpotAt.rows {B : Nat} {w : World} {u : Value} {gs : List (Str × List Rw)} {nm : Str} {p : Nat} {q : List Gv} {y : Gv} (h : SpotAt B w u gs nm p q) (hy : q[p]? = some y) : w.ownsRow B 36 3 (.slice y.a y.n y.c) y.n (((getP nm gs).getD []).flatMap encR) ∧ y.n = ((getP nm gs).getD []).length := by
  obtain ⟨gvs, hh, -, -, y', hy', -, hget⟩ := h.held
  rw [hy] at hy'
  obtain rfl := Option.some.inj hy'
  have hat := hh.at nm
  rw [hget] at hat
  have hl := slice_len (hat.at encR_enc)
  refine ⟨?_, hl⟩
  have : w.ownsRow B 36 3 (.slice y.a y.n y.c) ((getP nm gs).getD []).length (((getP nm gs).getD []).flatMap encR) := hat
  rwa [← hl] at this
theorem Own.thawed {α : Type} {enc : α → List Value} {e : TypeId} {sz B i : Nat} {w : World} {l : List α} {g n c : Nat} (h : Own enc e sz B w (.slice (some ⟨g, 0, none⟩) n c) l) : w.frozen? ⟨g, i, none⟩ = false := by
  rcases h.2 with ⟨e, _⟩ | ⟨g1, cap1, cur1, e1, _, hgg, _⟩
  · cases e
  · simp only [Value.slice.injEq, Option.some.injEq, Addr.mk.injEq] at e1
    rw [e1.1.1]
    exact frozen_row hgg
theorem Own.low {α : Type} {enc : α → List Value} {e : TypeId} {sz B : Nat} {w : World} {l : List α} {g n c : Nat} (h : Own enc e sz B w (.slice (some ⟨g, 0, none⟩) n c) l) : B ≤ g := (World.ownsRow.lt h g rfl).1
theorem splitEr_spec {s : Str} {l : List Rw} (h : (specOf s).2.2 ≠ 0) : splitEr s l = .bare (specOf s).2.2 := if_pos h
theorem splitEr_rows {s : Str} {l : List Rw} (h : (specOf s).2.2 = 0) : splitEr s l = firstErr (rowFault l) l.length := if_neg (by simpa using h)
theorem groupOf_len {s : Str} {r : Rw} (hs : (specOf s).2.2 = 0) (hr : rowCheck r = 0) (hl : r.part.length ≤ 100000) : (groupOf s r).length ≤ 100000 := group_len (spec_right hs) hr hl

attribute [local go_sem ↓] shutAppend_eq in
set_option maxHeartbeats 4000000 in
set_option maxRecDepth 20000 in
theorem refSplitOf_any (s : Str) (v : Value) (l : List Rw) (w : World) (hl : RowsAt w v l) (hs : s.length ≤ 10000) (hn : l.length ≤ 10000) (hr : ∀ r ∈ l, r.part.length ≤ 100000) :
    Calls Tryz.prog 28 #[S s, v] w fun e w' => ∃ u, e = .returned (.tuple #[u, faultOf (splitEr s l)]) ∧ (splitEr s l ≠ .nil → u = .slice none 0 0) ∧ (splitEr s l = .nil → GroupsAt w' u (splitG (groupOf s) l)) ∧ Below w.heap.size w w' := by
  obtain ⟨a, c, b, o, rfl, ha, hc, hcm, hx⟩ := hl
  unfold maxLen at hcm
  have hba : Below w.heap.size w (w.alloc (.cells #[.int .i64 0, .int .i64 0] 56)) := (Below.refl w.heap.size w).alloc (Nat.le_refl _) (.cells #[.int .i64 0, .int .i64 0] 56)
  have hG := fun W (h : Below (w.alloc (.cells #[.int .i64 0, .int .i64 0] 56)).heap.size (w.alloc (.cells #[.int .i64 0, .int .i64 0] 56)) W) => ((h.block w.heap.size (by simp)).trans (heap_alloc_new w (.cells #[.int .i64 0, .int .i64 0] 56)))
  have HG := Lib.hid hG; clear hG
  have HSz : Hid ((w.alloc (.cells #[.int .i64 0, .int .i64 0] 56)).heap.size = w.heap.size + 1) := Lib.hid (by simp)
  have HX := Lib.hid hx; have HR := Lib.hid hr
  have HSp := Lib.hid (refSpecOf_any s (w.alloc (.cells #[.int .i64 0, .int .i64 0] 56)) hs)
  clear hx hr
  go_enter Tryz.func28, Tryz.ntmps28
  go_wp2_with fail
  generalize (w.alloc (.cells #[.int .i64 0, .int .i64 0] 56)) = w0 at *
  refine HSp.out.mono ?_
  rintro e w1 ⟨rfl, hb1⟩
  have hbw1 := hba.trans (hb1.mono hba.size)
  by_cases h0 : (specOf s).2.2 = 0
  case neg =>
    have HE := Lib.hid (splitEr_spec (l := l) h0)
    have ge2 : (0 : Int) < (((specOf s).2.2 : Nat) : Int) := by omega
    clear h0 HSp
    generalize specOf s = sp at *
    obtain ⟨s1, s2, s3⟩ := sp
    simp only at HE ge2
    go_wp2_with fail
    refine (refBare_any _ _).mono ?_
    rintro e w3 ⟨rfl, hb3⟩
    have hb03 := hb1.trans (hb3.mono hb1.size)
    have hbw3 := hbw1.trans (hb3.mono hbw1.size)
    have hg := HG.out _ (hb03)
    have c0' : w3.cell? ⟨w.heap.size, 0, none⟩ = some (.int .i64 0) := by simp [World.cell?, hg]
    have c1' : w3.cell? ⟨w.heap.size, 1, none⟩ = some (.int .i64 0) := by simp [World.cell?, hg]
    have f0' : w3.frozen? ⟨w.heap.size, 0, none⟩ = false := by simp [World.frozen?, hg]
    have f1' : w3.frozen? ⟨w.heap.size, 1, none⟩ = false := by simp [World.frozen?, hg]
    have HGg := Lib.hid hg; clear hg
    unfold faultV
    go_wp2_with fail
    refine bodyPost_ret (fault_tc (g := w.heap.size) rfl rfl (set_two HGg.out _ _) rfl) rfl ⟨_, by rw [HE.out]; rfl, fun _ => rfl, fun h => (by rw [HE.out] at h; cases h), ((hbw3).setCell (by simp) _).setCell (by simp) _⟩
  have HE := Lib.hid (splitEr_rows (l := l) h0)
  have HS0 := Lib.hid h0
  rw [h0]
  generalize (specOf s).1 = s1 at *
  generalize (specOf s).2.1 = s2 at *
  clear h0 HSp
  go_wp2_with fail
  go_loopw [9, 10] (fun u i wr => ∃ (k : Nat) (gvs : List Gv) (ua : Value), k ≤ l.length ∧ i = .int .i64 k ∧ ua = u ∧ Hid (∀ j < k, rowFault l j = 0) ∧ SplitAt w0.heap.size wr ua (splitG (groupOf s) (l.take k)) gvs ∧ Below w0.heap.size w0 wr) (fun _ i _ => l.length - (intOf i).toNat)
  case atStart => exact ⟨0, [], _, by omega, rfl, rfl, Lib.hid fun j hj => absurd hj (by omega), ⟨Own.nil _ _ _ _ _, Held.nil _ _⟩, hb1⟩
  case round =>
    obtain ⟨k, gvs, ua, hk, rfl, rfl, hj, hsp, hb⟩ := hrel
    obtain ⟨wo, rfl⟩ : ∃ wo, wo = wr := ⟨wr, rfl⟩
    have hbw := hba.trans (hb.mono hba.size)
    by_cases hlt : k < l.length
    case neg =>
      obtain rfl : k = l.length := by omega
      have f : decide ((l.length : Int) < (l.length : Int)) = false := by simp
      have HE0 : Hid (splitEr s l = .nil) := Lib.hid (by rw [HE.out]; exact firstErr_all hj.out)
      rw [List.take_length] at hsp
      have HSpt := Lib.hid hsp
      clear hsp
      go_wp2_with fail
      refine (refFine_any _).mono ?_
      rintro e w3 ⟨rfl, hb3⟩
      have hb03 := hb.trans (hb3.mono hb.size)
      have hbw3 := hbw.trans (hb3.mono hbw.size)
      have hg := HG.out _ (hb03)
      have c0' : w3.cell? ⟨w.heap.size, 0, none⟩ = some (.int .i64 0) := by simp [World.cell?, hg]
      have c1' : w3.cell? ⟨w.heap.size, 1, none⟩ = some (.int .i64 0) := by simp [World.cell?, hg]
      have f0' : w3.frozen? ⟨w.heap.size, 0, none⟩ = false := by simp [World.frozen?, hg]
      have f1' : w3.frozen? ⟨w.heap.size, 1, none⟩ = false := by simp [World.frozen?, hg]
      have HGg := Lib.hid hg; clear hg
      unfold faultV
      go_wp2_with fail
      refine bodyPost_ret (fault_tc (g := w.heap.size) rfl rfl (set_two HGg.out _ _) rfl) rfl ⟨_, by rw [HE0.out]; rfl, fun h => absurd HE0.out h, fun _ => ?_, ((hbw3).setCell (by simp) _).setCell (by simp) _⟩
      have hgB : w.heap.size < w0.heap.size := by rw [HSz.out]; omega
      exact ((((HSpt.out.below hb3).set hgB _ _).set hgB _ _)).groups
    obtain ⟨x, hxk⟩ := get_ex hlt
    have CX := Lib.hid (fun W (h : Below w.heap.size w W) => rwCells HX.out h hxk)
    have i1 := idx_at (c := c) 3 Tryz.underlying22 szRw ha k hlt
    have hk1 : (k : Int) < (l.length : Int) := by omega
    have HRx := Lib.hid (HR.out x (List.mem_of_getElem? hxk))
    have HFk : Hid (rowFault l k = rowCheck x) := Lib.hid (by unfold rowFault; rw [hxk])
    have HTk := Lib.hid (take_snoc' hxk)
    obtain ⟨c0, c1, c2⟩ := CX.out _ hbw
    have HSp := Lib.hid hsp
    clear hxk hsp
    go_wp2_with fail
    refine (rowError_any x wo HRx.out).mono ?_
    rintro e w2 ⟨rfl, hb2⟩
    have hb02 := hb.trans (hb2.mono hb.size)
    have hbw2 := hbw.trans (hb2.mono hbw.size)
    clear c0 c1 c2
    by_cases hck : rowCheck x = 0
    case neg =>
      have HE0 : Hid (splitEr s l = .loc (rowCheck x) k) := Lib.hid (by
        rw [HE.out, firstErr_hit hlt hj.out (by rw [HFk.out]; exact hck), HFk.out])
      have ge2 : (0 : Int) < ((rowCheck x : Nat) : Int) := by omega
      clear hck HFk
      generalize rowCheck x = cx at *
      have hg := HG.out _ (hb02)
      have c0' : w2.cell? ⟨w.heap.size, 0, none⟩ = some (.int .i64 0) := by simp [World.cell?, hg]
      have c1' : w2.cell? ⟨w.heap.size, 1, none⟩ = some (.int .i64 0) := by simp [World.cell?, hg]
      have f0' : w2.frozen? ⟨w.heap.size, 0, none⟩ = false := by simp [World.frozen?, hg]
      have f1' : w2.frozen? ⟨w.heap.size, 1, none⟩ = false := by simp [World.frozen?, hg]
      have HGg := Lib.hid hg; clear hg
      go_wp2_with fail
      refine bodyPost_ret (fault_tc (g := w.heap.size) rfl rfl (set_two HGg.out _ _) rfl) rfl ⟨_, by rw [HE0.out]; rfl, fun _ => rfl, fun h => (by rw [HE0.out] at h; cases h), ((hbw2).setCell (by simp) _).setCell (by simp) _⟩
    have HCk := Lib.hid hck
    have hgr := refGroupOf_any s x w2 hs HS0.out hck
    rw [hck]
    have HGr := Lib.hid hgr
    clear hck hgr
    obtain ⟨c0, c1, c2⟩ := CX.out _ hbw2
    go_wp2_with fail
    refine HGr.out.mono ?_
    rintro e w3 ⟨rfl, hb3⟩
    have hb03 := hb02.trans (hb3.mono hb02.size)
    have hbw3 := hbw2.trans (hb3.mono hbw2.size)
    have hb23 := hb2.trans (hb3.mono hb2.size)
    have hsp3 := HSp.out.below hb23
    have hnl : (groupOf s x).length ≤ 100000 := groupOf_len HS0.out HCk.out HRx.out
    have HNl := Lib.hid hnl
    have hris := hsp3.rising
    have hnmx : Hid (splitG (groupOf s) (l.take (k + 1)) = splitG (groupOf s) (l.take k ++ [x])) := Lib.hid (by rw [HTk.out])
    have hgl : gvs.length ≤ 10000 := by
      have h1 := congrArg List.length hsp3.names
      rw [List.length_map, List.length_map] at h1
      have := (splitG_len (groupOf s) (l.take k)).1
      rw [List.length_take] at this
      omega
    have HSp3 := Lib.hid hsp3; have HRis := Lib.hid hris
    obtain ⟨ag, cg, bg, og, rfl, hag, hcg, hcmg, hxg⟩ := hsp3.own.at encG_enc
    unfold maxLen at hcmg
    have HXg := Lib.hid hxg
    obtain ⟨nm, hnm⟩ : ∃ nm, groupOf s x = nm := ⟨_, rfl⟩
    rw [hnm] at HNl
    have HNm := Lib.hid hnm
    rw [hnm]
    clear hnm
    clear c0 c1 c2 HSp hxg hnl hris hsp3
    go_upto_block 2 with fail
    go_cut [13] (fun j wx => ∃ p : Nat, j = .int .i64 p ∧ p ≤ gvs.length ∧ (∀ j < p, ∀ y, gvs[j]? = some y → bef y.name nm = true) ∧ (∀ y, gvs[p]? = some y → bef y.name nm = false) ∧ w3 = wx)
    case first =>
      go_wp2_with fail
      go_loopw [13] (fun j wx => ∃ p : Nat, p ≤ gvs.length ∧ j = .int .i64 p ∧ Hid (∀ j < p, ∀ y, gvs[j]? = some y → bef y.name nm = true) ∧ w3 = wx) (fun j _ => gvs.length - (intOf j).toNat)
      case atStart => exact ⟨0, by omega, rfl, Lib.hid fun j hj => absurd hj (by omega), rfl⟩
      case round =>
        obtain ⟨p, hp, rfl, hlow, rfl⟩ := hrel
        by_cases hpl : p < gvs.length
        case neg =>
          have f : decide ((p : Int) < (gvs.length : Int)) = false := by simp; omega
          go_wp2_with fail
          go_meet
          refine ⟨p, rfl, hp, hlow.out, fun y hy => ?_, rfl⟩
          rw [List.getElem?_eq_none (by omega)] at hy
          cases hy
        obtain ⟨y, hy⟩ := get_ex hpl
        obtain ⟨q0, -⟩ := gvCells HXg.out (Below.refl _ _) hy
        have i2 := idx_at (c := cg) 2 Tryz.underlying54 szGr hag p hpl
        have f : (p : Int) < (gvs.length : Int) := by omega
        have HY := Lib.hid hy
        clear hy
        go_wp2_with fail
        · rename_i hle
          refine ⟨⟨p + 1, by omega, by go_num, Lib.hid fun j hj' z hz => ?_, by first | rfl | trivial⟩, by simp [intOf]; omega⟩
          rcases Nat.lt_or_ge j p with h | h
          · exact hlow.out j h z hz
          · obtain rfl : j = p := by omega
            rw [HY.out] at hz
            cases hz
            exact (less_bef' _ _).symm.trans hle
        · rename_i hle
          go_meet
          refine ⟨p, rfl, hp, hlow.out, fun z hz => ?_, rfl⟩
          rw [HY.out] at hz
          cases hz
          exact (less_bef' _ _).symm.trans hle
    case rest =>
      obtain ⟨p, rfl, hp, hlow, hhi, rfl⟩ := hcut
      have HLow := Lib.hid hlow; have HHi := Lib.hid hhi
      clear hlow hhi
      by_cases hin : p < gvs.length ∧ ∃ y, gvs[p]? = some y ∧ y.name = nm
      case pos =>
        obtain ⟨hpq, y0, hy0, hyn0⟩ := hin
        obtain ⟨q0, -⟩ := gvCells HXg.out (Below.refl _ _) hy0
        have i2 := idx_at (c := cg) 2 Tryz.underlying54 szGr hag p hpq
        have f : (p : Int) < (gvs.length : Int) := by omega
        rw [hyn0] at q0
        have hspot := place_there HSp3.out HRis.out hy0 hyn0
        obtain ⟨gz, capz, curz, ez, hgzB, hgz, -⟩ := hspot.own.open (by omega)
        simp only [Value.slice.injEq] at ez
        obtain ⟨rfl, -, rfl⟩ := ez
        have hag' := hag (by omega)
        simp only [Option.some.injEq, Addr.mk.injEq, and_true] at hag'
        obtain ⟨rfl, rfl⟩ := hag'
        simp only [Nat.zero_add] at i2 q0
        have hbz : Below w3.heap.size w3 w3 := Below.refl _ _
        clear hy0 hyn0 hgz hgzB
        go_upto_region 23 with fail
        obtain ⟨y, hy⟩ : ∃ y, gvs[p]? = some y := (by obtain ⟨_, _, _, _, y, hy, _⟩ := hspot.held; exact ⟨y, hy⟩)
        have hwd := hbw3.trans (hbz.drew.mono hbw3.size)
        obtain ⟨e0, e1, e2⟩ := CX.out _ hwd
        have hspD := hspot.below (Below.refl w3.heap.size w3).drew
        have hspA := hspD.below ((Below.refl w3.drew.heap.size w3.drew).alloc (Nat.le_refl _) (.cells (encR x).toArray 36))
        have cq : w3.drew.cell? ⟨gz, p * 2 + 1, none⟩ = some (.slice y.a y.n y.c) := hspD.own.cells encG_enc p y hy 1 _ rfl
        have cqA : (w3.alloc (.cells #[S x.part, .int .i64 x.key, .int .i64 x.val] 36)).drew.cell? ⟨gz, p * 2 + 1, none⟩ = some (.slice y.a y.n y.c) := hspA.own.cells encG_enc p y hy 1 _ rfl
        have iq := idx_at (c := cg) (b := gz) (o := 0) 2 Tryz.underlying54 szGr (fun _ => rfl) p hpq
        simp only [Nat.zero_add] at iq
        have hpi : (p : Int) < (gvs.length : Int) := by omega
        obtain ⟨hrow, hyl⟩ := hspA.rows hy
        have hyn : y.n ≤ 10000 := by
          have := splitG_at (f := groupOf s) (l := l.take k) nm
          rw [List.length_take] at this
          omega
        obtain ⟨v6, w6, happ, hown6, hg6, hn6⟩ := run_app (P := Tryz.prog) (w3.drew.alloc (.cells (encR x).toArray 36)) w0.heap.size 22 22 36 3 32 elRw (.slice y.a y.n y.c) y.n _ hrow (.slice (some ⟨w3.drew.heap.size, 0, none⟩) 1 1) 1 (encR x) (src_one rfl rfl (by simp [Value.oneCell'])) (by unfold maxLen; omega) (by omega) (by have := hb03.size; have := hbz.size; simp; omega)
        obtain ⟨g6, cap6, rfl⟩ := ownsRow_succ hown6
        have happ' : (shutAppend #[22, 22] 22 #[.slice y.a y.n y.c, .slice (some ⟨w3.heap.size, 0, none⟩) 1 1]).run Tryz.prog (w3.alloc (.cells #[S x.part, .int .i64 x.key, .int .i64 x.val] 36)).drew = .ok (.slice (some ⟨g6, 0, none⟩) (y.n + 1) cap6) w6 := happ
        have hdone := hspA.done HNm.out hy (by rw [← hyl]; exact hown6) hg6 hn6
        have hq6 := hspA.kept hy hg6
        have c6 : w6.cell? ⟨gz, p * 2 + 1, none⟩ = some (.slice y.a y.n y.c) := hq6.cells encG_enc p y hy 1 _ rfl
        have f6 : w6.frozen? ⟨gz, p * 2 + 1, none⟩ = false := hq6.thawed
        have hgB : w0.heap.size ≤ gz := hq6.low
        have hrB : ∀ j, Value.ownBlock y.sl = some j → w0.heap.size ≤ j := fun j e => (World.ownsRow.lt hrow j e).1
        have hb06 : Below w0.heap.size w0 (w6.setCell ⟨gz, p * 2 + 1, none⟩ (.slice (some ⟨g6, 0, none⟩) (y.n + 1) cap6)) :=
          (((hb03.trans (hbz.drew.mono hb03.size)).alloc (by have := hb03.size; have := hbz.size; simp; omega) _).grown hg6 (by have := hb03.size; have := hbz.size; simp; omega) hrB).setCell (p := ⟨gz, p * 2 + 1, none⟩) hgB _
        have HDone := Lib.hid hdone; have HB06 := Lib.hid hb06
        have HJ1 : Hid (∀ j < k + 1, rowFault l j = 0) := Lib.hid fun j hj' => (by
          rcases Nat.lt_or_ge j k with h | h
          · exact hj.out j h
          · obtain rfl : j = k := by omega
            exact HFk.out.trans HCk.out)
        clear hdone hb06 hrB hgB hq6 hn6 hg6 hown6 hyl hrow hspA hspD hy hspot happ
        go_wp2_with fail
        go_region
        all_goals
          go_wp2_with fail
          go_roundw
          case rel => exact ⟨k + 1, _, _, by omega, by go_num, rfl, HJ1, by rw [hnmx.out]; exact HDone.out, HB06.out⟩
          case measure => simp [intOf]; omega
      have hne : ∀ y, gvs[p]? = some y → y.name ≠ nm := fun y hy e => hin ⟨(List.getElem?_eq_some_iff.1 hy).1, y, hy, e⟩
      have HHigh : Hid (∀ y, gvs[p]? = some y → bef nm y.name = true) := Lib.hid fun y hy => bef_tri (hne y hy) (HHi.out y hy)
      have HNe := Lib.hid hne
      have hU := HSp3.out.own.at encG_enc
      obtain ⟨hs1, hsA⟩ := sl_to (P := Tryz.prog) Tryz.underlying54 szGr hU p hp
      obtain ⟨a2, c2, hs2, hsB⟩ := sl_from (P := Tryz.prog) Tryz.underlying54 szGr hU p hp
      have hlt1 : (gvs.take p).length = p := by rw [List.length_take]; omega
      have hld1 : (gvs.drop p).length = gvs.length - p := List.length_drop
      have hsrc1 := hsA.src encG_enc (by decide)
      rw [hlt1] at hsrc1
      have HB := Lib.hid hsB
      have HLT := Lib.hid hlt1; have HLD := Lib.hid hld1
      clear hsA hsB hlt1 hld1 hne hin hU
      by_cases hpl : p < gvs.length
      case neg =>
        have f : decide ((p : Int) < (gvs.length : Int)) = false := by simp; omega
        go_wp2_with (first
          | (at_builtin; refine wpList_app rfl _ _ _ rfl w3.heap.size elGr (.slice none 0 0) 0 [] rfl (Own.nil encG _ 2 _ _) _ _ _ rfl hsrc1 (by unfold maxLen; omega) (by omega) (Nat.le_refl _) ?_; intro v1 w4 hown1 hg1 _; have hown1' : Own encG 60 2 w3.heap.size w4 v1 (gvs.take p) := (by unfold Own; rw [HLT.out]; simpa using hown1); have hb4 : Below w3.heap.size w3 w4 := (Below.refl _ _).grown hg1 (Nat.le_refl _) (fun k hk => by cases hk); clear hown1 hg1 hsrc1)
          | (at_builtin; refine wpList_app rfl _ _ _ rfl w3.heap.size elGr v1 (gvs.take p).length _ rfl (hown1'.alloc _) (.slice (some ⟨w4.heap.size, 0, none⟩) 1 1) 1 [S nm, .slice none 0 0] rfl (src_one rfl rfl (by simp [Value.oneCell'])) (by rw [HLT.out]; unfold maxLen; omega) (by rw [HLT.out]; omega) (by have := hb4.size; simp; omega) ?_; intro v2 w5 hown2 hg2 _; have hown2' := Own.snoc (x := (⟨nm, none, 0, 0⟩ : Gv)) hown2; have hb5 : Below w3.heap.size w3 w5 := (Bapp (hb4.alloc hb4.size _) (hown1'.alloc _) hg2 (Nat.le_refl _) (by have := hb4.size; simp; omega)); have hsrc3 := (HB.out.below hb5).src encG_enc (by decide); rw [HLD.out] at hsrc3; have hl3 : (gvs.take p ++ [(⟨nm, none, 0, 0⟩ : Gv)]).length = p + 1 := (by rw [List.length_append, HLT.out]; rfl); have HL3 := Lib.hid hl3; clear hown2 hg2 hl3)
          | (at_builtin; refine wpList_app rfl _ _ _ rfl w3.heap.size elGr v2 (gvs.take p ++ [(⟨nm, none, 0, 0⟩ : Gv)]).length _ rfl hown2' _ _ _ rfl hsrc3 (by rw [HL3.out]; unfold maxLen; omega) (by rw [HL3.out]; omega) hb5.size ?_; intro v3 wz hown3 hg3 _; have hown3' : Own encG 60 2 w3.heap.size wz v3 (gvs.take p ++ ⟨nm, none, 0, 0⟩ :: gvs.drop p) := (by rw [show gvs.take p ++ (⟨nm, none, 0, 0⟩ : Gv) :: gvs.drop p = (gvs.take p ++ [⟨nm, none, 0, 0⟩]) ++ gvs.drop p by simp]; unfold Own; rw [List.length_append, List.flatMap_append, HLD.out]; exact hown3); have hbz := Bapp hb5 hown2' hg3 (Nat.le_refl _) hb5.size; have hspot := place_new (hown3'.base hb03.size) (HSp3.out.held.below hbz) HRis.out hp HLow.out HHigh.out; clear hown3 hg3; obtain ⟨q, hq⟩ : ∃ q, gvs.take p ++ (⟨nm, none, 0, 0⟩ : Gv) :: gvs.drop p = q := ⟨_, rfl⟩; rw [hq] at hspot hown3'; have hql : q.length = gvs.length + 1 := (by rw [← hq, List.length_append, List.length_cons, HLT.out, HLD.out]; omega); obtain ⟨gz, capz, curz, rfl, -⟩ := hown3'.open (by omega); have hpq : p < q.length := (by omega); have HQl := Lib.hid hql; clear hq hql hown3' hown2' hsrc3))
        obtain ⟨y, hy⟩ : ∃ y, q[p]? = some y := (by obtain ⟨_, _, _, _, y, hy, _⟩ := hspot.held; exact ⟨y, hy⟩)
        have hwd := hbw3.trans (hbz.drew.mono hbw3.size)
        obtain ⟨e0, e1, e2⟩ := CX.out _ hwd
        have hspD := hspot.below (Below.refl wz.heap.size wz).drew
        have hspA := hspD.below ((Below.refl wz.drew.heap.size wz.drew).alloc (Nat.le_refl _) (.cells (encR x).toArray 36))
        have cq : wz.drew.cell? ⟨gz, p * 2 + 1, none⟩ = some (.slice y.a y.n y.c) := hspD.own.cells encG_enc p y hy 1 _ rfl
        have cqA : (wz.alloc (.cells #[S x.part, .int .i64 x.key, .int .i64 x.val] 36)).drew.cell? ⟨gz, p * 2 + 1, none⟩ = some (.slice y.a y.n y.c) := hspA.own.cells encG_enc p y hy 1 _ rfl
        have iq := idx_at (c := capz) (b := gz) (o := 0) 2 Tryz.underlying54 szGr (fun _ => rfl) p hpq
        simp only [Nat.zero_add] at iq
        have hpi : (p : Int) < (q.length : Int) := by omega
        obtain ⟨hrow, hyl⟩ := hspA.rows hy
        have hyn : y.n ≤ 10000 := by
          have := splitG_at (f := groupOf s) (l := l.take k) nm
          rw [List.length_take] at this
          omega
        obtain ⟨v6, w6, happ, hown6, hg6, hn6⟩ := run_app (P := Tryz.prog) (wz.drew.alloc (.cells (encR x).toArray 36)) w0.heap.size 22 22 36 3 32 elRw (.slice y.a y.n y.c) y.n _ hrow (.slice (some ⟨wz.drew.heap.size, 0, none⟩) 1 1) 1 (encR x) (src_one rfl rfl (by simp [Value.oneCell'])) (by unfold maxLen; omega) (by omega) (by have := hb03.size; have := hbz.size; simp; omega)
        obtain ⟨g6, cap6, rfl⟩ := ownsRow_succ hown6
        have happ' : (shutAppend #[22, 22] 22 #[.slice y.a y.n y.c, .slice (some ⟨wz.heap.size, 0, none⟩) 1 1]).run Tryz.prog (wz.alloc (.cells #[S x.part, .int .i64 x.key, .int .i64 x.val] 36)).drew = .ok (.slice (some ⟨g6, 0, none⟩) (y.n + 1) cap6) w6 := happ
        have hdone := hspA.done HNm.out hy (by rw [← hyl]; exact hown6) hg6 hn6
        have hq6 := hspA.kept hy hg6
        have c6 : w6.cell? ⟨gz, p * 2 + 1, none⟩ = some (.slice y.a y.n y.c) := hq6.cells encG_enc p y hy 1 _ rfl
        have f6 : w6.frozen? ⟨gz, p * 2 + 1, none⟩ = false := hq6.thawed
        have hgB : w0.heap.size ≤ gz := hq6.low
        have hrB : ∀ j, Value.ownBlock y.sl = some j → w0.heap.size ≤ j := fun j e => (World.ownsRow.lt hrow j e).1
        have hb06 : Below w0.heap.size w0 (w6.setCell ⟨gz, p * 2 + 1, none⟩ (.slice (some ⟨g6, 0, none⟩) (y.n + 1) cap6)) :=
          (((hb03.trans (hbz.drew.mono hb03.size)).alloc (by have := hb03.size; have := hbz.size; simp; omega) _).grown hg6 (by have := hb03.size; have := hbz.size; simp; omega) hrB).setCell (p := ⟨gz, p * 2 + 1, none⟩) hgB _
        have HDone := Lib.hid hdone; have HB06 := Lib.hid hb06
        have HJ1 : Hid (∀ j < k + 1, rowFault l j = 0) := Lib.hid fun j hj' => (by
          rcases Nat.lt_or_ge j k with h | h
          · exact hj.out j h
          · obtain rfl : j = k := by omega
            exact HFk.out.trans HCk.out)
        clear hdone hb06 hrB hgB hq6 hn6 hg6 hown6 hyl hrow hspA hspD hy hspot happ
        go_wp2_with fail
        go_region
        all_goals
          go_wp2_with fail
          go_roundw
          case rel => exact ⟨k + 1, _, _, by omega, by go_num, rfl, HJ1, by rw [hnmx.out]; exact HDone.out, HB06.out⟩
          case measure => simp [intOf]; omega
      obtain ⟨y0, hy0⟩ := get_ex hpl
      obtain ⟨q0, -⟩ := gvCells HXg.out (Below.refl _ _) hy0
      have i2 := idx_at (c := cg) 2 Tryz.underlying54 szGr hag p hpl
      have f : (p : Int) < (gvs.length : Int) := by omega
      have hne0 : (y0.name == nm) = false := by simpa using HNe.out y0 hy0
      clear hy0
      go_wp2_with (first
        | (at_builtin; refine wpList_app rfl _ _ _ rfl w3.heap.size elGr (.slice none 0 0) 0 [] rfl (Own.nil encG _ 2 _ _) _ _ _ rfl hsrc1 (by unfold maxLen; omega) (by omega) (Nat.le_refl _) ?_; intro v1 w4 hown1 hg1 _; have hown1' : Own encG 60 2 w3.heap.size w4 v1 (gvs.take p) := (by unfold Own; rw [HLT.out]; simpa using hown1); have hb4 : Below w3.heap.size w3 w4 := (Below.refl _ _).grown hg1 (Nat.le_refl _) (fun k hk => by cases hk); clear hown1 hg1 hsrc1)
        | (at_builtin; refine wpList_app rfl _ _ _ rfl w3.heap.size elGr v1 (gvs.take p).length _ rfl (hown1'.alloc _) (.slice (some ⟨w4.heap.size, 0, none⟩) 1 1) 1 [S nm, .slice none 0 0] rfl (src_one rfl rfl (by simp [Value.oneCell'])) (by rw [HLT.out]; unfold maxLen; omega) (by rw [HLT.out]; omega) (by have := hb4.size; simp; omega) ?_; intro v2 w5 hown2 hg2 _; have hown2' := Own.snoc (x := (⟨nm, none, 0, 0⟩ : Gv)) hown2; have hb5 : Below w3.heap.size w3 w5 := (Bapp (hb4.alloc hb4.size _) (hown1'.alloc _) hg2 (Nat.le_refl _) (by have := hb4.size; simp; omega)); have hsrc3 := (HB.out.below hb5).src encG_enc (by decide); rw [HLD.out] at hsrc3; have hl3 : (gvs.take p ++ [(⟨nm, none, 0, 0⟩ : Gv)]).length = p + 1 := (by rw [List.length_append, HLT.out]; rfl); have HL3 := Lib.hid hl3; clear hown2 hg2 hl3)
        | (at_builtin; refine wpList_app rfl _ _ _ rfl w3.heap.size elGr v2 (gvs.take p ++ [(⟨nm, none, 0, 0⟩ : Gv)]).length _ rfl hown2' _ _ _ rfl hsrc3 (by rw [HL3.out]; unfold maxLen; omega) (by rw [HL3.out]; omega) hb5.size ?_; intro v3 wz hown3 hg3 _; have hown3' : Own encG 60 2 w3.heap.size wz v3 (gvs.take p ++ ⟨nm, none, 0, 0⟩ :: gvs.drop p) := (by rw [show gvs.take p ++ (⟨nm, none, 0, 0⟩ : Gv) :: gvs.drop p = (gvs.take p ++ [⟨nm, none, 0, 0⟩]) ++ gvs.drop p by simp]; unfold Own; rw [List.length_append, List.flatMap_append, HLD.out]; exact hown3); have hbz := Bapp hb5 hown2' hg3 (Nat.le_refl _) hb5.size; have hspot := place_new (hown3'.base hb03.size) (HSp3.out.held.below hbz) HRis.out hp HLow.out HHigh.out; clear hown3 hg3; obtain ⟨q, hq⟩ : ∃ q, gvs.take p ++ (⟨nm, none, 0, 0⟩ : Gv) :: gvs.drop p = q := ⟨_, rfl⟩; rw [hq] at hspot hown3'; have hql : q.length = gvs.length + 1 := (by rw [← hq, List.length_append, List.length_cons, HLT.out, HLD.out]; omega); obtain ⟨gz, capz, curz, rfl, -⟩ := hown3'.open (by omega); have hpq : p < q.length := (by omega); have HQl := Lib.hid hql; clear hq hql hown3' hown2' hsrc3))
      obtain ⟨y, hy⟩ : ∃ y, q[p]? = some y := (by obtain ⟨_, _, _, _, y, hy, _⟩ := hspot.held; exact ⟨y, hy⟩)
      have hwd := hbw3.trans (hbz.drew.mono hbw3.size)
      obtain ⟨e0, e1, e2⟩ := CX.out _ hwd
      have hspD := hspot.below (Below.refl wz.heap.size wz).drew
      have hspA := hspD.below ((Below.refl wz.drew.heap.size wz.drew).alloc (Nat.le_refl _) (.cells (encR x).toArray 36))
      have cq : wz.drew.cell? ⟨gz, p * 2 + 1, none⟩ = some (.slice y.a y.n y.c) := hspD.own.cells encG_enc p y hy 1 _ rfl
      have cqA : (wz.alloc (.cells #[S x.part, .int .i64 x.key, .int .i64 x.val] 36)).drew.cell? ⟨gz, p * 2 + 1, none⟩ = some (.slice y.a y.n y.c) := hspA.own.cells encG_enc p y hy 1 _ rfl
      have iq := idx_at (c := capz) (b := gz) (o := 0) 2 Tryz.underlying54 szGr (fun _ => rfl) p hpq
      simp only [Nat.zero_add] at iq
      have hpi : (p : Int) < (q.length : Int) := by omega
      obtain ⟨hrow, hyl⟩ := hspA.rows hy
      have hyn : y.n ≤ 10000 := by
        have := splitG_at (f := groupOf s) (l := l.take k) nm
        rw [List.length_take] at this
        omega
      obtain ⟨v6, w6, happ, hown6, hg6, hn6⟩ := run_app (P := Tryz.prog) (wz.drew.alloc (.cells (encR x).toArray 36)) w0.heap.size 22 22 36 3 32 elRw (.slice y.a y.n y.c) y.n _ hrow (.slice (some ⟨wz.drew.heap.size, 0, none⟩) 1 1) 1 (encR x) (src_one rfl rfl (by simp [Value.oneCell'])) (by unfold maxLen; omega) (by omega) (by have := hb03.size; have := hbz.size; simp; omega)
      obtain ⟨g6, cap6, rfl⟩ := ownsRow_succ hown6
      have happ' : (shutAppend #[22, 22] 22 #[.slice y.a y.n y.c, .slice (some ⟨wz.heap.size, 0, none⟩) 1 1]).run Tryz.prog (wz.alloc (.cells #[S x.part, .int .i64 x.key, .int .i64 x.val] 36)).drew = .ok (.slice (some ⟨g6, 0, none⟩) (y.n + 1) cap6) w6 := happ
      have hdone := hspA.done HNm.out hy (by rw [← hyl]; exact hown6) hg6 hn6
      have hq6 := hspA.kept hy hg6
      have c6 : w6.cell? ⟨gz, p * 2 + 1, none⟩ = some (.slice y.a y.n y.c) := hq6.cells encG_enc p y hy 1 _ rfl
      have f6 : w6.frozen? ⟨gz, p * 2 + 1, none⟩ = false := hq6.thawed
      have hgB : w0.heap.size ≤ gz := hq6.low
      have hrB : ∀ j, Value.ownBlock y.sl = some j → w0.heap.size ≤ j := fun j e => (World.ownsRow.lt hrow j e).1
      have hb06 : Below w0.heap.size w0 (w6.setCell ⟨gz, p * 2 + 1, none⟩ (.slice (some ⟨g6, 0, none⟩) (y.n + 1) cap6)) :=
        (((hb03.trans (hbz.drew.mono hb03.size)).alloc (by have := hb03.size; have := hbz.size; simp; omega) _).grown hg6 (by have := hb03.size; have := hbz.size; simp; omega) hrB).setCell (p := ⟨gz, p * 2 + 1, none⟩) hgB _
      have HDone := Lib.hid hdone; have HB06 := Lib.hid hb06
      have HJ1 : Hid (∀ j < k + 1, rowFault l j = 0) := Lib.hid fun j hj' => (by
        rcases Nat.lt_or_ge j k with h | h
        · exact hj.out j h
        · obtain rfl : j = k := by omega
          exact HFk.out.trans HCk.out)
      clear hdone hb06 hrB hgB hq6 hn6 hg6 hown6 hyl hrow hspA hspD hy hspot happ
      go_wp2_with fail
      go_region
      all_goals
        go_wp2_with fail
        go_roundw
        case rel => exact ⟨k + 1, _, _, by omega, by go_num, rfl, HJ1, by rw [hnmx.out]; exact HDone.out, HB06.out⟩
        case measure => simp [intOf]; omega
end Go.Proofs.YtlfkjbdkbdcdnaaGreatDoor
namespace Go.Proofs.YtlfkjbdkbdcdnaaGreatDoor
open Go.ChangeShapes Go.WideShapes Go.ChangeAt Go.RowKit

theorem laidMet_layVars_all {P : Program} {w0 w' : World} {l : List (String × DataW Unit)} (hh : w'.heap = (w0.layVars P l).heap) (hf : w0.layFits P l [] = true) (hi : w0.layIfaces P l w' = true) : laidMet P l w' := by
  have e1 : (l.filter fun x => (l.map (·.1)).contains x.1) = l := List.filter_eq_self.2 fun x hx => List.contains_iff_mem.2 (List.mem_map.2 ⟨x, hx, rfl⟩)
  have e2 : (l.filter fun x => !(l.map (·.1)).contains x.1) = [] := List.filter_eq_nil_iff.2 fun x hx => by rw [List.contains_iff_mem.2 (List.mem_map.2 ⟨x, hx, rfl⟩)]; simp
  exact laidMet_layVars (w0 := w0) (l.map (·.1)) [] (by rw [e1]; exact hh) (by rw [e1]; exact hf) (by rw [e1]; exact hi) (by rw [e2]; exact LaidIn.none)

/-- The world at the beginning, the handle laid. -/
noncomputable def handleW (os : Os) : World := (World.holding Tryz.prog os ⟨#[], #[], []⟩).setCell ⟨13, 0, none⟩ (.iface 239 (.agg #[.pointer (some ⟨21, 27, none⟩)]))
noncomputable def witW (os : Os) (l : List (String × DataW Unit)) : World := (handleW os).layVars Tryz.prog (l.filter fun x => x.2.handleName?.isNone)
theorem witW_os (os : Os) (l : List (String × DataW Unit)) : (witW os l).os = os := World.layVars_os _ _ _
theorem witW_met (os : Os) (l : List (String × DataW Unit)) (args : Array Value) (hf : (handleW os).layFits Tryz.prog (l.filter fun x => x.2.handleName?.isNone) [] = true) (hi : (handleW os).layIfaces Tryz.prog (l.filter fun x => x.2.handleName?.isNone) (witW os l) = true)
    (hh : (l.filter fun x => x.2.handleName?.isSome).all (handleAtB Tryz.prog ((witW os l).forCall (fun _ _ => 0) ⟨#[], args, []⟩).memory) = true) :
    laidMetH Tryz.prog l ((witW os l).forCall (fun _ _ => 0) ⟨#[], args, []⟩).memory := by
  have h : laidMet Tryz.prog (l.filter fun x => x.2.handleName?.isNone) (witW os l) := laidMet_layVars_all (w0 := handleW os) rfl hf hi
  exact laidMetH_of_parts (h.of_heap (by simp [World.memory, World.forCall, Input.heap])) hh
end Go.Proofs.YtlfkjbdkbdcdnaaGreatDoor
namespace Go.Proofs.YtlfkjbdkbdcdnaaGreatDoor
open Go.RowKit

/-- A number more, in a rising list without doubles. -/
def withI : List Int → Int → List Int
  | [], n => [n]
  | x :: r, n => if x < n then x :: withI r n else if x = n then x :: r else n :: x :: r
theorem withI_at : ∀ {l : List Int} {s : Int} {k : Nat}, k ≤ l.length → (∀ j < k, ∀ x, l[j]? = some x → x < s) → (∀ x, l[k]? = some x → s ≤ x) → withI l s = if l[k]? = some s then l else l.take k ++ s :: l.drop k
  | [], s, 0, _, _, _ => by simp [withI]
  | [], _, _ + 1, h, _, _ => by simp at h
  | x :: r, s, 0, _, _, h2 => by
    have hx := h2 x rfl
    unfold withI
    rw [if_neg (by omega)]
    by_cases he : x = s
    · rw [if_pos he, if_pos (by simp [he])]
    · rw [if_neg he, if_neg (by simpa using he)]; rfl
  | x :: r, s, k + 1, h, h1, h2 => by
    have hx := h1 0 (by omega) x rfl
    unfold withI
    rw [if_pos hx, withI_at (k := k) (by simpa using h) (fun j hj y hy => h1 (j + 1) (by omega) y (by simpa using hy)) (fun y hy => h2 y (by simpa using hy))]
    rw [List.getElem?_cons_succ]
    split <;> rfl
theorem withI_len (l : List Int) (s : Int) : (withI l s).length ≤ l.length + 1 := by
  induction l with
  | nil => simp [withI]
  | cons x r ih =>
    unfold withI
    split
    · simpa using ih
    · split <;> simp
theorem mem_withI {x s : Int} {l : List Int} : x ∈ withI l s ↔ x = s ∨ x ∈ l := by
  induction l with
  | nil => simp [withI]
  | cons y r ih =>
    unfold withI
    split
    · rw [List.mem_cons, ih, List.mem_cons]
      exact ⟨fun h => by rcases h with h | h | h <;> simp [h], fun h => by rcases h with h | h | h <;> simp [h]⟩
    · split
      · rename_i h; subst h; simp
      · rw [List.mem_cons]
def upI (l : List Int) : Prop := l.Pairwise (fun a b => a < b)
theorem up_withI {s : Int} : ∀ {l : List Int}, upI l → upI (withI l s)
  | [], _ => by simp [withI, upI]
  | x :: r, h => by
    obtain ⟨h1, h2⟩ := List.pairwise_cons.1 h
    unfold withI
    split
    · rename_i hb
      refine List.pairwise_cons.2 ⟨fun y hy => ?_, up_withI h2⟩
      rcases mem_withI.1 hy with rfl | hy
      · exact hb
      · exact h1 y hy
    · rename_i hb
      split
      · exact h
      · rename_i hne
        refine List.pairwise_cons.2 ⟨fun y hy => ?_, h⟩
        rcases List.mem_cons.1 hy with rfl | hy
        · omega
        · have := h1 y hy; omega
theorem upI_ext : ∀ {a b : List Int}, upI a → upI b → (∀ x, x ∈ a ↔ x ∈ b) → a = b
  | [], [], _, _, _ => rfl
  | [], y :: t, _, _, h => absurd ((h y).2 (by simp)) (by simp)
  | x :: r, [], _, _, h => absurd ((h x).1 (by simp)) (by simp)
  | x :: r, y :: t, ha, hb, h => by
    obtain ⟨ha1, ha2⟩ := List.pairwise_cons.1 ha
    obtain ⟨hb1, hb2⟩ := List.pairwise_cons.1 hb
    have hxy : x = y := by
      rcases List.mem_cons.1 ((h x).1 (by simp)) with e | e
      · exact e
      · rcases List.mem_cons.1 ((h y).2 (by simp)) with e' | e'
        · exact e'.symm
        · have k1 := hb1 x e
          have k2 := ha1 y e'
          omega
    subst hxy
    congr 1
    refine upI_ext ha2 hb2 fun z => ?_
    have hz := h z
    simp only [List.mem_cons] at hz
    constructor
    · intro m
      rcases hz.1 (.inr m) with e | e
      · have := ha1 z m; omega
      · exact e
    · intro m
      rcases hz.2 (.inr m) with e | e
      · have := hb1 z m; omega
      · exact e
/-- Numbers rising, each once. -/
def risOf (l : List Int) : List Int := l.foldl withI []
theorem foldI_up : ∀ (xs l : List Int), upI l → upI (xs.foldl withI l)
  | [], _, h => h
  | _ :: xs, _, h => foldI_up xs _ (up_withI h)
theorem mem_foldI {x : Int} : ∀ (xs l : List Int), x ∈ xs.foldl withI l ↔ x ∈ l ∨ x ∈ xs
  | [], l => by simp
  | y :: xs, l => by
    rw [List.foldl_cons, mem_foldI xs, mem_withI, List.mem_cons]
    exact ⟨fun h => by rcases h with (h | h) | h <;> simp [h], fun h => by rcases h with h | h | h <;> simp [h]⟩
theorem foldI_len : ∀ (xs l : List Int), (xs.foldl withI l).length ≤ l.length + xs.length
  | [], _ => Nat.le_refl _
  | x :: xs, l => by
    have h1 := foldI_len xs (withI l x)
    have h2 := withI_len l x
    rw [List.foldl_cons, List.length_cons]; omega
theorem risOf_up (l : List Int) : upI (risOf l) := foldI_up l [] List.Pairwise.nil
theorem mem_risOf {x : Int} {l : List Int} : x ∈ risOf l ↔ x ∈ l := by unfold risOf; rw [mem_foldI]; simp
theorem risOf_len (l : List Int) : (risOf l).length ≤ l.length := by have := foldI_len l []; simpa [risOf] using this
theorem risOf_snoc (l : List Int) (x : Int) : risOf (l ++ [x]) = withI (risOf l) x := by unfold risOf; rw [List.foldl_append]; rfl
theorem mem_compactUpToI {d : Array Int} {x : Int} : ∀ {m : Nat}, x ∈ Lib.compactUpTo d m ↔ ∃ j < m, d[j]! = x
  | 0 => by simp [Lib.compactUpTo]
  | m + 1 => by
    rw [Lib.compactUpTo_succ, List.mem_append, mem_compactUpToI (m := m)]
    constructor
    · rintro (⟨j, h1, h2⟩ | h)
      · exact ⟨j, by omega, h2⟩
      · split at h
        · exact ⟨m, by omega, (List.mem_singleton.1 h).symm⟩
        · cases h
    · rintro ⟨j, h1, h2⟩
      rcases Nat.lt_or_ge j m with h | h
      · exact .inl ⟨j, h, h2⟩
      · obtain rfl : j = m := by omega
        cases hk : Lib.keeps d j with
        | true => exact .inr (by simp [h2])
        | false =>
          unfold Lib.keeps at hk
          have hk := of_decide_eq_false hk
          have h0 : j ≠ 0 := fun e => hk (.inl e)
          have h3 : d[j]! = d[j - 1]! := Decidable.byContradiction fun e => hk (.inr e)
          exact .inl ⟨j - 1, by omega, by rw [← h3, h2]⟩
theorem mem_compactI {l : List Int} {x : Int} : x ∈ Lib.compact l ↔ x ∈ l := by
  unfold Lib.compact
  rw [mem_compactUpToI]
  constructor
  · rintro ⟨j, h1, h2⟩
    rw [← h2]
    simp [h1]
  · intro h
    obtain ⟨j, h1, h2⟩ := List.getElem_of_mem h
    exact ⟨j, h1, by simp [h1, h2]⟩
theorem up_compactI {l : List Int} (h : l.Pairwise (fun a b => a ≤ b)) : upI (Lib.compact l) := by
  have hi := List.pairwise_iff_getElem.1 h
  unfold Lib.compact Lib.compactUpTo upI
  refine List.pairwise_map.2 (List.pairwise_filter.2 ?_)
  refine List.Pairwise.imp_of_mem (fun {a b} ha hb hab => ?_) List.pairwise_lt_range
  intro _ hkb
  have ha' : a < l.length := List.mem_range.1 ha
  have hb' : b < l.length := List.mem_range.1 hb
  unfold Lib.keeps at hkb
  have hk := (of_decide_eq_true hkb).resolve_left (by omega)
  have g : ∀ j (hj : j < l.length), l.toArray[j]! = l[j] := fun j hj => by simp [hj]
  rw [g b hb', g (b - 1) (by omega)] at hk
  rw [g a ha', g b hb']
  have k1 := hi (b - 1) b (by omega) hb' (by omega)
  rcases Nat.lt_or_ge a (b - 1) with hlt | hge
  · have k2 := hi a (b - 1) ha' (by omega) hlt
    omega
  · have : a = b - 1 := by omega
    subst this
    omega
abbrev sortI (l : List Int) : List Int := l.mergeSort fun x y => decide (x ≤ y)
theorem sortedI_le (l : List Int) : (sortI l).Pairwise (fun a b => a ≤ b) := by
  have := List.pairwise_mergeSort (le := fun (x y : Int) => decide (x ≤ y)) (fun a b c h1 h2 => by simp only [decide_eq_true_eq] at *; omega) (fun a b => by
    simp only [Bool.or_eq_true, decide_eq_true_eq]; omega) l
  exact this.imp fun {a b} h => of_decide_eq_true h
theorem compact_sort (l : List Int) : Lib.compact (sortI l) = risOf l :=
  upI_ext (up_compactI (sortedI_le l)) (risOf_up l) fun x => by rw [mem_compactI, (List.mergeSort_perm l _).mem_iff, mem_risOf]
end Go.Proofs.YtlfkjbdkbdcdnaaGreatDoor
