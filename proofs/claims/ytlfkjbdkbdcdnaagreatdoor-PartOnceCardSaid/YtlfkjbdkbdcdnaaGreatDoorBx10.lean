/- A look-up in a map of slices at whatever text, however long. DERIVED: THE SHELF's CONTRACTS AT THIS DUMP, IN PLAIN WORDS (tools/lay-plain.mjs out of 'TryzIterG.lean', which tools/lay-shelf.mjs wrote): THE SAME DECLARATIONS UNDER THE SAME NAMES: 'import', 'namespace', 'open', 'def', 'theorem' AND NOTHING ELSE: no command of the shelf's: FOR A HAND-IN. Each laying: the table of numbers ('.._ren') and one theorem, a field a fact of the dump's own or the kernel's comparison; each contract: ONE APPLICATION. part.Split: the walk. row.Read: the walk. slices.IndexFunc and DeleteFunc at []int, at whatever function value that answers by a plain predicate. slices.DeleteFunc at []int. slices.Clone and slices.Contains at []int, as the walks use them. slices.IndexFunc, Clone, DeleteFunc at []api.Row; row.Drop, row.Within. deedboxlaw1's helpers on rows: rowed, LongRows, OwnRows. coded and faulted of the packages of statements. -/
import Derived.Test.YtlfkjbdkbdcdnaaGreatDoorBx7
import Derived.Shelf.SlIter.Nil
import Derived.Test.YtlfkjbdkbdcdnaaGreatDoorProg
import Derived.Test.YtlfkjbdkbdcdnaaGreatDoorBx9
import Derived.Shelf.SlIter.Stops
import Derived.RangeFuncNested
import Derived.RangeFuncBound
import Derived.RangeFuncCalls
import Derived.RangeFuncLeaves
import Derived.WalkKit
import Derived.OwnWalkIn
import Derived.TacticsInMore
import Derived.LoopNIn
import Derived.LoopIn
import Derived.Deep.CutBlock
import Derived.Deep.DeepCutAuto
import Derived.Deep.RegionHeld3
import Derived.Deep.RegionLaw
import Derived.Test.YtlfkjbdkbdcdnaaGreatDoorBx6
import Derived.Test.YtlfkjbdkbdcdnaaGreatDoorBx2
import Derived.Test.YtlfkjbdkbdcdnaaGreatDoorBx5
import Derived.Outline
import Derived.Test.YtlfkjbdkbdcdnaaGreatDoorBx4
import Derived.Test.YtlfkjbdkbdcdnaaGreatDoorBx8
import Derived.Test.YtlfkjbdkbdcdnaaGreatDoorBx1
import Derived.Deep.RegionWith
namespace Go.Proofs.YtlfkjbdkbdcdnaaGreatDoor
open Go.RowKit Go.Maps Go.MapKept

/-- What a look-up answers, whatever the text. -/
def lkV (xs : List (Str × Value)) (k : Str) : Value := if (ByteArray.mk k.toArray).size ≤ maxLen then (getP k xs).getD (.slice none 0 0) else .slice none 0 0
theorem lkV_short {xs : List (Str × Value)} {k : Str} (h : k.length ≤ 100000) : lkV xs k = (getP k xs).getD (.slice none 0 0) := if_pos (by simp [ByteArray.size]; unfold maxLen; omega)
theorem lookAny {w : World} {b n : Nat} {xs : List (Str × Value)} (h : w.ownsMap Tryz.prog 9 heldR b n (mapV xs)) (k : Str) :
    (Instr.lookup 93 (.map (some b)) (S k) false).run Tryz.prog w = .ok (lkV xs k) w := by
  have hz0 : (zeroValue 22).run Tryz.prog w = .ok (.slice none 0 0) w := by kernel_rfl
  by_cases hk : (ByteArray.mk k.toArray).size ≤ maxLen
  · have hkey : keyOf Tryz.prog 9 (S k) = some (.string k) := by
      unfold keyOf mapKey
      rw [Tryz.underlying9]
      simp [hk]
    obtain ⟨v, ps, h1, h2⟩ := h.lookup (string_keyed Tryz.underlying9) Tryz.underlying93 hz0 (zd := .held (.slice none 0 0)) (zp := []) rfl hkey
    rw [at_mapV] at h2
    simp only [heldR, Option.some.injEq, Prod.mk.injEq, DataW.held.injEq] at h2
    rw [h1, h2.1, lkV, if_pos hk]
  · rw [lkV, if_neg hk]
    obtain ⟨es, clock, hb, F, _, _⟩ := h
    have hks : ∀ x ∈ es.toList, ∃ s : ByteArray, x.key = .string s ∧ s.size ≤ maxLen := fun x hx => by
      obtain ⟨l, hl⟩ := F.keys x hx
      obtain ⟨s', e, hs, _⟩ := WideMaps.string_of_keyOf Tryz.underlying9 hl
      exact ⟨s', e, by assumption⟩
    have hks' : ∀ x ∈ es.toList, IsKey .string x.key := fun x hx => by
      obtain ⟨s, e, _⟩ := hks x hx
      rw [e]; trivial
    have hfind : Instr.findNow .string (S k) es.toList 0 = some none := by
      rcases findNow_spec (d := .string) (k := S k) trivial es.toList 0 hks' with ⟨h1, _⟩ | ⟨j, e0, _, h2, h3⟩
      · exact h1
      · obtain ⟨s, e, hs⟩ := hks e0 (List.mem_of_getElem? h2)
        rw [e] at h3
        cases h3
        exact absurd hs hk
    have h1 := run_findKey (P := Tryz.prog) (w := w) Tryz.underlying9 hfind
    have h2 : (Instr.checkKey es.isEmpty 10000 9 (S k)).run Tryz.prog w = .ok () w := run_checkKey Tryz.underlying9 (d := .string) (k := S k) trivial es.isEmpty 9999
    simp [Instr.lookup, run_underlying Tryz.underlying93, MapKept.run_getObj_map hb, h2, h1, hz0, Result.andThen]
/-- A group as the range over the keys makes it. -/
def gvOf (xs : List (Str × Value)) (k : Str) : Gv := match lkV xs k with
  | .slice a n c => ⟨k, a, n, c⟩
  | _ => ⟨k, none, 0, 0⟩
theorem lkV_form {xs : List (Str × Value)} (hf : ∀ k v, getP k xs = some v → ∃ a n c, v = .slice a n c) (k : Str) : ∃ a n c, lkV xs k = .slice a n c := by
  unfold lkV
  split
  · cases hg : getP k xs with
    | none => exact ⟨_, _, _, rfl⟩
    | some v => obtain ⟨a, n, c, e⟩ := hf k v hg; exact ⟨a, n, c, e⟩
  · exact ⟨_, _, _, rfl⟩
theorem gvOf_enc {xs : List (Str × Value)} (hf : ∀ k v, getP k xs = some v → ∃ a n c, v = .slice a n c) (k : Str) : encG (gvOf xs k) = [S k, lkV xs k] := by
  obtain ⟨a, n, c, e⟩ := lkV_form hf k
  unfold gvOf
  rw [e]
theorem gvOf_name (xs : List (Str × Value)) (k : Str) : (gvOf xs k).name = k := by
  unfold gvOf; split <;> rfl
end Go.Proofs.YtlfkjbdkbdcdnaaGreatDoor
namespace Go.Proofs
open Go.Shelf
def Tryz.keysG_ren : Go.Shelf.Ren := ⟨fun | 7 => 57 | 10 => 109 | n => n, fun | 23 => 93 | 26 => 9 | 3 => 22 | 28 => 100 | 0 => 0 | 27 => 99 | 33 => 151 | 4 => 4 | n => n, fun | n => n⟩
theorem Tryz.keysG : Go.Proofs.SlLaysZ.n7 Tryz.prog Tryz.keysG_ren := {
  mixed := by kernel_rfl
  f7 := ⟨Tryz.f57.name, by decide, Tryz.func57.trans (congrArg some (by kernel_rfl))⟩
  f10 := ⟨Tryz.f109.name, by decide, Tryz.func109.trans (congrArg some (by kernel_rfl))⟩
  t0 := Tryz.underlying0
  a0 := Tryz.isAgg0
  z0 := Tryz.sizeOf0
  v0 := Tryz.zeroValue0
  t4 := Tryz.underlying4
  a4 := Tryz.isAgg4
  z4 := Tryz.sizeOf4
  v4 := Tryz.zeroValue4
  t23 := Tryz.underlying93
  a23 := Tryz.isAgg93
  z23 := Tryz.sizeOf93
  v23 := Tryz.zeroValue93
  t26 := Tryz.underlying9
  a26 := Tryz.isAgg9
  z26 := Tryz.sizeOf9
  v26 := Tryz.zeroValue9
  t27 := Tryz.underlying99
  a27 := Tryz.isAgg99
  z27 := Tryz.sizeOf99
  v27 := Tryz.zeroValue99
  t28 := Tryz.underlying100
  a28 := Tryz.isAgg100
  z28 := Tryz.sizeOf100
  v28 := Tryz.zeroValue100
  t33 := Tryz.underlying151
  a33 := Tryz.isAgg151
  z33 := Tryz.sizeOf151
  v33 := Tryz.zeroValue151 }
end Go.Proofs
namespace Go.Proofs.YtlfkjbdkbdcdnaaGreatDoor
open Go.RowKit Go.Maps Go.Shelf

theorem infoG : (Tryz.prog.info? 32).map (fun i => (i.zero, i.size, i.bytes)) = some (some (.agg #[.string ByteArray.empty, .slice none 0 0]), 2, 40) := by kernel_rfl
theorem keysG_any (mb : Option Nat) (W : World) : Calls Tryz.prog 57 #[.map mb] W fun e w' => e = .returned (.func (.func 109) #[] #[.pointer (some ⟨W.heap.size, 0, none⟩)]) ∧ w' = W.alloc (.cells #[.map mb] 93) :=
  (callsIn_wide (n := 5)).1 (AnyZ.keys_in Tryz.keysG Fence.wide 5 trivial rfl mb W)
/-- Where the loop over rows stands: the map's variable lies in block M, the map in block b, k rows have come. -/
def Mid (f : Rw → Str) (l : List Rw) (w0 : World) (M b Bq k : Nat) (w : World) : Prop :=
  ∃ (xs : List (Str × Value)) (n : Nat), n ≤ k ∧ RisP xs ∧ w.heap[M]? = some (.cells #[.map (some b)] 93 (0, 0)) ∧ w.ownsMap Tryz.prog 9 heldR b n (mapV xs) ∧ Held Bq w xs (splitG f (l.take k)) ∧ Below w0.heap.size w0 w
theorem Mid.below {f : Rw → Str} {l : List Rw} {w0 w w' : World} {M b Bq k : Nat} (h : Mid f l w0 M b Bq k w) (hb : Below w.heap.size w w') : Mid f l w0 M b Bq k w' := by
  obtain ⟨xs, n, h1, h2, h3, h4, h5, h6⟩ := h
  exact ⟨xs, n, h1, h2, (hb.block M (Array.getElem?_eq_some_iff.1 h3).1).trans h3, h4.kept (row := none) ⟨hb.os, hb.tape, hb.output, hb.size, fun k hk _ => hb.block k hk⟩ (by simp), h5.below hb, h6.trans (hb.mono h6.size)⟩
theorem map0 {w : World} {M b : Nat} (h : w.heap[M]? = some (.cells #[.map (some b)] 93 (0, 0))) : w.cell? ⟨M, 0, none⟩ = some (.map (some b)) := by simp [World.cell?, h]

/-- An append in a region that draws, by what it is known to answer. -/
theorem step_run_app {P : Program} {ops : Array Oper} {o : Oper} {a : Act} {w : World} {K : Act → World → Prop} {Q : Exit → Act → World → Prop} {E : Prop}
    (hg : o.guard = none) (s x : Operand) (t : TypeId) (hop : o.op = Op.call { callee := Callee.builtin Builtin.append, args := #[s, x], argTypes := #[t, t] })
    (sv xv : Value) (hs : a.eval s = sv) (hx : a.eval x = xv) {v' : Value} {w' : World} (hrun : (Builtin.append_ #[t, t] o.type #[sv, xv]).run P w = .ok v' w') (hK : K (a.put o.dst v') w') :
    if Region.wanted o (yielded ops a.tmps) = true then Oper.wp P o a w K Q else E := by
  have hw : Region.wanted o (yielded ops a.tmps) = true := by simp [Region.wanted, hg]
  rw [if_pos hw]
  unfold Oper.wp execOp
  simp only [hop, resolve, invoke, builtin, Sem.run_bind, Sem.run_pure, Result.andThen_ok, List.map_toArray, List.map_cons, List.map_nil, hs, hx, hrun]
  exact hK
theorem splitG_at {f : Rw → Str} {l : List Rw} (k : Str) : ((getP k (splitG f l)).getD []).length ≤ l.length := by
  cases h : getP k (splitG f l) with
  | none => simp
  | some m => exact (splitG_len f l).2 _ (getP_mem h)
/-- One round: the slice under the row's name has been appended to; the map is written. -/
theorem Mid.step {f : Rw → Str} {l : List Rw} {w0 w : World} {mb k n : Nat} {xs : List (Str × Value)} (hnk : n ≤ k) (hk : k < 10000) (hrx : RisP xs) (hblk : w.heap[mb + 1]? = some (.cells #[.map (some mb)] 93 (0, 0)))
    (hom : w.ownsMap Tryz.prog 9 heldR mb n (mapV xs)) (hheld : Held (mb + 2) w xs (splitG f (l.take k))) (hbw : Below w0.heap.size w0 w) (hw0 : w0.heap.size ≤ mb) {x : Rw} (hxk : l[k]? = some x) (hfx : (f x).length ≤ 100000) (o : Obj) {v6 : Value} {w6 : World}
    (hown : w6.ownsRow (mb + 2) 36 3 v6 (((getP (f x) (splitG f (l.take k))).getD []).length + 1) (((getP (f x) (splitG f (l.take k))).getD []).flatMap encR ++ encR x))
    (hg : (w.alloc o).grownBy w6 ((getP (f x) xs).getD (.slice none 0 0)).ownBlock) (hn : v6.ownBlock = ((getP (f x) xs).getD (.slice none 0 0)).ownBlock ∨ v6.ownBlock = some (w.alloc o).heap.size) :
    w6.cell? ⟨mb + 1, 0, none⟩ = some (.map (some mb)) ∧ ∃ w7, (Instr.mapUpdate 93 (.map (some mb)) (S (f x)) v6).run Tryz.prog w6 = .ok () w7 ∧ Mid f l w0 (mb + 1) mb (mb + 2) (k + 1) w7 := by
  have hlt : mb + 1 < w.heap.size := (Array.getElem?_eq_some_iff.1 hblk).1
  have hba : Below w.heap.size w (w.alloc o) := (Below.refl _ _).alloc (Nat.le_refl _) _
  have hheldA := hheld.below hba
  have hatA := hheldA.at (f x)
  have hvb : ∀ b, ((getP (f x) xs).getD (.slice none 0 0)).ownBlock = some b → mb + 2 ≤ b := fun b hb => (World.ownsRow.lt hatA b hb).1
  have hblkA : (w.alloc o).heap[mb + 1]? = some (.cells #[.map (some mb)] 93 (0, 0)) := (hba.block _ hlt).trans hblk
  have hblk6 : w6.heap[mb + 1]? = some (.cells #[.map (some mb)] 93 (0, 0)) := (hg.block (mb + 1) (by simp; omega) (fun e => by have := hvb _ e.symm; omega)).trans hblkA
  have hom6 : w6.ownsMap Tryz.prog 9 heldR mb n (mapV xs) := (hom.alloc o).kept hg (fun e => by have := hvb _ e.symm; omega)
  obtain ⟨w7, h1, h2, h3⟩ := updG hom6 (f x) hfx (by unfold maxLen; omega) v6
  refine ⟨map0 hblk6, w7, h1, putP (f x) v6 xs, n + 1, by omega, putP_rising hrx, (h3.block (mb + 1) (Array.getElem?_eq_some_iff.1 hblk6).1 (by simp)).trans hblk6, h2, ?_, ?_⟩
  · rw [take_snoc' hxk, splitG_snoc]
    have hput := hheldA.put hrx (splitG_rising f _) (f x) hg (Own.snoc hown) hn
    refine hput.kept h3 fun j u b hj hb e => ?_
    cases e
    obtain ⟨m, -, ho⟩ := hput.own j u hj
    have := (World.ownsRow.lt ho _ hb).1
    omega
  · have hb6 : Below w0.heap.size w0 w6 := (hbw.alloc hbw.size o).grown hg (by have := hbw.size; simp; omega) (fun j e => by have := hvb _ e; omega)
    exact hb6.grown h3 hb6.size (fun j e => by cases e; omega)
theorem group_len {k : Str} {n : Int} {r : Rw} (hk : RightSp k n) (hr : rowCheck r = 0) (hl : r.part.length ≤ 100000) : (groupIn k n r).length ≤ 100000 := by
  obtain ⟨-, hfar, -⟩ := rowCheck_zero hr
  unfold groupIn
  split
  · exact hl
  · rename_i hp
    obtain ⟨-, hn1, hn2⟩ := hk.resolve_left hp
    obtain ⟨-, -, ⟨q1, q2⟩, -⟩ := floor_bound hn1 hn2 hfar
    have e5 := Int.emod_nonneg r.key (show n ≠ 0 by omega)
    have e6 := Int.emod_lt_of_pos r.key (show 0 < n by omega)
    have l1 := itoa_len (r.key % n) (by omega) (by omega)
    have l2 := itoa_len (-(r.key / n)) (by omega) (by omega)
    have l3 := itoa_len (r.key / n) (by omega) (by omega)
    split
    · simp; omega
    · split
      · simp; omega
      · simp; omega

/-- append, shut: so that a walk meets its equation and does not lay it open. -/
def shutAppend (argTypes : Array TypeId) (type : TypeId) (args : Array Value) : Sem Value := Builtin.append_ argTypes type args
theorem shutAppend_eq (argTypes : Array TypeId) (type : TypeId) (args : Array Value) : Builtin.append_ argTypes type args = shutAppend argTypes type args := rfl
/-- A slice's row is not the box that holds the slice. -/
theorem own_up {W : World} {B : Nat} {t e : TypeId} {sz n : Nat} {v : Value} {ys : List Value} (hv : Boxed W B t v) (hte : t ≠ e) (h : W.ownsRow B e sz v n ys) : W.ownsRow (B + 1) e sz v n ys := by
  have hne := hv.not_row hte h
  refine ⟨h.1, h.2.imp id ?_⟩
  rintro ⟨g, cap, cur, rfl, hb, hg, h3⟩
  refine ⟨g, cap, cur, rfl, ?_, hg, h3⟩
  have : B ≠ g := fun e' => hne (by rw [e']; rfl)
  omega
theorem gvOf_sl {xs : List (Str × Value)} (hf : ∀ k v, getP k xs = some v → ∃ a n c, v = .slice a n c) (k : Str) : (gvOf xs k).sl = lkV xs k := by
  have h := gvOf_enc hf k
  simp only [encG, List.cons.injEq, and_true] at h
  exact h.2
/-- The groups sorted are the groups by rising names. -/
theorem groups_sorted {xs : List (Str × Value)} (hx : RisP xs) {ss : List Str} (hp : ss.Perm (xs.map (·.1))) {m : List Gv} (hm : m.Perm (ss.map (gvOf xs))) (hs : m.Pairwise (fun a b => bef b.name a.name = false)) : m = (xs.map (·.1)).map (gvOf xs) := by
  refine List.Perm.eq_of_pairwise (le := fun a b : Gv => bef b.name a.name = false) (fun a b ha hb h1 h2 => ?_) hs ?_ (hm.trans (hp.map _))
  · obtain ⟨j, hj, rfl⟩ := List.mem_map.1 (hm.mem_iff.1 ha)
    obtain ⟨k, hk, rfl⟩ := List.mem_map.1 hb
    rw [gvOf_name, gvOf_name] at h1 h2
    by_cases e : j = k
    · rw [e]
    · have := bef_tri e h2
      rw [this] at h1; cases h1
  · refine List.pairwise_map.2 (List.pairwise_map.2 (hx.imp fun {a b} hab => ?_))
    rw [gvOf_name, gvOf_name]
    cases h : bef b.1 a.1 with
    | false => rfl
    | true => have := bef_trans hab h; rw [bef_irr] at this; cases this
/-- What the groups hold. -/
theorem groups_at {f : Rw → Str} {l : List Rw} {B : Nat} {w w' : World} {xs : List (Str × Value)} (h : Held B w xs (splitG f l)) (hb : Below w.heap.size w w') (hf : ∀ r ∈ l, (f r).length ≤ 100000) {vg : Value} (hv : At encG 2 w' vg ((xs.map (·.1)).map (gvOf xs))) : GroupsAt w' vg (splitG f l) := by
  have hform : ∀ k v, getP k xs = some v → ∃ a n c, v = .slice a n c := fun k v hk => by
    obtain ⟨m, -, ho⟩ := h.own k v hk
    obtain ⟨a, c, b, o, e, -⟩ := ho.at encR_enc
    exact ⟨a, _, c, e⟩
  refine ⟨_, hv, ?_, ?_⟩
  · rw [List.map_map, List.map_map, ← h.keys]
    exact List.map_congr_left fun x _ => gvOf_name _ _
  · intro j x g hx hg
    have hlen : xs.length = (splitG f l).length := by
      have := congrArg List.length h.keys
      simpa using this
    have hj : j < (splitG f l).length := (List.getElem?_eq_some_iff.1 hg).1
    have hgj := (List.getElem?_eq_some_iff.1 hg).2
    have hkey : (xs[j]'(by omega)).1 = g.1 := by
      have := congrArg (fun q => q[j]?) h.keys
      simp only [List.getElem?_map, List.getElem?_eq_getElem hj, List.getElem?_eq_getElem (show j < xs.length by omega), Option.map_some, Option.some.injEq] at this
      rw [this, hgj]
    have hxe : x = gvOf xs g.1 := by
      rw [List.getElem?_map, List.getElem?_map, List.getElem?_eq_getElem (show j < xs.length by omega)] at hx
      simp only [Option.map_some, Option.some.injEq] at hx
      rw [← hx, hkey]
    have hgm : (g.1, g.2) ∈ splitG f l := List.mem_of_getElem? hg
    have hget : getP g.1 (splitG f l) = some g.2 := getP_of_mem (splitG_rising f l) hgm
    obtain ⟨hne, hr⟩ := splitG_mem f l _ hgm
    have hlen2 : g.1.length ≤ 100000 := by
      obtain ⟨r, hrm⟩ := List.exists_mem_of_ne_nil _ hne
      have hrl : r ∈ l := (splitG_perm f l).mem_iff.1 (List.mem_flatMap.2 ⟨_, hgm, hrm⟩)
      have := hf r hrl
      rwa [hr r hrm] at this
    have ho := h.at g.1
    rw [hget] at ho
    rw [hxe, gvOf_sl hform, lkV_short hlen2]
    exact (ho.at encR_enc).below hb

attribute [local go_sem] Oper.semAt_some
attribute [local go_sem ↓] shutAppend_eq in
set_option maxHeartbeats 4000000 in
set_option maxRecDepth 20000 in
theorem partSplit_any (E : Nat → Addr) (B : Nat) (s : Str) (v : Value) (l : List Rw) (w : World) (hE : Errs [1, 2, 5] E B w) (hT : LNum B w) (hM : LMax B w) (hl : RowsAt w v l) (hs : s.length ≤ 100000) (hn : l.length ≤ 10000) (hr : ∀ r ∈ l, r.part.length ≤ 100000) :
    Calls Tryz.prog 13 #[S s, v] w fun e w' => ∃ vg ev, e = .returned (.tuple #[vg, ev]) ∧ ErV E w' ev (splitEr s l) ∧ (splitEr s l ≠ .nil → vg = .slice none 0 0) ∧ (splitEr s l = .nil → GroupsAt w' vg (splitG (groupOf s) l)) ∧ Below w.heap.size w w' := by
  have hif := isIfaceE
  have hBw := hE.le
  have X := Lib.hid (fun W (h : Below w.heap.size w W) => (⟨hE.below' h hBw, hT.below' h hBw, hM.below' h hBw⟩ : Errs [1, 2, 5] E B W ∧ LNum B W ∧ LMax B W))
  obtain ⟨a, c, b, o, rfl, ha, hc, hcm, hx⟩ := hl
  unfold maxLen at hcm
  have hmm := @run_makeMap Tryz.prog
  have HX := Lib.hid hx; have HR := Lib.hid hr; have HMm := Lib.hid hmm
  have HS := Lib.hid (partSpec_any E B s w ((X.out _ (Below.refl _ _)).1.sub (by decide)) hT hM hs)
  have HSp := Lib.hid (@spec_right s)
  obtain ⟨cs, hcs⟩ : ∃ c, (specOf s).2.2 = c := ⟨_, rfl⟩
  have HEr : Hid (splitEr s l = if cs ≠ 0 then .bare cs else firstErr (rowFault l) l.length) := Lib.hid (by unfold splitEr; rw [hcs])
  have HGo : Hid (∀ r, groupOf s r = groupIn (specOf s).1 (specOf s).2.1 r) := Lib.hid (fun _ => rfl)
  have Hcs := Lib.hid hcs
  clear hcs hx hr hmm
  refine (callsIn_wide (n := 6)).1 ?_
  refine callsIn_of_wp_marks Tryz.func13 rfl trivial ?_ rfl
  refine wpIn_wide.2 ?_
  simp only [Tryz.ntmps13, List.size_toArray, List.length_cons, List.length_nil, Nat.reduceAdd, Nat.reduceSub, Array.replicate_succ, Array.replicate_zero, List.push_toArray, List.append_toArray, List.nil_append, List.cons_append]
  go_wp2_with fail
  refine HS.out.mono ?_
  rintro e w1 ⟨ev, rfl, hev, hb1⟩
  rw [Hcs.out] at hev
  by_cases h0 : cs = 0
  case neg =>
    rw [erP_bad h0] at hev
    obtain ⟨t1, x1, rfl⟩ := hev.iface (fun h => by cases h)
    have hA : splitEr s l = .bare cs := by rw [HEr.out, if_pos h0]
    have HA' := Lib.hid hA
    clear h0 hA
    go_wp2_with fail
    exact ⟨_, results_tmp2 rfl _ _ _, .slice none 0 0, .iface t1 x1, rfl, by rw [HA'.out]; exact hev, fun _ => rfl, fun h => (by rw [HA'.out] at h; cases h), hb1⟩
  subst h0
  rw [erP_nil rfl] at hev
  obtain rfl : ev = .nilIface := hev
  have hRs : RightSp (specOf s).1 (specOf s).2.1 := HSp.out Hcs.out
  generalize (specOf s).1 = kk at *
  generalize (specOf s).2.1 = nn at *
  have HRs := Lib.hid hRs
  have hmm := HMm.out
  clear hRs HS HSp
  have hb0 : Below w.heap.size w (w1.alloc (.map #[] 0)) := hb1.alloc hb1.size _
  have hb0' : Below w.heap.size w ((w1.alloc (.map #[] 0)).alloc (.cells #[.map (some w1.heap.size)] 93)) := hb0.alloc hb0.size _
  have hmid : Mid (groupOf s) l w (w1.heap.size + 1) w1.heap.size (w1.heap.size + 2) 0 ((w1.alloc (.map #[] 0)).alloc (.cells #[.map (some w1.heap.size)] 93)) := by
    refine ⟨[], 0, Nat.le_refl _, List.Pairwise.nil, ?_, (World.ownsMap_made w1 Tryz.prog 9 heldR).alloc _, Held.nil _ _, hb0'⟩
    have := heap_alloc_new (w1.alloc (.map #[] 0)) (.cells #[.map (some w1.heap.size)] 93)
    rwa [World.size_alloc] at this
  have HMid := Lib.hid hmid
  have hbm : w.heap.size ≤ w1.heap.size := hb1.size
  clear hb0 hb0' hmid
  go_upto_block 0 with fail
  generalize (w1.alloc (.map #[] 0)).alloc (.cells #[.map (some w1.heap.size)] 93) = w2 at *
  generalize w1.heap.size = mb at *
  go_cut [10, 11, 12, 13] from 28 to 54 (fun _ _ _ _ wx => Hid (∀ j < l.length, rowFault l j = 0) ∧ Mid (groupOf s) l w (mb + 1) mb (mb + 2) l.length wx)
  case first =>
    go_wp2_with fail
    go_loopw [28] (fun i wr => ∃ k : Nat, k ≤ l.length ∧ i = .int .i64 k ∧ Hid (∀ j < k, rowFault l j = 0) ∧ Mid (groupOf s) l w (mb + 1) mb (mb + 2) k wr) (fun i _ => l.length - (intOf i).toNat)
    case atStart => exact ⟨0, by omega, rfl, Lib.hid fun j hj => absurd hj (by omega), HMid.out⟩
    case round =>
      obtain ⟨k, hk, rfl, hj, hmk⟩ := hrel
      by_cases hlt : k < l.length
      case neg =>
        obtain rfl : k = l.length := by omega
        have f : decide ((l.length : Int) < (l.length : Int)) = false := by simp
        go_wp2_with fail
        go_meet
        exact ⟨hj, hmk⟩
      obtain ⟨wo, rfl⟩ : ∃ wo, wo = wr := ⟨wr, rfl⟩
      have hk1 : (k : Int) < (l.length : Int) := by omega
      go_upto_block 1 with fail
      go_cut [10, 11, 12, 13] from 30 to 53 (fun _ _ _ _ wx => Hid (∀ j < k + 1, rowFault l j = 0) ∧ Mid (groupOf s) l w (mb + 1) mb (mb + 2) (k + 1) wx)
      case rest =>
        obtain ⟨hj1, hm1⟩ := hcut
        go_wp2_with fail
        go_roundw
        case rel => exact ⟨k + 1, by omega, by go_num, hj1, hm1⟩
        case measure => simp [intOf]; omega
      case' first => skip
      obtain ⟨x, hxk⟩ := get_ex hlt
      have hbr : Below w.heap.size w wo := by obtain ⟨_, _, _, _, _, _, _, h⟩ := hmk; exact h
      obtain ⟨c0, c1, c2⟩ := rwCells HX.out hbr hxk
      have i1 := idx_at (c := c) 3 Tryz.underlying22 szRw ha k hlt
      have HRx := Lib.hid (HR.out x (List.mem_of_getElem? hxk))
      have HSn : Hid (splitG (groupOf s) (l.take (k + 1)) = putP (groupOf s x) ((getP (groupOf s x) (splitG (groupOf s) (l.take k))).getD [] ++ [x]) (splitG (groupOf s) (l.take k))) := Lib.hid (by rw [take_snoc' hxk, splitG_snoc])
      have HFk : Hid (rowFault l k = rowCheck x) := Lib.hid (by unfold rowFault; rw [hxk])
      have hba : Below wo.heap.size wo (wo.alloc (.cells #[S x.part, .int .i64 x.key, .int .i64 x.val] 36)) := (Below.refl _ _).alloc (Nat.le_refl _) _
      have hb3 : Below w.heap.size w (wo.alloc (.cells #[S x.part, .int .i64 x.key, .int .i64 x.val] 36)) := hbr.alloc hbr.size _
      have hm3 := hmk.below hba
      have CR := Lib.hid (fun W (h : Below (wo.alloc (.cells #[S x.part, .int .i64 x.key, .int .i64 x.val] 36)).heap.size (wo.alloc (.cells #[S x.part, .int .i64 x.key, .int .i64 x.val] 36)) W) => rowCells (r := x) (w := wo) rfl h)
      have HM3 := Lib.hid hm3
      have Hxk := Lib.hid hxk
      clear hm3 hmk hba hxk
      go_wp2_with fail
      generalize wo.alloc (.cells #[S x.part, .int .i64 x.key, .int .i64 x.val] 36) = w3 at *
      refine (rowCheck_any E B x _ ((X.out _ hb3).1.sub (by decide)) HRx.out).mono ?_
      rintro e w4 ⟨ev, rfl, hev, hb34⟩
      have hb4 := hb3.trans (hb34.mono hb3.size)
      have HM4 := Lib.hid (HM3.out.below hb34)
      clear c0 c1 c2 i1 hbr HM3
      by_cases hck : rowCheck x = 0
      case neg =>
        have hfe : rowEr x = .bare (rowCheck x) := rowEr_bad hck
        rw [hfe] at hev
        obtain ⟨hcr, rfl⟩ := hev
        have HL : Hid (splitEr s l = .loc (rowCheck x) k) := Lib.hid (by
          rw [HEr.out, if_neg (by simp), firstErr_hit hlt hj.out (by rw [HFk.out]; exact hck), HFk.out])
        clear hfe hck HM4 HSn
        generalize rowCheck x = cx at *
        go_wp2_with fail
        exact ⟨_, results_tmp2 rfl _ _ _, .slice none 0 0, _, rfl, by rw [HL.out]; exact ErV.fresh hcr _ _ _ _ rfl, fun _ => rfl, fun h => (by rw [HL.out] at h; cases h), hb4.alloc hb4.size _⟩
      rw [rowEr_nil hck] at hev
      obtain rfl : ev = .nilIface := hev
      have HNm := Lib.hid (partName_any B kk nn x w4 (X.out _ hb4).2.1 HRs.out hck)
      have hgx : groupIn kk nn x = groupOf s x := (HGo.out x).symm
      rw [hgx] at HNm
      have hgl : (groupOf s x).length ≤ 100000 := by rw [HGo.out]; exact group_len HRs.out hck HRx.out
      have HCk := Lib.hid hck
      clear hck hgx hb3
      obtain ⟨c0, c1, c2⟩ := CR.out w4 hb34
      go_wp2_with fail
      refine HNm.out.mono ?_
      rintro e w5 ⟨rfl, hb45⟩
      have hb35 := hb34.trans (hb45.mono hb34.size)
      have hb5 := hb4.trans (hb45.mono hb4.size)
      have hb5d : Below w.heap.size w w5.drew := hb5.drew
      have hb35d := hb35.drew
      have hm5 : Mid (groupOf s) l w (mb + 1) mb (mb + 2) k w5.drew := (HM4.out.below hb45).below (Below.refl w5.heap.size w5).drew
      clear c0 c1 c2
      obtain ⟨c0, c1, c2⟩ := CR.out _ hb35d
      obtain ⟨xs, n, hnk, hrx, hblk, hom, hheld, -⟩ := hm5
      have hkl : (groupOf s x).length ≤ 100000 := hgl
      have cM := map0 hblk
      have hlk0 := lookG hom (groupOf s x) hkl
      have hlk1 := lookG (hom.alloc (.cells #[S x.part, .int .i64 x.key, .int .i64 x.val] 36)) (groupOf s x) hkl
      have hat := (hheld.below ((Below.refl w5.drew.heap.size w5.drew).alloc (Nat.le_refl _) (.cells #[S x.part, .int .i64 x.key, .int .i64 x.val] 36))).at (groupOf s x)
      have hgl2 := splitG_at (f := groupOf s) (l := l.take k) (groupOf s x)
      have hgl3 : ((getP (groupOf s x) (splitG (groupOf s) (l.take k))).getD []).length ≤ 10000 := by rw [List.length_take] at hgl2; omega
      have hsz : mb + 2 ≤ w5.heap.size := (Array.getElem?_eq_some_iff.1 hblk).1
      obtain ⟨a0, c0v, hv0⟩ := hheld.form (groupOf s x)
      have HStep := Lib.hid (fun v6 w6 h1 h2 h3 => Mid.step (l := l) (x := x) hnk (by omega) hrx hblk hom hheld hb5d hbm Hxk.out hkl (.cells #[S x.part, .int .i64 x.key, .int .i64 x.val] 36) (v6 := v6) (w6 := w6) h1 h2 h3)
      have HGl := Lib.hid hgl3; have HSz := Lib.hid hsz; have HAt := Lib.hid hat
      obtain ⟨v6, w6, happ, hown6, hg6, hn6⟩ := run_app (P := Tryz.prog) (w5.drew.alloc (.cells (encR x).toArray 36)) (mb + 2) 22 22 36 3 32 elRw ((getP (groupOf s x) xs).getD (.slice none 0 0)) ((getP (groupOf s x) (splitG (groupOf s) (l.take k))).getD []).length _ hat (.slice (some ⟨w5.drew.heap.size, 0, none⟩) 1 1) 1 (encR x) (src_one rfl rfl (by simp [Value.oneCell'])) (by unfold maxLen; omega) (by omega) (by simp; omega)
      obtain ⟨cM6, w7, hup, hm7⟩ := HStep.out v6 w6 hown6 hg6 hn6
      have HM7 := Lib.hid hm7
      have cMa : (w5.alloc (.cells #[S x.part, .int .i64 x.key, .int .i64 x.val] 36)).drew.cell? ⟨mb + 1, 0, none⟩ = some (.map (some mb)) := ((((Below.refl w5.drew.heap.size w5.drew).alloc (Nat.le_refl _) (.cells #[S x.part, .int .i64 x.key, .int .i64 x.val] 36)).cell (p := ⟨mb + 1, 0, none⟩) (World.block_lt_of_cell? _ _ cM)).trans cM)
      rw [hv0] at hlk0 hlk1 happ
      have hlk1' : (Instr.lookup 93 (.map (some mb)) (S (groupOf s x)) false).run Tryz.prog (w5.alloc (.cells #[S x.part, .int .i64 x.key, .int .i64 x.val] 36)).drew = .ok (.slice a0 ((getP (groupOf s x) (splitG (groupOf s) (l.take k))).getD []).length c0v) (w5.alloc (.cells #[S x.part, .int .i64 x.key, .int .i64 x.val] 36)).drew := hlk1
      have happ' : (shutAppend #[22, 22] 22 #[.slice a0 ((getP (groupOf s x) (splitG (groupOf s) (l.take k))).getD []).length c0v, .slice (some ⟨w5.heap.size, 0, none⟩) 1 1]).run Tryz.prog (w5.alloc (.cells #[S x.part, .int .i64 x.key, .int .i64 x.val] 36)).drew = .ok v6 w6 := happ
      clear hnk hrx hheld hom hgl2 hgl3 hsz hat hb45 hb34 hb35 hb35d hown6 hg6 hn6 hm7 HStep HGl HSz HAt hblk hlk1 happ hv0
      generalize ((getP (groupOf s x) (splitG (groupOf s) (l.take k))).getD []).length = n0 at *
      have HJ1 : Hid (∀ j < k + 1, rowFault l j = 0) := Lib.hid fun j hj' => (by
          rcases Nat.lt_or_ge j k with h | h
          · exact hj.out j h
          · obtain rfl : j = k := by omega
            exact HFk.out.trans HCk.out)
      go_wp2_with fail
      go_region
      all_goals
        go_wp2_with fail
        go_meet
        exact ⟨HJ1, HM7.out⟩
  case rest =>
    obtain ⟨hj, hm⟩ := hcut
    obtain ⟨xs, n, hnk, hrx, hblk, hom, hheld, hbw⟩ := hm
    have hMlt : mb + 1 < wc.heap.size := (Array.getElem?_eq_some_iff.1 hblk).1
    have hba : Below wc.heap.size wc (wc.alloc (.cells #[.slice none 0 0] 25)) := (Below.refl _ _).alloc (Nat.le_refl _) _
    have hblkA := (hba.block _ hMlt).trans hblk
    have cM := map0 hblkA
    have bO := Boxed.new wc 25 (.slice none 0 0)
    have homA := hom.alloc (.cells #[.slice none 0 0] 25)
    have hheldA := hheld.below hba
    have hbA : Below w.heap.size w (wc.alloc (.cells #[.slice none 0 0] 25)) := hbw.alloc hbw.size _
    have hEr : Hid (splitEr s l = .nil) := Lib.hid (by rw [HEr.out, if_neg (by simp), firstErr_all hj.out])
    have hform : ∀ k v, getP k xs = some v → ∃ a n c, v = .slice a n c := fun k v hk => by
      obtain ⟨m, -, ho⟩ := hheld.own k v hk
      obtain ⟨a, c, b, o, e, -⟩ := ho.at encR_enc
      exact ⟨a, _, c, e⟩
    have hxl : xs.length ≤ l.length := by
      have h1 := congrArg List.length hheld.keys
      rw [List.length_map, List.length_map] at h1
      rw [h1]
      have := (splitG_len (groupOf s) (l.take l.length)).1
      simpa using this
    have hom0 := hom; have hblk0 := hblk; have hbA0 := hbw
    have hgl : ∀ r ∈ l, (groupOf s r).length ≤ 100000 := fun r hr => by
      obtain ⟨j, hj', he⟩ := List.getElem_of_mem hr
      have := hj.out j hj'
      unfold rowFault at this
      rw [List.getElem?_eq_getElem hj', he] at this
      rw [HGo.out]
      exact group_len HRs.out this (HR.out r hr)
    have HHeld := Lib.hid hheld; have HRx := Lib.hid hrx; have HGl := Lib.hid hgl
    clear hba hblk hom hheld hbw hheldA hgl hj
    go_wp2_with fail
    refine (keysG_any _ _).mono ?_
    rintro e w3 ⟨rfl, rfl⟩
    go_wp2_with fail
    obtain ⟨i0, hi, hz0, hz1, hz2⟩ := info_parts infoG
    have bO0 := bO.alloc (.cells #[.map (some mb)] 93)
    have hom1 := homA.alloc (.cells #[.map (some mb)] 93)
    have hb0 : Below wc.heap.size wc ((wc.alloc (.cells #[.slice none 0 0] 25)).alloc (.cells #[.map (some mb)] 93)) := ((Below.refl _ _).alloc (Nat.le_refl _) _).alloc (by simp) _
    have hsz : ((wc.alloc (.cells #[.slice none 0 0] 25)).alloc (.cells #[.map (some mb)] 93)).heap.size = wc.heap.size + 2 := by simp
    have hcl : ((wc.alloc (.cells #[.slice none 0 0] 25)).alloc (.cells #[.map (some mb)] 93)).cell? ⟨wc.heap.size + 1, 0, none⟩ = some (.map (some mb)) := map0 (by
      have := heap_alloc_new (wc.alloc (.cells #[.slice none 0 0] 25)) (.cells #[.map (some mb)] 93)
      rwa [World.size_alloc] at this)
    refine (wpIn_wide (n := 6)).1 ?_
    have hseq := AnyZ.keys_stops (ρ := Tryz.keysG_ren) { Tryz.keysG with } Fence.wide 5 trivial rfl (by omega) (wc.heap.size + 1) mb n (mapV xs) _ (by rw [hsz]; omega) hcl hom1
    generalize (wc.alloc (.cells #[.slice none 0 0] 25)).alloc (.cells #[.map (some mb)] 93) = W0 at *
    refine wpIn_rangeFunc_ownF (F := Fence.wide) (n := 6) rfl (by omega) (gf := 109) (lb := #[.pointer (some ⟨wc.heap.size + 1, 0, none⟩)]) rfl trivial (enters_of Tryz.func109 (by kernel_rfl) rfl) (encs := fun x => #[encStr x]) (Kp := KeepsWalks) hseq walksK_t walksK_b (Below.refl _ _) (fun _ => rfl)
      (fun pre W => (∃ v, Boxed W wc.heap.size 25 v ∧ W.ownsRow wc.heap.size 32 2 v pre.length ((pre.map (gvOf xs)).flatMap encG) ∧ True) ∧ Below wc.heap.size wc W)
      (fun _ _ _ => False)
      (OwnFrom.and (Go.Own.from (holdsRow_own wc.heap.size wc.heap.size 25 32 2 (fun pre : List (List UInt8) => pre.length) (fun pre => (pre.map (gvOf xs)).flatMap encG) (fun _ _ => True)) _) (ownFrom_below (Nat.le_refl _) (by omega)))
      (fun _ _ _ _ _ hs _ _ => hs)
      ⟨⟨_, bO0, World.ownsRow_nil _ _ _ _, trivial⟩, hb0⟩ ?a1 ?assign ?body ?done ?stop
    case assign =>
      intro l x W K hK
      gi_wp2
      exact hK
    case body =>
      rintro l0 pre x W ⟨⟨v, hv, hrow, -⟩, hB⟩ hlt
      rw [size_mapV] at hlt
      have hc := hv.cell
      have cM := map0 ((hB.block _ hMlt).trans hblk0)
      have homW := hom0.kept (row := none) ⟨hB.os, hB.tape, hB.output, hB.size, fun k hk _ => hB.block k hk⟩ (by simp)
      have hlk := lookAny homW x
      obtain ⟨a5, n5, c5, h5⟩ := lkV_form hform x
      rw [h5] at hlk
      have henc := gvOf_enc hform x
      rw [h5] at henc
      have HEnc := Lib.hid henc
      clear henc h5 homW
      gi_wp2_with (gi_at_builtin; refine wpListIn_append_own _ rfl _ _ 25 rfl wc.heap.size 32 i0 _ 2 40 Tryz.underlying25 hi hz0 hz1 hz2 rfl (by decide) _ _ _ rfl (hrow.alloc _) ⟨W.heap.size, 0, none⟩ 1 1 [S x, .slice a5 n5 c5] rfl rfl (cells_new3 _ _ _) (by simp [Value.oneCell']) (by unfold maxLen; omega) (by omega) (by have := hB.size; simp; omega) ?_; intro v' w1 hown' hgrow _; obtain ⟨g', cap', rfl⟩ := ownsRow_succ hown'; obtain ⟨hv1, hv2, hr2, hk2, hb2⟩ := hv.appended (by decide) hrow hB.size (Nat.le_refl _) hown' hgrow; have hc1 := hv1.cell; have hf1 := hv1.frozen)
      exact ⟨hk2, hk2.walks, ⟨⟨_, hv2, by rw [List.map_append, List.flatMap_append, List.map_cons, List.map_nil, List.flatMap_cons, List.flatMap_nil, List.append_nil, HEnc.out, List.length_append]; exact hr2, trivial⟩, hB.trans hb2⟩⟩
    case done =>
      rintro D ss W hD ⟨hp, -⟩ ⟨⟨v, hv, hrow, -⟩, hB⟩ hK
      rw [keys_mapV] at hp
      have hc := hv.cell
      have hown : Own encG 32 2 (wc.heap.size + 1) W v (ss.map (gvOf xs)) := by
        unfold Own
        rw [List.length_map]
        exact own_up hv (by decide) hrow
      have hsl : (ss.map (gvOf xs)).length ≤ 100000 := by
        rw [List.length_map, hp.length_eq, List.length_map]; omega
      have HSort := Lib.hid (sortFuncG_any (wc.heap.size + 1) v (ss.map (gvOf xs)) W hown hsl)
      have HV := Lib.hid (hv.not_row (by decide) hrow)
      have HDv : Hid (some D ≠ v.ownBlock) := Lib.hid (by
        intro e
        rcases hrow.2 with ⟨rfl, _⟩ | ⟨g, cap, cur, rfl, _, hgb, _⟩
        · cases e
        · simp only [Value.ownBlock, Option.some.injEq] at e
          subst e
          rw [hK] at hgb; cases hgb)
      have HBv : Hid (∀ k, v.ownBlock = some k → wc.heap.size ≤ k) := Lib.hid fun k hk => (World.ownsRow.lt hrow k hk).1
      have HEr2 := Lib.hid hEr.out; have Hp := Lib.hid hp; have HhD := Lib.hid hD; have HRow := Lib.hid hrow; have HB2 := Lib.hid hB
      clear hown hsl hseq hform bO bO0 hom1 hom0 homA hcl hmm HMm X HX HR HMid cM hblkA hblk0 hrow hp hD
      go_wp2_with (go_at_call 58; refine HSort.out.mono ?_; rintro e w4 ⟨rfl, m, hpm, hsm, hownm, hg4⟩; have hv4 := hv.kept hg4 HV.out; have hc4 := hv4.cell; have hK4 := (hg4.block D (Array.getElem?_eq_some_iff.1 hK).1 HDv.out).trans hK; have hB4 := hB.grown hg4 hB.size HBv.out)
      refine ⟨by simp, .inl ⟨_, _, rfl, run_takeDeferred hK4, ?_⟩⟩
      obtain rfl := groups_sorted HRx.out Hp.out hpm hsm
      have hD := HhD.out
      have hb5 : ∀ o', Below wc.heap.size wc (w4.putObj D o') := fun o' => hB4.trans (belowK_b (w := wc) (Nat.le_refl _) w4 D _ o' (by omega) hK4 rfl rfl)
      refine ⟨_, results_tmp2 rfl _ _ _, v, .nilIface, rfl, by rw [hEr.out]; rfl, fun h => absurd hEr.out h, fun _ => ?_, hbA0.trans ((hb5 _).mono hbA0.size)⟩
      have hh := HHeld.out
      rw [List.take_length] at hh
      exact groups_at hh (hb5 _) HGl.out (Own.at (e := 32) (B := wc.heap.size + 1) encG_enc (ownsRow_putObj hownm _ hK4 rfl))
    case stop =>
      rintro D c pre W _ _ h _
      exact h.elim
end Go.Proofs.YtlfkjbdkbdcdnaaGreatDoor
namespace Go.Proofs.YtlfkjbdkbdcdnaaGreatDoor
open Go.RowKit

set_option maxHeartbeats 1000000 in
set_option maxRecDepth 20000 in
theorem rowRead_any (E : Nat → Addr) (B : Nat) (s : Str) (w : World) (hE : Errs [1, 2, 5] E B w) (hT : LNum B w) (hM : LMax B w) (hs : s.length ≤ 10000) :
    Calls Tryz.prog 87 #[S s] w fun e w' => ∃ ev, e = .returned (.tuple #[rowV (rowRead s).1, ev]) ∧ ErV E w' ev (erOf (rowRead s).2) ∧ Below w.heap.size w w' := by
  have hBw := hE.le
  have hif := isIfaceE
  have hwl : (cutAt 32 s).length ≤ 10001 := by
    have := cutAt_length 32 s
    have h2 : s.count 32 ≤ s.length := List.count_le_length
    omega
  have hws : ∀ p ∈ cutAt 32 s, p.length ≤ 10000 := fun p hp => by
    have := cutAt_mem_len (c := 32) hp; omega
  have V0 := fun w6 (h : Below w.heap.size w w6) => (hE.below' h hBw).var 1 (by decide)
  simp only [errG] at V0
  have V := Lib.hid V0
  clear V0
  have hba : Below w.heap.size w (w.alloc (.cells #[S [], .int .i64 0, .int .i64 0] 36)) := (Below.refl _ _).alloc (Nat.le_refl _) _
  have hsp := split1_any B s 32 (w.alloc (.cells #[S [], .int .i64 0, .int .i64 0] 36)) (hM.below' hba hBw) (by omega)
  have hcs := fun w6 (h : Below (w.alloc (.cells #[S [], .int .i64 0, .int .i64 0] 36)).heap.size (w.alloc (.cells #[S [], .int .i64 0, .int .i64 0] 36)) w6) => rowCells (r := zeroR) rfl h
  have CZ := Lib.hid hcs; clear hcs
  have hhg := fun w6 (h : Below (w.alloc (.cells #[S [], .int .i64 0, .int .i64 0] 36)).heap.size (w.alloc (.cells #[S [], .int .i64 0, .int .i64 0] 36)) w6) => (h.block w.heap.size (by simp)).trans (heap_alloc_new w (.cells #[S [], .int .i64 0, .int .i64 0] 36))
  have HG := Lib.hid hhg; clear hhg
  have hgE : (¬ (2 = w.heap.size)) ∧ ¬ (w.heap.size = 2) := by
    have h := (hE.lt 1 (by decide)).2
    have h1 : errG 1 = 2 := rfl
    rw [h1] at h
    omega
  by_cases h6 : (cutAt 32 s).length = 3
  case neg =>
    have HF := Lib.hid (rowRead_none (rowOf_len h6))
    have g6 : (((cutAt 32 s).length : Int) != 3) = true := by simp; omega
    clear hws
    go_enter Tryz.func87, Tryz.ntmps87
    go_wp2_with fail
    generalize w.alloc (.cells #[S [], .int .i64 0, .int .i64 0] 36) = w1 at *
    refine hsp.mono ?_
    rintro e w2 ⟨rfl, hown, hb2⟩
    have hb2' := hba.trans (hb2.mono hba.size)
    have v1 := V.out _ hb2'
    obtain ⟨c0, c1, c2⟩ := CZ.out _ hb2
    generalize cutAt 32 s = W at *
    go_wp2_with fail
    have hg2 := HG.out _ hb2
    have fz : ∀ j, w2.frozen? ⟨w.heap.size, j, none⟩ = false := fun j => frozen_row hg2
    have f0 := fz 0; have f1 := fz 1; have f2 := fz 2
    have hn1 : ¬ (2 = w.heap.size) := hgE.1
    have hn2 : ¬ (w.heap.size = 2) := hgE.2
    go_region_law (fail)
    all_goals
      go_wp2_with fail
      refine bodyPost_ret (ret_row rfl _ _ w.heap.size 36 #[.string ⟨#[]⟩, .int .i64 0, .int .i64 0] (0, 0) _ rfl ?_ Tryz.underlying36 rfl (by kernel_rfl)) rfl ⟨.iface 289 (.pointer (some (E 1))), ?_, ?_, ?_⟩
      · rw [World.heap_drew]; exact thr_new hg2 _ _ _
      · rw [HF.out]; rfl
      · rw [HF.out]; exact ⟨by decide, rfl⟩
      · exact Below.drew (thr_below hb2' (Nat.le_refl _) _ _ _)
  obtain ⟨p, n1, n2, hW⟩ := three_strs h6
  rw [hW] at hsp hws
  have hfo : rowOf (cutAt 32 s) = match numsOf [n1, n2] with | some [n, lo] => some ⟨p, n, lo⟩ | _ => none := by rw [hW]; rfl
  have HFO := Lib.hid hfo; have HWS := Lib.hid hws
  clear hfo hws hW h6 hwl
  go_enter Tryz.func87, Tryz.ntmps87
  go_wp2_with fail
  generalize w.alloc (.cells #[S [], .int .i64 0, .int .i64 0] 36) = w1 at *
  refine hsp.mono ?_
  rintro e w2 ⟨rfl, hown, hb2⟩
  have hb2' := hba.trans (hb2.mono hba.size)
  have v1 := V.out _ hb2'
  obtain ⟨a', c', b', o', hv', ha', hc', hcm', hx'⟩ := hown.at encS_enc
  obtain ⟨rfl, rfl⟩ : a' = some ⟨w1.heap.size, 0, none⟩ ∧ c' = 3 := by cases hv'; exact ⟨rfl, rfl⟩
  obtain ⟨rfl, rfl⟩ : b' = w1.heap.size ∧ o' = 0 := by have := ha' (by simp); cases this; exact ⟨rfl, rfl⟩
  obtain ⟨b3, o3, c3, hrun, hat3⟩ := slice_from (enc := encS) (sz := 1) Tryz.underlying107 szStr ha' hc' hcm' hx' 1 (by simp) (by simp)
  have x0 := hx' 0 _ rfl 0 _ rfl
  simp only [List.length_cons, List.length_nil, Nat.zero_add, Nat.reduceAdd, Nat.reduceSub, Nat.mul_one, Nat.add_zero, List.drop_succ_cons, List.drop_zero] at hrun hat3 x0
  have e2 : ((1 : Nat) : Int) = 1 := rfl
  rw [e2] at hrun
  clear hv' ha' hx' hown hcm' hc' e2 hsp
  have hl6 : [p, n1, n2].length = 3 := rfl
  rw [hl6]
  go_wp2_with fail
  refine (numbers_any B _ [n1, n2] _ (hT.below' hb2' hBw) hat3 (by simp) (fun x hx => by have := HWS.out x (by simp at hx ⊢; rcases hx with h | h <;> simp [h]); omega)).mono ?_
  rintro e w3 ⟨v', rfl, hv1, hv2, hb3⟩
  have hb31 := hb2.trans (hb3.mono hb2.size)
  have hb3' := hb2'.trans (hb3.mono hb2'.size)
  have v1' := V.out _ hb3'
  have y0 := (hb3.cell (World.block_lt_of_cell? w2 _ x0)).trans x0
  clear v1 hrun hat3 x0
  cases hn : numsOf [n1, n2] with
  | none =>
    rw [hn] at hv2
    obtain rfl := hv2 rfl
    have HF := Lib.hid (rowRead_none (s := s) (by rw [HFO.out, hn]))
    clear hn hv1
    simp only [Option.isSome_none]
    obtain ⟨c0, c1, c2⟩ := CZ.out _ hb31
    have hg2 := HG.out _ hb31
    have fz : ∀ j, w3.frozen? ⟨w.heap.size, j, none⟩ = false := fun j => frozen_row hg2
    have f0 := fz 0; have f1 := fz 1; have f2 := fz 2
    have hn1 : ¬ (2 = w.heap.size) := hgE.1
    have hn2 : ¬ (w.heap.size = 2) := hgE.2
    go_wp2_with fail
    go_region_law (fail)
    all_goals
      go_wp2_with fail
      refine bodyPost_ret (ret_row rfl _ _ w.heap.size 36 #[.string ⟨#[]⟩, .int .i64 0, .int .i64 0] (0, 0) _ rfl ?_ Tryz.underlying36 rfl (by kernel_rfl)) rfl ⟨.iface 289 (.pointer (some (E 1))), ?_, ?_, ?_⟩
      · rw [World.heap_drew]; exact thr_new hg2 _ _ _
      · rw [HF.out]; rfl
      · rw [HF.out]; exact ⟨by decide, rfl⟩
      · exact Below.drew (thr_below hb3' (Nat.le_refl _) _ _ _)
  | some ns =>
    have hown := hv1 ns hn
    have hnl := mapM_len _ hn
    obtain ⟨m1, m2, rfl⟩ := two_ints (l := ns) (by simpa using hnl)
    have HF := Lib.hid (rowRead_some (s := s) (r := ⟨p, m1, m2⟩) (by rw [HFO.out, hn]))
    clear hn hv1 hv2 hnl
    simp only [Option.isSome_some]
    obtain ⟨a4, c4, b4, o4, hv4, ha4, hc4, hcm4, hx4⟩ := hown.at encI_enc
    subst hv4
    obtain rfl := ha4 (by simp)
    have z0 := hx4 0 _ rfl 0 _ rfl
    have z1 := hx4 1 _ rfl 0 _ rfl
    simp only [Nat.mul_one, Nat.add_zero] at z0 z1
    have hl4 : [m1, m2].length = 2 := rfl
    rw [hl4]
    clear hx4 hown ha4 hc4 hcm4 hl4
    have hks := fun w6 (h : Below w3.heap.size w3 w6) => (⟨(h.cell (World.block_lt_of_cell? w3 _ y0)).trans y0, (h.cell (World.block_lt_of_cell? w3 _ z0)).trans z0, (h.cell (World.block_lt_of_cell? w3 _ z1)).trans z1⟩ : _ ∧ _ ∧ _)
    have KS := Lib.hid hks; clear hks
    go_wp2_with fail
    go_region_held3 (fun w' => w'.cell? ⟨w1.heap.size, 0, none⟩ = some (S p) ∧ w'.cell? ⟨b4, o4, none⟩ = some (.int .i64 m1) ∧ w'.cell? ⟨b4, o4 + 1, none⟩ = some (.int .i64 m2)) (first | exact ⟨y0, z0, z1⟩ | exact KS.out _ (((Below.refl _ _).alloc (Nat.le_refl _) _).drew) | exact KS.out _ ((Below.refl _ _).drew.alloc (Nat.le_refl _) _)) (fail)
    have hb4 : Below w3.heap.size w3 (w3.alloc (.cells #[S p, .int .i64 m1, .int .i64 m2] 36)).drew := ((Below.refl _ _).alloc (Nat.le_refl _) _).drew
    have CF := Lib.hid (fun w6 (h : Below (w3.alloc (.cells #[S p, .int .i64 m1, .int .i64 m2] 36)).heap.size (w3.alloc (.cells #[S p, .int .i64 m1, .int .i64 m2] 36)).drew w6) => rowCells (r := ⟨p, m1, m2⟩) rfl (((Below.refl _ _).drew).trans h))
    have hsz : (w3.alloc (.cells #[S p, .int .i64 m1, .int .i64 m2] 36)).heap.size = (w3.alloc (.cells #[S p, .int .i64 m1, .int .i64 m2] 36)).drew.heap.size := rfl
    rw [hsz] at CF
    generalize (w3.alloc (.cells #[S p, .int .i64 m1, .int .i64 m2] 36)).drew = w4 at *
    have hb4' := hb3'.trans (hb4.mono hb3'.size)
    have hb41 := hb31.trans (hb4.mono hb31.size)
    obtain ⟨c0, c1, c2⟩ := CF.out w4 (Below.refl _ _)
    clear y0 z0 z1 v1' hsz
    go_wp2_with fail
    refine (rowCheck_any E B ⟨p, m1, m2⟩ _ ((hE.sub (by decide)).below' hb4' hBw) (by have := HWS.out p (by simp); show p.length ≤ _; omega)).mono ?_
    rintro e w5 ⟨ev, rfl, hev, hb5⟩
    have hb5' := hb4'.trans (hb5.mono hb4'.size)
    have hb51 := hb41.trans (hb5.mono hb41.size)
    have hg2 := HG.out _ hb51
    have fz : ∀ j, w5.frozen? ⟨w.heap.size, j, none⟩ = false := fun j => frozen_row hg2
    have f0 := fz 0; have f1 := fz 1; have f2 := fz 2
    obtain ⟨d0, d1, d2⟩ := CZ.out _ hb51
    clear c0 c1 c2
    obtain ⟨c0, c1, c2⟩ := CF.out w5 hb5
    by_cases hck : rowCheck ⟨p, m1, m2⟩ = 0
    case neg =>
      rw [rowEr_bad hck] at hev
      obtain ⟨hcr, rfl⟩ := hev
      have HR : Hid (rowRead s = (zeroR, rowCheck ⟨p, m1, m2⟩)) := Lib.hid (by rw [HF.out, if_neg hck])
      have HER : Hid (erOf (rowCheck ⟨p, m1, m2⟩) = .bare (rowCheck ⟨p, m1, m2⟩)) := Lib.hid (if_neg hck)
      clear hck
      generalize rowCheck ⟨p, m1, m2⟩ = ce at *
      go_wp2_with fail
      refine bodyPost_ret (ret_row rfl _ _ w.heap.size 36 #[.string ⟨#[]⟩, .int .i64 0, .int .i64 0] (0, 0) _ rfl (thr_new hg2 _ _ _) Tryz.underlying36 rfl (by kernel_rfl)) rfl ⟨.iface 289 (.pointer (some (E ce))), ?_, ?_, ?_⟩
      · rw [HR.out]; rfl
      · rw [HR.out]; show ErV E _ _ (erOf ce); rw [HER.out]; exact ⟨hcr, rfl⟩
      · exact thr_below hb5' (Nat.le_refl _) _ _ _
    rw [rowEr_nil hck] at hev
    obtain rfl : ev = .nilIface := hev
    have HR : Hid (rowRead s = (⟨p, m1, m2⟩, 0)) := Lib.hid (by rw [HF.out, if_pos hck])
    clear hck
    go_wp2_with fail
    refine bodyPost_ret (ret_row rfl _ _ w.heap.size 36 #[S p, .int .i64 m1, .int .i64 m2] (0, 0) _ rfl (thr_new hg2 _ _ _) Tryz.underlying36 rfl (by kernel_rfl)) rfl ⟨.nilIface, ?_, ?_, ?_⟩
    · rw [HR.out]; rfl
    · rw [HR.out]; rfl
    · exact thr_below hb5' (Nat.le_refl _) _ _ _
end Go.Proofs.YtlfkjbdkbdcdnaaGreatDoor
namespace Go.Proofs.YtlfkjbdkbdcdnaaGreatDoor
open Go.RowKit

theorem indexFuncI_any (f : FuncId) (caps : Array Value) (p : Int → Bool) (base : Nat) (w0 : World) (v : Value) (l : List Int) (w : World) (hf : Clo Tryz.prog f) (hp : PredOn Tryz.prog f caps (.int .i64) l p base w0)
    (hl : IntsAt w v l) (hw : Below base w0 w) (hB : base ≤ w.heap.size) :
    Calls Tryz.prog 63 #[v, .func (.func f) #[] caps] w fun e w' => e = .returned (.int .i64 (idxVal p l)) ∧ Below w.heap.size w w' := by
  obtain ⟨a, c, b, o, rfl, ha, hc, hcm, hx⟩ := hl
  unfold maxLen at hcm
  have hf' := hf
  unfold Clo at hf'
  go_enter Tryz.func63, Tryz.ntmps63
  go_wp2_with fail
  go_loopw [8] (fun i wr => ∃ k : Nat, k ≤ l.length ∧ i = .int .i64 k ∧ Hid (∀ j y, j < k → l[j]? = some y → p y = false) ∧ Below w.heap.size w wr) (fun i _ => l.length - (intOf i).toNat)
  case atStart => exact ⟨0, by omega, rfl, fun j y hj => absurd hj (by omega), Below.refl _ _⟩
  case round =>
    obtain ⟨k, hk, rfl, hj, hb⟩ := hrel
    by_cases hlt : k < l.length
    · obtain ⟨x, hxk⟩ := get_ex hlt
      have c1 := hx k x hxk 0 _ rfl
      have c1 := (hb.cell (World.block_lt_of_cell? w _ c1)).trans c1
      have i1 := idx_at (c := c) 1 Tryz.underlying39 szInt ha k hlt
      have hk1 : (k : Int) < (l.length : Int) := by omega
      simp only [Nat.mul_one, Nat.add_zero] at c1 i1
      have hpx := hp wr x (List.mem_of_getElem? hxk) (hw.trans (hb.mono hB)) (Nat.le_trans hB hb.size)
      have Hp := Lib.hid hpx; clear hpx
      have Hx := Lib.hid hxk; clear hxk
      go_wp2_with fail
      refine Hp.out.mono ?_
      rintro e w1 ⟨rfl, hb1⟩
      have hb2 := hb.trans (hb1.mono hb.size)
      cases hpv : p x with
      | true =>
        have Hpv := Lib.hid hpv; clear hpv
        go_wp2_with fail
        go_ret
        refine ⟨?_, hb2⟩
        rw [idxVal_some Hx.out Hpv.out hj.out]; rfl
      | false =>
        have Hpv := Lib.hid hpv; clear hpv
        go_wp2_with fail
        go_roundw
        case rel => exact ⟨k + 1, by omega, by go_num, (fun j y hj' hy => by
          rcases Nat.lt_or_ge j k with h | h
          · exact hj.out j y h hy
          · obtain rfl : j = k := by omega
            rw [Hx.out] at hy
            obtain rfl := Option.some.inj hy
            exact Hpv.out), hb2⟩
        case measure => simp [intOf]; omega
    · obtain rfl : k = l.length := by omega
      go_wp2_with fail
      go_ret
      refine ⟨?_, hb⟩
      rw [idxVal_none fun j x hj' => hj.out j x (by
        rcases Nat.lt_or_ge j l.length with h | h
        · exact h
        · rw [List.getElem?_eq_none h] at hj'; cases hj') hj']
      rfl
end Go.Proofs.YtlfkjbdkbdcdnaaGreatDoor
namespace Go.Proofs.YtlfkjbdkbdcdnaaGreatDoor
open Go.RowKit

theorem own_cell1 {α : Type} {val : α → Value} {e : TypeId} {B : Nat} {w : World} {g n cap : Nat} {l : List α} (hen : Enc (fun x => [val x]) 1) (h : Own (fun x => [val x]) e 1 B w (.slice (some ⟨g, 0, none⟩) n cap) l) {k : Nat} {x : α} (hk : l[k]? = some x) :
    w.cell? ⟨g, k, none⟩ = some (val x) ∧ w.frozen? ⟨g, k, none⟩ = false ∧ B ≤ g := by
  have hlt : k < l.length := by
    rcases Nat.lt_or_ge k l.length with h' | h'
    · exact h'
    · rw [List.getElem?_eq_none h'] at hk; cases hk
  obtain ⟨g', cap', cur, hv, hB, hg, hc, hm, hs, ht⟩ := h.open (by omega)
  cases hv
  refine ⟨?_, frozen_row hg, hB⟩
  have := flat_get hen l k x hk 0 (val x) rfl
  rw [← ht] at this
  rw [cell_of_row w g k cur e (0, 0) hg]
  simp only [Nat.mul_one, Nat.add_zero] at this
  rw [List.getElem?_take, if_pos hlt] at this
  simpa using this

end Go.Proofs.YtlfkjbdkbdcdnaaGreatDoor
namespace Go.Proofs.YtlfkjbdkbdcdnaaGreatDoor
open Go.RowKit


end Go.Proofs.YtlfkjbdkbdcdnaaGreatDoor
namespace Go.Proofs.YtlfkjbdkbdcdnaaGreatDoor
open Go.RowKit

theorem rwZero : (Tryz.prog.info? 36).bind (·.zero) = some (.agg #[.string ByteArray.empty, .int .i64 0, .int .i64 0]) := by kernel_rfl
theorem rwZero1 : ∀ z, (Tryz.prog.info? 36).bind (·.zero) = some z → ∀ u ∈ z.cells.toList, u.oneCell' = true := by
  intro z hz u hu
  rw [rwZero] at hz
  cases hz
  simp [Value.cells] at hu
  rcases hu with rfl | rfl <;> rfl
/-- An element of three cells written anew, cell by cell. -/
theorem Own.set3 {e : TypeId} {B : Nat} {w : World} {g n cap i : Nat} {l : List Rw} (h : Own encR e 3 B w (.slice (some ⟨g, 0, none⟩) n cap) l) (hi : i < l.length) (x : Rw) :
    Own encR e 3 B (thr w g (i * 3) (S x.part) (.int .i64 x.key) (.int .i64 x.val)) (.slice (some ⟨g, 0, none⟩) n cap) (l.set i x) := by
  obtain ⟨cur, hB, hg, hl, hc, hm, hs, ht⟩ := h.row
  have hsplit : l = l.take i ++ l[i] :: l.drop (i + 1) := by rw [← List.drop_eq_getElem_cons hi, List.take_append_drop]
  have hset : l.set i x = l.take i ++ x :: l.drop (i + 1) := List.set_eq_take_append_cons_drop.trans (if_pos hi)
  have hA : ((l.take i).flatMap encR).length = i * 3 := by rw [flat_length encR_enc, List.length_take, Nat.min_eq_left (by omega)]
  have hC : ((l.drop (i + 1)).flatMap encR).length = (n - (i + 1)) * 3 := by rw [flat_length encR_enc, List.length_drop, hl]
  have hle : n * 3 ≤ cap * 3 := Nat.mul_le_mul_right _ hc
  have hf : l.flatMap encR = (l.take i).flatMap encR ++ (encR l[i] ++ (l.drop (i + 1)).flatMap encR) := by
    have : l.flatMap encR = (l.take i ++ l[i] :: l.drop (i + 1)).flatMap encR := by rw [← hsplit]
    rw [this]; simp only [List.flatMap_append, List.flatMap_cons]
  have hcur : cur.toList = (l.take i).flatMap encR ++ (encR l[i] ++ ((l.drop (i + 1)).flatMap encR ++ cur.toList.drop (n * 3))) := by
    have h1 : cur.toList = cur.toList.take (n * 3) ++ cur.toList.drop (n * 3) := (List.take_append_drop _ _).symm
    rw [ht, hf] at h1
    simpa using h1
  generalize cur.toList.drop (n * 3) = R at hcur
  refine Own.put encR_enc (by rw [List.length_set]; exact hl) hB (thr_row hg (S x.part) (.int .i64 x.key) (.int .i64 x.val)) hc hm (by simpa using hs) ?_
  simp only [Array.toList_setIfInBounds]
  rw [hcur, hset]
  have s0 : ((l.take i).flatMap encR ++ (encR l[i] ++ ((l.drop (i + 1)).flatMap encR ++ R))).set (i * 3) (S x.part) = (l.take i).flatMap encR ++ (encR l[i] ++ ((l.drop (i + 1)).flatMap encR ++ R)).set 0 (S x.part) := set_app hA 0 (S x.part)
  rw [s0, set_app hA, set_app hA]
  simp only [List.cons_append, List.nil_append, List.set_cons_zero, List.set_cons_succ, List.flatMap_append, List.flatMap_cons]
  have e : ∀ (A C R : List Value) (a b c : Value), A ++ a :: b :: c :: (C ++ R) = (A ++ [a, b, c] ++ C) ++ R := fun A C R a b c => by simp
  rw [e, List.take_left' (by rw [List.length_append, List.length_append, hA, hC]; simp; omega)]
  simp
end Go.Proofs.YtlfkjbdkbdcdnaaGreatDoor
namespace Go.Proofs.YtlfkjbdkbdcdnaaGreatDoor
open Go.RowKit

abbrev euR : Rw := ⟨[101, 117], -5, 7⟩
theorem itoaM5 : Lib.itoa (-5) = [45, 53] := by
  have : Lib.itoa (-5) = 45 :: Lib.decDigits 5 := rfl
  rw [this, Lib.decDigits_one (by decide)]
  rfl
theorem itoa7 : Lib.itoa 7 = [55] := (Lib.itoa_nonneg 7).trans (Lib.decDigits_one (by decide))
theorem eu_check : rowCheck euR = 0 := by
  refine rowCheck_right (by decide) ?_ ?_ <;> (unfold farN; decide)
theorem eu_line : rowLine euR = [101, 117, 32, 45, 53, 32, 55] := by
  unfold rowLine numsTail
  simp only [List.flatMap_cons, List.flatMap_nil, itoaM5, itoa7]
  rfl
theorem eu_read : rowRead [101, 117, 32, 45, 53, 32, 55] = (euR, 0) := by rw [← eu_line]; exact rowRead_line eu_check
theorem eu_text : rowText euR = [101, 117, 32, 45, 53, 32, 55] := by unfold rowText; rw [if_pos eu_check, eu_line]
theorem longRows_any (v : Value) (l : List Rw) (n : Int) (w : World) (hl : RowsAt w v l) :
    Calls Tryz.prog 12 #[v, .int .i64 n] w fun e w' => (e = .returned (.int .i64 1) ∨ (e = .returned (.int .i64 0) ∧ (l.length : Int) ≤ n ∧ ∀ r ∈ l, r.part.length ≤ 30)) ∧ w = w' := by
  obtain ⟨a, c, b, o, rfl, ha, hc, hcm, hx⟩ := hl
  unfold maxLen at hcm
  by_cases h0 : n < (l.length : Int)
  · go_enter Tryz.func12, Tryz.ntmps12
    go_wp2_with fail
    go_ret
    exact ⟨.inl rfl, rfl⟩
  have g0 : decide (n < (l.length : Int)) = false := by simpa using h0
  have H0 := Lib.hid (show (l.length : Int) ≤ n by omega)
  clear h0
  go_enter Tryz.func12, Tryz.ntmps12
  go_wp2_with fail
  go_loop [5] (fun i => ∃ k : Nat, k ≤ l.length ∧ i = .int .i64 k ∧ Hid (∀ r ∈ l.take k, r.part.length ≤ 30)) (fun i => l.length - (intOf i).toNat)
  case atStart => exact ⟨0, by omega, rfl, Lib.hid (by simp)⟩
  case round =>
    obtain ⟨k, hk, rfl, hj⟩ := hrel
    by_cases hlt : k < l.length
    case neg =>
      obtain rfl : k = l.length := by omega
      have f : decide ((l.length : Int) < (l.length : Int)) = false := by simp
      have HJ := Lib.hid (show ∀ r ∈ l, r.part.length ≤ 30 by have := hj.out; rwa [List.take_length] at this)
      go_wp2_with fail
      go_ret
      exact ⟨.inr ⟨rfl, H0.out, HJ.out⟩, rfl⟩
    obtain ⟨x, hxk⟩ := get_ex hlt
    have c0 := hx k x hxk 0 _ rfl
    have i1 := idx_at (c := c) 3 Tryz.underlying22 szRw ha k hlt
    have hk1 : (k : Int) < (l.length : Int) := by omega
    simp only [Nat.add_zero] at c0
    have hsn := take_snoc' hxk
    by_cases hp : x.part.length ≤ 30
    · have g : decide ((30 : Int) < (x.part.length : Int)) = false := by simp; omega
      have HJ := Lib.hid (show ∀ r ∈ l.take (k + 1), r.part.length ≤ 30 by
        rw [hsn]
        intro r hr
        rcases List.mem_append.1 hr with h | h
        · exact hj.out r h
        · obtain rfl := List.mem_singleton.1 h
          exact hp)
      clear hsn hxk hp hj
      go_wp2_with fail
      go_round
      case rel => exact ⟨k + 1, by omega, by go_num, HJ⟩
      case measure => simp [intOf]; omega
    · have g : (30 : Int) < (x.part.length : Int) := by omega
      clear hsn hxk hp hj
      go_wp2_with fail
      go_ret
      exact ⟨.inl rfl, rfl⟩
theorem ownRows_any (v : Value) (l : List Rw) (w : World) (hl : RowsAt w v l) (hn : l.length ≤ 100000) :
    Calls Tryz.prog 14 #[v] w fun e w' => ∃ v', e = .returned v' ∧ Own encR 36 3 w.heap.size w' v' l ∧ Below w.heap.size w w' := by
  have hs := hl.src encR_enc (by decide)
  have HS := Lib.hid hs
  clear hs
  go_enter Tryz.func14, Tryz.ntmps14
  go_wp2_with (at_builtin; refine wpList_app rfl _ _ _ rfl w.heap.size elRw (.slice none 0 0) 0 [] rfl (Own.nil encR _ 3 _ _) _ _ _ rfl HS.out (by unfold maxLen; omega) (by omega) (Nat.le_refl _) ?_; intro v' w1 hown hg _)
  go_ret
  exact ⟨_, rfl, by simpa [Own] using hown, (Below.refl _ _).grown hg (Nat.le_refl _) (fun k hk => by cases hk)⟩
end Go.Proofs.YtlfkjbdkbdcdnaaGreatDoor
namespace Go.Proofs.YtlfkjbdkbdcdnaaGreatDoor
open Go.RowKit

def codedB (er : Er) (k : Int) : Bool := decide ((er.code : Int) = k) && decide (er.place = -1)
def faultedB (er : Er) (c p : Int) : Bool := decide ((er.code : Int) = c) && (decide (c = 0) || decide (er.place = p))

theorem coded1_any (E : Nat → Addr) (B : Nat) (er : Er) (v : Value) (k : Int) (w : World) (hE : Errs allE E B w) (hA : AsVar w) (hv : ErV E w v er) :
    Calls Tryz.prog 24 #[v, .int .i64 k] w fun e w' => e = .returned (.bool (codedB er k)) ∧ Below w.heap.size w w' := by
  unfold codedB
  by_cases h1 : (er.code : Int) = k
  · have g1 : ((er.code : Int) == k) = true := by simpa using h1
    have H1 := Lib.hid h1; clear h1
    by_cases h2 : er.place = -1
    · have g2 : (er.place == -1) = true := by simpa using h2
      have H2 := Lib.hid h2; clear h2
      go_enter Tryz.func24, Tryz.ntmps24
      go_wp2_with (go_at_call 75; refine (code_any E B er _ _ hE hA hv).mono ?_; rintro e w1 ⟨rfl, hb⟩)
      go_ret
      exact ⟨ret_bool (by simp [H1.out, H2.out]), hb⟩
    · have g2 : (er.place == -1) = false := by simpa using h2
      go_enter Tryz.func24, Tryz.ntmps24
      go_wp2_with (go_at_call 75; refine (code_any E B er _ _ hE hA hv).mono ?_; rintro e w1 ⟨rfl, hb⟩)
      go_ret
      exact ⟨ret_bool (by simp [H1.out, h2]), hb⟩
  · have g1 : ((er.code : Int) == k) = false := by simpa using h1
    go_enter Tryz.func24, Tryz.ntmps24
    go_wp2_with (go_at_call 75; refine (code_any E B er _ _ hE hA hv).mono ?_; rintro e w1 ⟨rfl, hb⟩)
    go_ret
    exact ⟨ret_bool (by simp [h1]), hb⟩



end Go.Proofs.YtlfkjbdkbdcdnaaGreatDoor
