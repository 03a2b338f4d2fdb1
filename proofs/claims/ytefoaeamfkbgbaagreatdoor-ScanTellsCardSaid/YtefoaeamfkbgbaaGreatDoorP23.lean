/- A scan's reader in memory: rows, and keys that are gone, by paths. A change in memory; what turns only some blocks. (*scan.reader).read: the walk. slices.IndexFunc and ContainsFunc at []string and at []api.File, at whatever function value that answers by a plain predicate. scan.Rows' closures: is a row's key gone?. -/
import Derived.Test.YtefoaeamfkbgbaaGreatDoorP22
import Derived.Test.YtefoaeamfkbgbaaGreatDoorP17
import Derived.Test.YtefoaeamfkbgbaaGreatDoorP2
import Derived.Test.YtefoaeamfkbgbaaGreatDoorP15
import Derived.Maps.OwnOps
import Derived.Test.YtefoaeamfkbgbaaGreatDoorP18
import Derived.Test.YtefoaeamfkbgbaaGreatDoorP16
import Derived.Deep.RegionWith
import Derived.Deep.DrawnRows
import Derived.Deep.RegionLaw
import Derived.Test.YtefoaeamfkbgbaaGreatDoorP13
import Derived.Test.YtefoaeamfkbgbaaGreatDoorP9
import Derived.Test.YtefoaeamfkbgbaaGreatDoorP10
import Derived.Deep.RegionHeld3
namespace Go.Proofs.YtefoaeamfkbgbaaGreatDoor
open Go.RowKit Go.Maps

theorem keySr {k : Str} (h : k.length ≤ 100000) : keyOf Tryz.prog 9 (S k) = some (.string k) := by
  have : (ByteArray.mk k.toArray).size ≤ maxLen := by simp [ByteArray.size]; unfold maxLen; omega
  unfold keyOf mapKey
  rw [Tryz.underlying9]
  simp [this]
theorem lookSR {w : World} {b n : Nat} {xs : List (Str × Value)} (h : w.ownsMap Tryz.prog 9 heldR b n (mapV xs)) (k : Str) (hk : k.length ≤ 100000) :
    (Instr.lookup 95 (.map (some b)) (S k) false).run Tryz.prog w = .ok ((getP k xs).getD (.slice none 0 0)) w := by
  have hz : (zeroValue 39).run Tryz.prog w = .ok (.slice none 0 0) w := by kernel_rfl
  obtain ⟨v, ps, h1, h2⟩ := h.lookup (string_keyed Tryz.underlying9) Tryz.underlying95 hz (zd := .held (.slice none 0 0)) (zp := []) rfl (keySr hk)
  rw [at_mapV] at h2
  simp only [heldR, Option.some.injEq, Prod.mk.injEq, DataW.held.injEq] at h2
  rw [h1, h2.1]
theorem updSR {w : World} {b n : Nat} {xs : List (Str × Value)} (h : w.ownsMap Tryz.prog 9 heldR b n (mapV xs)) (k : Str) (hk : k.length ≤ 100000) (hn : n < maxLen) (v : Value) :
    ∃ w', (Instr.mapUpdate 95 (.map (some b)) (S k) v).run Tryz.prog w = .ok () w' ∧ w'.ownsMap Tryz.prog 9 heldR b (n + 1) (mapV (putP k v xs)) ∧ w.grownBy w' (some b) := by
  obtain ⟨w', h1, h2, h3⟩ := h.update (string_keyed Tryz.underlying9) Tryz.underlying95 hn (keySr hk) (d := .held v) (ps := []) rfl
  rw [put_mapV] at h2
  exact ⟨w', h1, h2, h3⟩
theorem lookSI {w : World} {b n : Nat} {xs : List (Str × Value)} (h : w.ownsMap Tryz.prog 9 heldR b n (mapV xs)) (k : Str) (hk : k.length ≤ 100000) :
    (Instr.lookup 96 (.map (some b)) (S k) false).run Tryz.prog w = .ok ((getP k xs).getD (.slice none 0 0)) w := by
  have hz : (zeroValue 26).run Tryz.prog w = .ok (.slice none 0 0) w := by kernel_rfl
  obtain ⟨v, ps, h1, h2⟩ := h.lookup (string_keyed Tryz.underlying9) Tryz.underlying96 hz (zd := .held (.slice none 0 0)) (zp := []) rfl (keySr hk)
  rw [at_mapV] at h2
  simp only [heldR, Option.some.injEq, Prod.mk.injEq, DataW.held.injEq] at h2
  rw [h1, h2.1]
theorem updSI {w : World} {b n : Nat} {xs : List (Str × Value)} (h : w.ownsMap Tryz.prog 9 heldR b n (mapV xs)) (k : Str) (hk : k.length ≤ 100000) (hn : n < maxLen) (v : Value) :
    ∃ w', (Instr.mapUpdate 96 (.map (some b)) (S k) v).run Tryz.prog w = .ok () w' ∧ w'.ownsMap Tryz.prog 9 heldR b (n + 1) (mapV (putP k v xs)) ∧ w.grownBy w' (some b) := by
  obtain ⟨w', h1, h2, h3⟩ := h.update (string_keyed Tryz.underlying9) Tryz.underlying96 hn (keySr hk) (d := .held v) (ps := []) rfl
  rw [put_mapV] at h2
  exact ⟨w', h1, h2, h3⟩

/-- What lies under the paths: each file's rows, or its keys. -/
structure Stock (os : List Ob) (W : World) (fs : List Fl) (xr xk : List (Str × Value)) : Prop where
  risr : RisP xr
  risk : RisP xk
  rows : ∀ f ∈ fs, isG f = false → ∃ v, getP f.path xr = some v ∧ RowsAt W v (rowsO os f)
  keys : ∀ f ∈ fs, isG f = true → ∃ v, getP f.path xk = some v ∧ IntsAt W v (keysO os f)
  onlyr : ∀ p v, getP p xr = some v → ∃ f ∈ fs, f.path = p ∧ isG f = false
  onlyk : ∀ p v, getP p xk = some v → ∃ f ∈ fs, f.path = p ∧ isG f = true
theorem Stock.nil (os : List Ob) (W : World) : Stock os W [] [] [] :=
  ⟨List.Pairwise.nil, List.Pairwise.nil, fun _ h => (by cases h), fun _ h => (by cases h), fun _ _ h => (by cases h), fun _ _ h => (by cases h)⟩
theorem Stock.below {os : List Ob} {W W' : World} {fs : List Fl} {xr xk : List (Str × Value)} (h : Stock os W fs xr xk) (hb : Below W.heap.size W W') : Stock os W' fs xr xk :=
  ⟨h.risr, h.risk, fun f hf hg => by obtain ⟨v, h1, h2⟩ := h.rows f hf hg; exact ⟨v, h1, h2.below hb⟩, fun f hf hg => by obtain ⟨v, h1, h2⟩ := h.keys f hf hg; exact ⟨v, h1, h2.below hb⟩, h.onlyr, h.onlyk⟩
/-- The slices under the paths, where only blocks turn in which none of them lies. -/
theorem Stock.moved {os : List Ob} {W W' : World} {fs : List Fl} {xr xk : List (Str × Value)} (h : Stock os W fs xr xk) (hr : ∀ v l, RowsAt W v l → RowsAt W' v l) (hk : ∀ v l, IntsAt W v l → IntsAt W' v l) : Stock os W' fs xr xk :=
  ⟨h.risr, h.risk, fun f hf hg => by obtain ⟨v, h1, h2⟩ := h.rows f hf hg; exact ⟨v, h1, hr _ _ h2⟩, fun f hf hg => by obtain ⟨v, h1, h2⟩ := h.keys f hf hg; exact ⟨v, h1, hk _ _ h2⟩, h.onlyr, h.onlyk⟩
theorem Stock.putRows {os : List Ob} {W : World} {fs : List Fl} {xr xk : List (Str × Value)} (h : Stock os W fs xr xk) {f : Fl} {v : Value} (hg : isG f = false) (hv : RowsAt W v (rowsO os f)) (hd : ∀ g ∈ fs, g.path ≠ f.path) : Stock os W (fs ++ [f]) (putP f.path v xr) xk :=
  ⟨putP_rising h.risr, h.risk, fun g hm hgg => by
    rcases List.mem_append.1 hm with hm | hm
    · obtain ⟨u, h1, h2⟩ := h.rows g hm hgg
      exact ⟨u, by rw [getP_put_other h.risr (hd g hm)]; exact h1, h2⟩
    · obtain rfl := List.mem_singleton.1 hm
      exact ⟨v, getP_put_same h.risr, hv⟩, fun g hm hgg => by
    rcases List.mem_append.1 hm with hm | hm
    · exact h.keys g hm hgg
    · obtain rfl := List.mem_singleton.1 hm
      exact absurd (hg.symm.trans hgg) (by decide), fun p u hp => by
    by_cases e : p = f.path
    · exact ⟨f, List.mem_append_right _ (List.mem_singleton.2 rfl), e.symm, hg⟩
    · rw [getP_put_other h.risr e] at hp
      obtain ⟨g, hm, h1⟩ := h.onlyr p u hp
      exact ⟨g, List.mem_append_left _ hm, h1⟩, fun p u hp => by
    obtain ⟨g, hm, h1⟩ := h.onlyk p u hp
    exact ⟨g, List.mem_append_left _ hm, h1⟩⟩
theorem Stock.putKeys {os : List Ob} {W : World} {fs : List Fl} {xr xk : List (Str × Value)} (h : Stock os W fs xr xk) {f : Fl} {v : Value} (hg : isG f = true) (hv : IntsAt W v (keysO os f)) (hd : ∀ g ∈ fs, g.path ≠ f.path) : Stock os W (fs ++ [f]) xr (putP f.path v xk) :=
  ⟨h.risr, putP_rising h.risk, fun g hm hgg => by
    rcases List.mem_append.1 hm with hm | hm
    · exact h.rows g hm hgg
    · obtain rfl := List.mem_singleton.1 hm
      exact absurd (hg.symm.trans hgg) (by decide), fun g hm hgg => by
    rcases List.mem_append.1 hm with hm | hm
    · obtain ⟨u, h1, h2⟩ := h.keys g hm hgg
      exact ⟨u, by rw [getP_put_other h.risk (hd g hm)]; exact h1, h2⟩
    · obtain rfl := List.mem_singleton.1 hm
      exact ⟨v, getP_put_same h.risk, hv⟩, fun p u hp => by
    obtain ⟨g, hm, h1⟩ := h.onlyr p u hp
    exact ⟨g, List.mem_append_left _ hm, h1⟩, fun p u hp => by
    by_cases e : p = f.path
    · exact ⟨f, List.mem_append_right _ (List.mem_singleton.2 rfl), e.symm, hg⟩
    · rw [getP_put_other h.risk e] at hp
      obtain ⟨g, hm, h1⟩ := h.onlyk p u hp
      exact ⟨g, List.mem_append_left _ hm, h1⟩⟩
/-- The keys that lie under a file's path: those of a file of keys, or none. -/
theorem Stock.keysAt {os : List Ob} {W : World} {fs : List Fl} {xr xk : List (Str × Value)} (h : Stock os W fs xr xk) (hup : UpF fs) {g : Fl} (hm : g ∈ fs) : IntsAt W ((getP g.path xk).getD (.slice none 0 0)) (keysO os g) := by
  cases hg : isG g with
  | true =>
    obtain ⟨v, h1, h2⟩ := h.keys g hm hg
    rw [h1]; exact h2
  | false =>
    have : getP g.path xk = none := by
      cases hp : getP g.path xk with
      | none => rfl
      | some v =>
        obtain ⟨f, hf, he, hgf⟩ := h.onlyk _ _ hp
        rw [path_one hup hf hm he, hg] at hgf
        cases hgf
    rw [this, keysO_data hg]
    exact At.nil _ _ _
theorem Stock.rowsAt {os : List Ob} {W : World} {fs : List Fl} {xr xk : List (Str × Value)} (h : Stock os W fs xr xk) (hup : UpF fs) {g : Fl} (hm : g ∈ fs) : RowsAt W ((getP g.path xr).getD (.slice none 0 0)) (rowsO os g) := by
  cases hg : isG g with
  | false =>
    obtain ⟨v, h1, h2⟩ := h.rows g hm hg
    rw [h1]; exact h2
  | true =>
    have : getP g.path xr = none := by
      cases hp : getP g.path xr with
      | none => rfl
      | some v =>
        obtain ⟨f, hf, he, hgf⟩ := h.onlyr _ _ hp
        rw [path_one hup hf hm he, hg] at hgf
        cases hgf
    rw [this, rowsO_gone hg]
    exact At.nil _ _ _
end Go.Proofs.YtefoaeamfkbgbaaGreatDoor
namespace Go.Proofs.YtefoaeamfkbgbaaGreatDoor
open Go.RowKit

/-- All that was there is as it was, but some blocks. -/
structure ButD (D : Nat → Prop) (w w' : World) : Prop where
  os : w'.os = w.os
  tape : w'.tape = w.tape
  output : w'.output = w.output
  size : w.heap.size ≤ w'.heap.size
  block : ∀ k, k < w.heap.size → ¬ D k → w'.heap[k]? = w.heap[k]?
theorem ButD.of {D : Nat → Prop} {w w' : World} (h : Below w.heap.size w w') : ButD D w w' := ⟨h.os, h.tape, h.output, h.size, fun k hk _ => h.block k hk⟩
theorem ButD.trans {D D' : Nat → Prop} {a b c : World} (h : ButD D a b) (k : ButD D' b c) (hD : ∀ k, D' k → D k ∨ a.heap.size ≤ k) : ButD D a c :=
  ⟨k.os.trans h.os, k.tape.trans h.tape, k.output.trans h.output, Nat.le_trans h.size k.size, fun j hj hn => (k.block j (Nat.lt_of_lt_of_le hj h.size) (fun hd => by
    rcases hD j hd with h1 | h1
    · exact hn h1
    · omega)).trans (h.block j hj hn)⟩
theorem ButD.below {D : Nat → Prop} {B : Nat} {a b : World} (h : ButD D a b) (hD : ∀ k, D k → B ≤ k) (hB : B ≤ a.heap.size) : Below B a b :=
  ⟨h.os, h.tape, h.output, h.size, fun k hk => h.block k (Nat.lt_of_lt_of_le hk hB) (fun hd => by have := hD k hd; omega)⟩
theorem ButD.mono {D D' : Nat → Prop} {a b : World} (h : ButD D a b) (hD : ∀ k, D k → D' k) : ButD D' a b := ⟨h.os, h.tape, h.output, h.size, fun k hk hn => h.block k hk (fun hd => hn (hD k hd))⟩

/-- A row that the call owns, where its block is as it was. -/
theorem Own.blocked {α : Type} {enc : α → List Value} {e : TypeId} {sz B : Nat} {w w' : World} {v : Value} {l : List α} (h : Own enc e sz B w v l) (hk : ∀ g, v.ownBlock = some g → w'.heap[g]? = w.heap[g]?) : Own enc e sz B w' v l := by
  refine ⟨h.1, h.2.imp id ?_⟩
  rintro ⟨g, cap, cur, rfl, hb, hg, h3⟩
  exact ⟨g, cap, cur, rfl, hb, (hk g rfl).trans hg, h3⟩
theorem Own.far {α : Type} {enc : α → List Value} {e : TypeId} {sz B : Nat} {w : World} {v : Value} {l : List α} (hen : Enc enc sz) (h : Own enc e sz B w v l) (W : World) (hk : ∀ g, v.ownBlock = some g → W.heap[g]? = w.heap[g]?) : At enc sz W v l := (h.blocked hk).at hen
/-- What stands in a slice hangs on one block. -/
theorem At.far {α : Type} {enc : α → List Value} {sz B : Nat} {w : World} {v : Value} {l : List α} (h : At enc sz w v l) (hB : w.heap.size ≤ B) (W : World) (hk : ∀ k, k < B → W.heap[k]? = w.heap[k]?) : At enc sz W v l := by
  obtain ⟨a, c, b, o, hv, ha, hc, hm, hx⟩ := h
  refine ⟨a, c, b, o, hv, ha, hc, hm, fun k x hxk j u hu => ?_⟩
  have h1 := hx k x hxk j u hu
  have h2 : b < w.heap.size := World.block_lt_of_cell? w _ h1
  exact (World.cell?_of_block (w := w) (w' := W) (a := ⟨b, o + k * sz + j, none⟩) (hk b (by omega))).trans h1

abbrev txCells (t : Tx) (vf va vr : Value) : Array Value := #[.int .i64 t.base.id, .int .i64 t.base.parent, .int .i64 t.base.seq, .int .i64 t.base.day, .int .i64 t.base.index, S t.base.op, vf, va, vr]
/-- A change of type ty in block tb: D are its blocks, all at B or behind it; what it was begun with lies in blocks K. -/
structure TxAt (ty : TypeId) (B : Nat) (w : World) (D K : Nat → Prop) (tb : Nat) (t : Tx) (vf va vr : Value) : Prop where
  blk : w.heap[tb]? = some (.cells (txCells t vf va vr) ty (0, 0))
  files : ∀ W : World, (∀ k, K k → W.heap[k]? = w.heap[k]?) → FilesAt W vf t.base.files
  adds : Own encF 44 6 B w va t.adds
  rems : Own encS 9 1 B w vr t.removes
  dt : D tb
  da : ∀ k, va.ownBlock = some k → D k ∧ k ≠ tb
  dr : ∀ k, vr.ownBlock = some k → D k ∧ k ≠ tb
  dar : ∀ k, va.ownBlock = some k → vr.ownBlock ≠ some k
  low : ∀ k, D k → B ≤ k ∧ k < w.heap.size
  kdis : ∀ k, K k → ¬ D k
  klt : ∀ k, K k → k < w.heap.size
variable {ty : TypeId} {B : Nat} {w : World} {D K : Nat → Prop} {tb : Nat} {t : Tx} {vf va vr : Value}
theorem TxAt.kept (h : TxAt ty B w D K tb t vf va vr) {D2 : Nat → Prop} {w' : World} (hb : ButD D2 w w') (hd : ∀ k, D2 k → ¬ D k ∧ ¬ K k) : TxAt ty B w' D K tb t vf va vr := by
  have hD : ∀ k, D k → w'.heap[k]? = w.heap[k]? := fun k hk => hb.block k (h.low k hk).2 (fun h2 => (hd k h2).1 hk)
  exact ⟨(hD tb h.dt).trans h.blk, fun W hW => h.files W fun k hk => (hW k hk).trans (hb.block k (h.klt k hk) (fun h2 => (hd k h2).2 hk)),
    h.adds.blocked fun g hg => hD g (h.da g hg).1, h.rems.blocked fun g hg => hD g (h.dr g hg).1, h.dt, h.da, h.dr, h.dar, fun k hk => ⟨(h.low k hk).1, Nat.lt_of_lt_of_le (h.low k hk).2 hb.size⟩, h.kdis, fun k hk => Nat.lt_of_lt_of_le (h.klt k hk) hb.size⟩
theorem TxAt.below (h : TxAt ty B w D K tb t vf va vr) {w' : World} (hb : Below w.heap.size w w') : TxAt ty B w' D K tb t vf va vr :=
  h.kept (D2 := fun _ => False) (ButD.of hb) (fun _ h => h.elim)
theorem TxAt.lt (h : TxAt ty B w D K tb t vf va vr) : tb < w.heap.size := (h.low tb h.dt).2
theorem TxAt.c0 (h : TxAt ty B w D K tb t vf va vr) : w.cell? ⟨tb, 0, none⟩ = some (.int .i64 t.base.id) := by rw [cell_of_row w _ _ _ _ (0, 0) h.blk]; rfl
theorem TxAt.c2 (h : TxAt ty B w D K tb t vf va vr) : w.cell? ⟨tb, 2, none⟩ = some (.int .i64 t.base.seq) := by rw [cell_of_row w _ _ _ _ (0, 0) h.blk]; rfl
theorem TxAt.c6 (h : TxAt ty B w D K tb t vf va vr) : w.cell? ⟨tb, 6, none⟩ = some vf := by rw [cell_of_row w _ _ _ _ (0, 0) h.blk]; rfl
theorem TxAt.c7 (h : TxAt ty B w D K tb t vf va vr) : w.cell? ⟨tb, 7, none⟩ = some va := by rw [cell_of_row w _ _ _ _ (0, 0) h.blk]; rfl
theorem TxAt.c8 (h : TxAt ty B w D K tb t vf va vr) : w.cell? ⟨tb, 8, none⟩ = some vr := by rw [cell_of_row w _ _ _ _ (0, 0) h.blk]; rfl
theorem TxAt.fz (h : TxAt ty B w D K tb t vf va vr) (i : Nat) : w.frozen? ⟨tb, i, none⟩ = false := frozen_row h.blk
theorem TxAt.baseAt (h : TxAt ty B w D K tb t vf va vr) : FilesAt w vf t.base.files := h.files w fun _ _ => rfl
theorem TxAt.addsAt (h : TxAt ty B w D K tb t vf va vr) : FilesAt w va t.adds := h.adds.at encF_enc
theorem TxAt.remsAt (h : TxAt ty B w D K tb t vf va vr) : StrsAt w vr t.removes := h.rems.at encS_enc
/-- The blocks behind a step: those that were, and new ones. -/
def grewD (D : Nat → Prop) (n m : Nat) : Nat → Prop := fun k => D k ∨ (n ≤ k ∧ k < m)
/-- Behind an append to the files added. -/
theorem TxAt.added (h : TxAt ty B w D K tb t vf va vr) {w1 w2 : World} {va' : Value} {f : Fl} (hb1 : Below w.heap.size w w1) (hg : w1.grownBy w2 va.ownBlock) (hn : va'.ownBlock = va.ownBlock ∨ va'.ownBlock = some w1.heap.size) (hlt : ∀ k, va'.ownBlock = some k → k < w2.heap.size)
    (ho : Own encF 44 6 B w2 va' (t.adds ++ [f])) (i : Nat) (hi : i = 7) :
    TxAt ty B (w2.setCell ⟨tb, i, none⟩ va') (grewD D w.heap.size w2.heap.size) K tb { t with adds := t.adds ++ [f] } vf va' vr ∧ ButD D w (w2.setCell ⟨tb, i, none⟩ va') := by
  subst hi
  have hs1 := hb1.size
  have hs2 := hg.size
  have hlow := h.low
  have hOld : ∀ k, k < w.heap.size → va.ownBlock ≠ some k → w2.heap[k]? = w.heap[k]? := fun k hk hne => (hg.block k (by omega) (fun e => hne e.symm)).trans (hb1.block k hk)
  have hset : ∀ k, k ≠ tb → (w2.setCell ⟨tb, 7, none⟩ va').heap[k]? = w2.heap[k]? := fun k hk => by
    have : tb ≠ k := fun e => hk e.symm
    simp [World.setCell, Array.getElem?_modify, this]
  have hsz : (w2.setCell ⟨tb, 7, none⟩ va').heap.size = w2.heap.size := by simp [World.setCell]
  have htb : w2.heap[tb]? = w.heap[tb]? := hOld tb h.lt fun e => (h.da tb e).2 rfl
  have hva' : ∀ k, va'.ownBlock = some k → (va.ownBlock = some k) ∨ w.heap.size ≤ k := fun k hk => by
    rcases hn with hn | hn
    · exact .inl (hn ▸ hk)
    · rw [hn] at hk; cases hk; exact .inr hs1
  have htlt := h.lt
  refine ⟨⟨row_setCell (htb.trans h.blk) va', fun W hW => h.files W fun k hk => (hW k hk).trans ((hset k (fun e => h.kdis k hk (e ▸ h.dt))).trans (hOld k (h.klt k hk) (fun e => h.kdis k hk (h.da k e).1))), ho.blocked fun g hg' => hset g (fun e => ?_),
    h.rems.blocked fun g hg' => (hset g (h.dr g hg').2).trans (hOld g (hlow g (h.dr g hg').1).2 (fun e => h.dar g e hg')), .inl h.dt, fun k hk => ?_, fun k hk => ⟨.inl (h.dr k hk).1, (h.dr k hk).2⟩, fun k hk e => ?_, fun k hk => ?_, fun k hk hd => ?_, fun k hk => ?_⟩,
    ⟨hg.os.trans hb1.os, hg.tape.trans hb1.tape, hg.output.trans hb1.output, by rw [hsz]; omega, fun k hk hn' => (hset k (fun e => hn' (e ▸ h.dt))).trans (hOld k hk (fun e => hn' (h.da k e).1))⟩⟩
  · subst e
    rcases hva' _ hg' with h1 | h1
    · exact (h.da _ h1).2 rfl
    · omega
  · rcases hva' k hk with h1 | h1
    · exact ⟨.inl (h.da k h1).1, (h.da k h1).2⟩
    · exact ⟨.inr ⟨h1, hlt k hk⟩, by omega⟩
  · rcases hva' k hk with h1 | h1
    · exact h.dar k h1 e
    · have := (hlow k (h.dr k e).1).2; omega
  · rw [hsz]
    rcases hk with hk | hk
    · have := hlow k hk; exact ⟨this.1, by omega⟩
    · have := (hlow tb h.dt).1; exact ⟨by omega, hk.2⟩
  · rcases hd with hd | hd
    · exact h.kdis k hk hd
    · have := h.klt k hk; omega
  · have := h.klt k hk
    rw [hsz]; omega
/-- Behind an append to the paths removed. -/
theorem TxAt.removed (h : TxAt ty B w D K tb t vf va vr) {w1 w2 : World} {vr' : Value} {p : Str} (hb1 : Below w.heap.size w w1) (hg : w1.grownBy w2 vr.ownBlock) (hn : vr'.ownBlock = vr.ownBlock ∨ vr'.ownBlock = some w1.heap.size) (hlt : ∀ k, vr'.ownBlock = some k → k < w2.heap.size)
    (ho : Own encS 9 1 B w2 vr' (t.removes ++ [p])) (i : Nat) (hi : i = 8) :
    TxAt ty B (w2.setCell ⟨tb, i, none⟩ vr') (grewD D w.heap.size w2.heap.size) K tb { t with removes := t.removes ++ [p] } vf va vr' ∧ ButD D w (w2.setCell ⟨tb, i, none⟩ vr') := by
  subst hi
  have hs1 := hb1.size
  have hs2 := hg.size
  have hlow := h.low
  have hOld : ∀ k, k < w.heap.size → vr.ownBlock ≠ some k → w2.heap[k]? = w.heap[k]? := fun k hk hne => (hg.block k (by omega) (fun e => hne e.symm)).trans (hb1.block k hk)
  have hset : ∀ k, k ≠ tb → (w2.setCell ⟨tb, 8, none⟩ vr').heap[k]? = w2.heap[k]? := fun k hk => by
    have : tb ≠ k := fun e => hk e.symm
    simp [World.setCell, Array.getElem?_modify, this]
  have hsz : (w2.setCell ⟨tb, 8, none⟩ vr').heap.size = w2.heap.size := by simp [World.setCell]
  have htb : w2.heap[tb]? = w.heap[tb]? := hOld tb h.lt fun e => (h.dr tb e).2 rfl
  have hvr' : ∀ k, vr'.ownBlock = some k → (vr.ownBlock = some k) ∨ w.heap.size ≤ k := fun k hk => by
    rcases hn with hn | hn
    · exact .inl (hn ▸ hk)
    · rw [hn] at hk; cases hk; exact .inr hs1
  have htlt := h.lt
  refine ⟨⟨row_setCell (htb.trans h.blk) vr', fun W hW => h.files W fun k hk => (hW k hk).trans ((hset k (fun e => h.kdis k hk (e ▸ h.dt))).trans (hOld k (h.klt k hk) (fun e => h.kdis k hk (h.dr k e).1))),
    h.adds.blocked fun g hg' => (hset g (h.da g hg').2).trans (hOld g (hlow g (h.da g hg').1).2 (fun e => h.dar g hg' e)), ho.blocked fun g hg' => hset g (fun e => ?_), .inl h.dt, fun k hk => ⟨.inl (h.da k hk).1, (h.da k hk).2⟩, fun k hk => ?_, fun k hk e => ?_, fun k hk => ?_, fun k hk hd => ?_, fun k hk => ?_⟩,
    ⟨hg.os.trans hb1.os, hg.tape.trans hb1.tape, hg.output.trans hb1.output, by rw [hsz]; omega, fun k hk hn' => (hset k (fun e => hn' (e ▸ h.dt))).trans (hOld k hk (fun e => hn' (h.dr k e).1))⟩⟩
  · subst e
    rcases hvr' _ hg' with h1 | h1
    · exact (h.dr _ h1).2 rfl
    · omega
  · rcases hvr' k hk with h1 | h1
    · exact ⟨.inl (h.dr k h1).1, (h.dr k h1).2⟩
    · exact ⟨.inr ⟨h1, hlt k hk⟩, by omega⟩
  · rcases hvr' k e with h1 | h1
    · exact h.dar k hk h1
    · have := (hlow k (h.da k hk).1).2; omega
  · rw [hsz]
    rcases hk with hk | hk
    · have := hlow k hk; exact ⟨this.1, by omega⟩
    · have := (hlow tb h.dt).1; exact ⟨by omega, hk.2⟩
  · rcases hd with hd | hd
    · exact h.kdis k hk hd
    · have := h.klt k hk; omega
  · have := h.klt k hk
    rw [hsz]; omega
end Go.Proofs.YtefoaeamfkbgbaaGreatDoor
namespace Go.Proofs.YtefoaeamfkbgbaaGreatDoor
open Go.RowKit Go.Maps

/-- A row stays where only blocks turn that hold no cells. -/
theorem At.turned {α : Type} {enc : α → List Value} {sz : Nat} {w w' : World} {v : Value} {l : List α} (h : At enc sz w v l) (hw : ∀ k, k < w.heap.size → (∀ o, w.cell? ⟨k, o, none⟩ = none) ∨ w'.heap[k]? = w.heap[k]?) : At enc sz w' v l := by
  obtain ⟨a, c, b, o, hv, ha, hc, hm, hx⟩ := h
  refine ⟨a, c, b, o, hv, ha, hc, hm, fun k x hk j u hu => ?_⟩
  have h1 := hx k x hk j u hu
  have h2 : b < w.heap.size := World.block_lt_of_cell? w _ h1
  rcases hw b h2 with h3 | h3
  · rw [h3] at h1; cases h1
  · exact (World.cell?_of_block (w := w) (w' := w') (a := ⟨b, o + k * sz + j, none⟩) h3).trans h1
theorem map_cell {w : World} {b n : Nat} {xs : List (Str × Value)} (h : w.ownsMap Tryz.prog 9 heldR b n (mapV xs)) (o : Nat) : w.cell? ⟨b, o, none⟩ = none := by
  obtain ⟨es, clock, hb, -⟩ := h
  simp [World.cell?, hb]

/-- A reader in block rb, its maps in mr and mk, behind the files fs; all of it at B or behind it. -/
structure ReadAt (os : List Ob) (W : World) (B rb mr mk : Nat) (fs : List Fl) : Prop where
  blk : W.heap[rb]? = some (.cells #[.map (some mr), .map (some mk)] 98 (0, 0))
  low : B ≤ rb ∧ B ≤ mr ∧ B ≤ mk
  ne : mr ≠ mk ∧ rb ≠ mr ∧ rb ≠ mk
  maps : ∃ xr xk nr nk, nr ≤ fs.length ∧ nk ≤ fs.length ∧ W.ownsMap Tryz.prog 9 heldR mr nr (mapV xr) ∧ W.ownsMap Tryz.prog 9 heldR mk nk (mapV xk) ∧ Stock os W fs xr xk
section
variable {os : List Ob} {W W' : World} {B rb mr mk : Nat} {fs : List Fl}
theorem ReadAt.lt (h : ReadAt os W B rb mr mk fs) : rb < W.heap.size := (Array.getElem?_eq_some_iff.1 h.blk).1
theorem ReadAt.below (h : ReadAt os W B rb mr mk fs) (hb : Below W.heap.size W W') : ReadAt os W' B rb mr mk fs := by
  obtain ⟨xr, xk, nr, nk, h1, h2, h3, h4, h5⟩ := h.maps
  have hg : W.grownBy W' none := ⟨hb.os, hb.tape, hb.output, hb.size, fun k hk _ => hb.block k hk⟩
  exact ⟨(hb.block rb h.lt).trans h.blk, h.low, h.ne, xr, xk, nr, nk, h1, h2, h3.kept hg (by simp), h4.kept hg (by simp), h5.below hb⟩
theorem ReadAt.c0 (h : ReadAt os W B rb mr mk fs) : W.cell? ⟨rb, 0, none⟩ = some (.map (some mr)) := by rw [cell_of_row W _ _ _ _ (0, 0) h.blk]; rfl
theorem ReadAt.c1 (h : ReadAt os W B rb mr mk fs) : W.cell? ⟨rb, 1, none⟩ = some (.map (some mk)) := by rw [cell_of_row W _ _ _ _ (0, 0) h.blk]; rfl
theorem ReadAt.putRows (h : ReadAt os W B rb mr mk fs) {f : Fl} {v : Value} (hg : isG f = false) (hv : RowsAt W v (rowsO os f)) (hd : ∀ g ∈ fs, g.path ≠ f.path) (hp : f.path.length ≤ 100000) (hn : fs.length ≤ 100000) :
    ∃ w', (Instr.mapUpdate 95 (.map (some mr)) (S f.path) v).run Tryz.prog W = .ok () w' ∧ ReadAt os w' B rb mr mk (fs ++ [f]) ∧ W.grownBy w' (some mr) := by
  obtain ⟨xr, xk, nr, nk, h1, h2, h3, h4, h5⟩ := h.maps
  obtain ⟨w', k1, k2, k3⟩ := updSR h3 f.path hp (by unfold maxLen; omega) v
  have ht : ∀ k, k < W.heap.size → (∀ o, W.cell? ⟨k, o, none⟩ = none) ∨ w'.heap[k]? = W.heap[k]? := fun k hk => by
    by_cases e : k = mr
    · subst e; exact .inl (map_cell h3)
    · exact .inr (k3.block k hk (fun h' => e (Option.some.inj h')))
  refine ⟨w', k1, ⟨(k3.block rb h.lt (fun h' => h.ne.2.1 (Option.some.inj h'))).trans h.blk, h.low, h.ne, _, _, nr + 1, nk, by simp; omega, by simp; omega, k2, h4.kept k3 (fun h' => h.ne.1 (Option.some.inj h').symm), ?_⟩, k3⟩
  exact (h5.putRows hg hv hd).moved (fun v l h' => h'.turned ht) (fun v l h' => h'.turned ht)
theorem ReadAt.putKeys (h : ReadAt os W B rb mr mk fs) {f : Fl} {v : Value} (hg : isG f = true) (hv : IntsAt W v (keysO os f)) (hd : ∀ g ∈ fs, g.path ≠ f.path) (hp : f.path.length ≤ 100000) (hn : fs.length ≤ 100000) :
    ∃ w', (Instr.mapUpdate 96 (.map (some mk)) (S f.path) v).run Tryz.prog W = .ok () w' ∧ ReadAt os w' B rb mr mk (fs ++ [f]) ∧ W.grownBy w' (some mk) := by
  obtain ⟨xr, xk, nr, nk, h1, h2, h3, h4, h5⟩ := h.maps
  obtain ⟨w', k1, k2, k3⟩ := updSI h4 f.path hp (by unfold maxLen; omega) v
  have ht : ∀ k, k < W.heap.size → (∀ o, W.cell? ⟨k, o, none⟩ = none) ∨ w'.heap[k]? = W.heap[k]? := fun k hk => by
    by_cases e : k = mk
    · subst e; exact .inl (map_cell h4)
    · exact .inr (k3.block k hk (fun h' => e (Option.some.inj h')))
  refine ⟨w', k1, ⟨(k3.block rb h.lt (fun h' => h.ne.2.2 (Option.some.inj h'))).trans h.blk, h.low, h.ne, _, _, nr, nk + 1, by simp; omega, by simp; omega, h3.kept k3 (fun h' => h.ne.1 (Option.some.inj h')), k2, ?_⟩, k3⟩
  exact (h5.putKeys hg hv hd).moved (fun v l h' => h'.turned ht) (fun v l h' => h'.turned ht)
end

theorem erOf_pos' {c : Nat} (h : c ≠ 0) : erOf c = .bare c := if_neg h
theorem fileE_none {os : List Ob} {f : Fl} (h : getO os f.path = none) : fileE os f = 6 := by unfold fileE; rw [h]; rfl
theorem fileE_some {os : List Ob} {f y : Fl} {o : Ob} {c : Nat} (h : getO os f.path = some o) (h2 : ofText f.path f.part o.text f.seq = (y, c)) : fileE os f = if c ≠ 0 then c else if y ≠ f then 3 else 0 := by
  have ht : textO os f.path = o.text := by unfold textO; rw [h]; rfl
  unfold fileE
  rw [ht, h2, h]
  simp
theorem turnD {w w3 w4 : World} {D : Nat → Prop} {m : Nat} (hb : Below w.heap.size w w3) (hg : w3.grownBy w4 (some m)) (hD : D m) : ButD D w w4 :=
  ⟨hg.os.trans hb.os, hg.tape.trans hb.tape, hg.output.trans hb.output, Nat.le_trans hb.size hg.size, fun k hk hn => (hg.block k (Nat.lt_of_lt_of_le hk hb.size) (fun e => hn (by rw [Option.some.inj e]; exact hD))).trans (hb.block k hk)⟩
attribute [local go_sem ↓] Go.wp_at_zero Go.wp_at_succ in
set_option maxHeartbeats 4000000 in
set_option maxRecDepth 20000 in
theorem srRead_any (E : Nat → Addr) (B : Nat) (sb mb : Nat) (st : St) (B0 rb mr mk : Nat) (fs : List Fl) (f : Fl) (w : World) (hE : Errs [1, 2, 3, 4, 5, 6, 8, 9, 10] E B w) (hT : LNum B w) (hM : LMax B w) (h : StoreAt w sb mb st) (hx : ∀ o ∈ st.objs, o.text.length ≤ 10000)
    (hr : ReadAt st.objs w B0 rb mr mk fs) (hd : ∀ g ∈ fs, g.path ≠ f.path) (hn : fs.length ≤ 1000) (hf : midF f) :
    Calls Tryz.prog 46 #[.pointer (some ⟨rb, 0, none⟩), stP sb, fileV f] w fun e w' => ∃ ev, e = .returned ev ∧ ErV E w' ev (erOf (fileE st.objs f)) ∧ (fileE st.objs f = 0 → ReadAt st.objs w' B0 rb mr mk (fs ++ [f])) ∧ ButD (fun k => k = mr ∨ k = mk) w w' := by
  have hBw := hE.le
  have hif := isIfaceE
  have X := Lib.hid (fun W (hb : Below w.heap.size w W) => (⟨hE.below' hb hBw, hT.below' hb hBw, hM.below' hb hBw, h.below hb, hr.below hb⟩ : Errs [1, 2, 3, 4, 5, 6, 8, 9, 10] E B W ∧ LNum B W ∧ LMax B W ∧ StoreAt W sb mb st ∧ ReadAt st.objs W B0 rb mr mk fs))
  have V3 := Lib.hid (fun W (hb : Below w.heap.size w W) => (hE.below' hb hBw).var 3 (by decide))
  have hba : Below w.heap.size w (w.alloc (fileO f)) := (Below.refl _ _).alloc (Nat.le_refl _) _
  have CF := Lib.hid (fun W (h : Below (w.alloc (fileO f)).heap.size (w.alloc (fileO f)) W) => fileCells (f := f) (w := w) rfl h)
  have HX := Lib.hid hx; have HD := Lib.hid hd; have HN := Lib.hid hn; have HF := Lib.hid hf
  clear hE hT hM h hx hr hd hn hf
  go_enter Tryz.func46, Tryz.ntmps46
  go_upto_region 1 with fail
  generalize w.alloc (fileO f) = w0 at *
  obtain ⟨c0, c1, c2, c3, c4, c5⟩ := CF.out _ (Below.refl _ _)
  have HGt := Lib.hid (get_any E B sb mb st f.path w0 ((X.out _ hba).1.sub (by decide)) (X.out _ hba).2.2.2.1 HF.out.1)
  cases ho : getO st.objs f.path with
  | none =>
    have HE6 := Lib.hid (fileE_none ho)
    rw [ho] at HGt
    clear ho
    go_wp2_with fail
    refine HGt.out.mono ?_
    rintro e w1 ⟨ev, rfl, hev, hb1⟩
    have hbw1 := hba.trans (hb1.mono hba.size)
    have HEv := Lib.hid hev
    obtain ⟨t1, x1, rfl⟩ := hev.iface (by simp)
    clear hev c0 c1 c2 c3 c4 c5
    go_wp2_with fail
    go_ret
    refine ⟨_, rfl, ?_, ?_, ButD.of hbw1⟩
    · rw [HE6.out]; exact HEv.out
    · rw [HE6.out]; intro h0; cases h0
  | some o =>
    obtain ⟨y, c, hyc⟩ : ∃ y c, ofText f.path f.part o.text f.seq = (y, c) := ⟨_, _, rfl⟩
    have HEc := Lib.hid (fileE_some ho hyc)
    have HTx : Hid (textO st.objs f.path = o.text) := Lib.hid (by unfold textO; rw [ho]; rfl)
    have HLo := Lib.hid (HX.out o (getO_mem ho).1)
    rw [ho] at HGt
    have HYc := Lib.hid hyc
    clear ho hyc
    go_wp2_with fail
    refine HGt.out.mono ?_
    rintro e w1 ⟨ev, rfl, hev, hb1⟩
    obtain rfl : ev = .nilIface := hev
    have hbw1 := hba.trans (hb1.mono hba.size)
    have HOf := Lib.hid (fileOf_any E B f.path f.part o.text f.seq w1 ((X.out _ hbw1).1.sub (by decide)) (X.out _ hbw1).2.1 (X.out _ hbw1).2.2.1 HF.out.1 HF.out.2 (.inl HLo.out) (by have := HLo.out; omega))
    unfold OfPost at HOf
    rw [HYc.out] at HOf
    clear c0 c1 c2 c3 c4 c5 HGt
    obtain ⟨c0, c1, c2, c3, c4, c5⟩ := CF.out _ hb1
    go_wp2_with fail
    refine HOf.out.mono ?_
    rintro e w2 ⟨ev, rfl, hev, hb2⟩
    have hb02 := hb1.trans (hb2.mono hb1.size)
    have hbw2 := hbw1.trans (hb2.mono hbw1.size)
    have hb23 : Below w2.heap.size w2 (w2.alloc (fileO y)) := (Below.refl _ _).alloc (Nat.le_refl _) _
    have hb03 := hb02.trans (hb23.mono hb02.size)
    have hbw3 := hbw2.trans (hb23.mono hbw2.size)
    have HEv := Lib.hid (hev.below hb23)
    have CY := Lib.hid (fun W (h : Below (w2.alloc (fileO y)).heap.size (w2.alloc (fileO y)) W) => fileCells (f := y) (w := w2) rfl h)
    clear c0 c1 c2 c3 c4 c5 HOf
    by_cases hc : c = 0
    case neg =>
      obtain ⟨t1, x1, rfl⟩ := hev.iface (by rw [erOf_pos' hc]; simp)
      have HEc2 : Hid (fileE st.objs f = c) := Lib.hid (by rw [HEc.out, if_pos hc])
      have HC := Lib.hid hc
      clear hev hc
      go_wp2_with fail
      go_ret
      refine ⟨_, rfl, ?_, ?_, ButD.of hbw3⟩
      · rw [HEc2.out]; exact HEv.out
      · rw [HEc2.out]; exact fun h0 => absurd h0 HC.out
    subst hc
    obtain rfl : ev = .nilIface := hev
    go_upto_region 5 with fail
    generalize w2.alloc (fileO y) = w3 at *
    obtain ⟨c0, c1, c2, c3, c4, c5⟩ := CF.out _ hb03
    obtain ⟨y0, y1, y2, y3, y4, y5⟩ := CY.out _ (Below.refl _ _)
    have hnq := fl_neq y f
    have hgd := fl_guard
    by_cases hy : y = f
    case neg =>
      have HEc2 : Hid (fileE st.objs f = 3) := Lib.hid (by rw [HEc.out, if_neg (by simp), if_pos hy])
      rw [decide_eq_false hy, Bool.not_false] at hnq
      have v3 := V3.out _ hbw3
      simp only [errG] at v3
      clear hy
      go_wp2_with fail
      go_ret
      refine ⟨_, rfl, ?_, ?_, ButD.of hbw3⟩
      · rw [HEc2.out]; exact ⟨by decide, rfl⟩
      · rw [HEc2.out]; intro h0; cases h0
    rw [decide_eq_true hy, Bool.not_true] at hnq
    have HE0 : Hid (fileE st.objs f = 0) := Lib.hid (by rw [HEc.out, if_neg (by simp), if_neg (by simp [hy])])
    have HRk := Lib.hid (read_known HE0.out)
    have HPt := Lib.hid (show (f.part == [45]) = isG f from rfl)
    clear hy HEc
    cases hgf : isG f with
    | true =>
      have hp : (f.part == [45]) = true := hgf
      have hK : keysO st.objs f = goneL o.text := by unfold keysO; rw [if_pos hgf, HTx.out]
      have hE := (HRk.out.2.1 hgf).1
      rw [HTx.out] at hE
      have HK := Lib.hid hK; have HGE := Lib.hid hE; have HGf := Lib.hid hgf
      clear hK hE hgf
      have hd3 : Below w3.heap.size w3 w3.drew := (Below.refl _ _).drew
      have hbwd := hbw3.trans (hd3.mono hbw3.size)
      have hb0d := hb03.trans (hd3.mono hb03.size)
      have HGr := Lib.hid (goneRead_any E B o.text w3.drew ((X.out _ hbwd).1.sub (by decide)) (X.out _ hbwd).2.1 (X.out _ hbwd).2.2.1 (by have := HLo.out; omega))
      go_upto_region 10 with fail
      clear y0 y1 y2 y3 y4 y5 hnq hgd c0 c1 c2 c3 c4 c5
      obtain ⟨c0, -, -, -, -, -⟩ := CF.out _ hb0d
      have r1 := (X.out _ hbwd).2.2.2.2.c1
      go_region_with ((go_at_call 109; refine HGr.out.mono ?_; rintro e w4 ⟨u, ev, rfl, hev, hu, hb4⟩; rw [HGE.out] at hev; obtain rfl : ev = .nilIface := hev; have hbw4 := hbwd.trans (hb4.mono hbwd.size); have hb04 := hb0d.trans (hb4.mono hb0d.size); have R4 := Lib.hid (X.out _ hbw4).2.2.2.2; rw [← HK.out] at hu; obtain ⟨w5, hup, hr5, hg5⟩ := R4.out.putKeys HGf.out hu HD.out HF.out.1 (by have := HN.out; omega); have HR5 := Lib.hid hr5; have HG5 := Lib.hid hg5; clear c0 r1 hu hr5 hg5; obtain ⟨c0, -, -, -, -, -⟩ := CF.out _ hb04; have r1 := R4.out.c1))
      all_goals
        go_wp2_with fail
        go_ret
        exact ⟨_, rfl, by rw [HE0.out]; rfl, fun _ => HR5.out, turnD hbw4 HG5.out (.inr rfl)⟩
    | false =>
      have hp : (f.part == [45]) = false := hgf
      have hK : rowsO st.objs f = dataL o.text := by unfold rowsO; rw [if_neg (by rw [hgf]; decide), HTx.out]
      have hE := (HRk.out.2.2 hgf).1
      rw [HTx.out] at hE
      have HK := Lib.hid hK; have HGE := Lib.hid hE; have HGf := Lib.hid hgf
      clear hK hE hgf
      have hd3 : Below w3.heap.size w3 w3.drew := (Below.refl _ _).drew
      have hbwd := hbw3.trans (hd3.mono hbw3.size)
      have hb0d := hb03.trans (hd3.mono hb03.size)
      have HGr := Lib.hid (dataRead_any E B o.text w3.drew ((X.out _ hbwd).1.sub (by decide)) (X.out _ hbwd).2.1 (X.out _ hbwd).2.2.1 (.inl HLo.out) (by have := HLo.out; omega))
      go_upto_region 11 with fail
      clear y0 y1 y2 y3 y4 y5 hnq hgd c0 c1 c2 c3 c4 c5
      obtain ⟨c0, -, -, -, -, -⟩ := CF.out _ hb0d
      have r1 := (X.out _ hbwd).2.2.2.2.c0
      go_region_with ((go_at_call 110; refine HGr.out.mono ?_; rintro e w4 ⟨u, ev, rfl, hev, hu, hb4⟩; rw [HGE.out] at hev; obtain rfl : ev = .nilIface := hev; have hbw4 := hbwd.trans (hb4.mono hbwd.size); have hb04 := hb0d.trans (hb4.mono hb0d.size); have R4 := Lib.hid (X.out _ hbw4).2.2.2.2; rw [← HK.out] at hu; obtain ⟨w5, hup, hr5, hg5⟩ := R4.out.putRows HGf.out hu HD.out HF.out.1 (by have := HN.out; omega); have HR5 := Lib.hid hr5; have HG5 := Lib.hid hg5; clear c0 r1 hu hr5 hg5; obtain ⟨c0, -, -, -, -, -⟩ := CF.out _ hb04; have r1 := R4.out.c0))
      all_goals
        go_wp2_with fail
        go_ret
        exact ⟨_, rfl, by rw [HE0.out]; rfl, fun _ => HR5.out, turnD hbw4 HG5.out (.inl rfl)⟩
end Go.Proofs.YtefoaeamfkbgbaaGreatDoor
namespace Go.Proofs.YtefoaeamfkbgbaaGreatDoor
open Go.RowKit
theorem idx_any {α : Type} {p : α → Bool} {l : List α} : decide (0 ≤ idxVal p l) = l.any p := by
  unfold idxVal
  cases h : l.findIdx? p with
  | none =>
    have : l.any p = false := List.any_eq_false.2 fun x hx => by simpa using List.findIdx?_eq_none_iff.1 h x hx
    rw [this]; rfl
  | some i =>
    obtain ⟨h1, h2, -⟩ := List.findIdx?_eq_some_iff_getElem.1 h
    have : l.any p = true := List.any_eq_true.2 ⟨l[i], List.getElem_mem h1, h2⟩
    rw [this]
    simp
theorem idx_ways {α : Type} (p : α → Bool) (l : List α) : (l.any p = true ∧ 0 ≤ idxVal p l) ∨ (l.any p = false ∧ decide (0 ≤ idxVal p l) = false) := by
  have := idx_any (p := p) (l := l)
  cases h : l.any p with
  | true => rw [h] at this; exact .inl ⟨rfl, by simpa using this⟩
  | false => rw [h] at this; exact .inr ⟨rfl, this⟩
theorem containsFuncF_any (f : FuncId) (caps : Array Value) (p : Fl → Bool) (base : Nat) (w0 : World) (v : Value) (l : List Fl) (w : World) (hf : Clo Tryz.prog f) (hp : PredOn Tryz.prog f caps fileV l p base w0)
    (hl : FilesAt w v l) (hw : Below base w0 w) (hB : base ≤ w.heap.size) :
    Calls Tryz.prog 50 #[v, .func (.func f) #[] caps] w fun e w' => e = .returned (.bool (l.any p)) ∧ Below w.heap.size w w' := by
  have HI := Lib.hid (indexFuncF_any f caps p base w0 v l w hf hp hl hw hB)
  obtain ⟨a, c, rfl, -, -⟩ := At.form' hl
  rcases idx_ways p l with ⟨h1, h2⟩ | ⟨h1, h2⟩
  all_goals
    rw [h1]
    clear h1
    generalize idxVal p l = i at *
    go_enter Tryz.func50, Tryz.ntmps50
    go_wp2_with fail
    refine HI.out.mono ?_
    rintro e w1 ⟨rfl, hb1⟩
    go_wp2_with fail
    go_ret
    exact ⟨rfl, hb1⟩
end Go.Proofs.YtefoaeamfkbgbaaGreatDoor
namespace Go.Proofs.YtefoaeamfkbgbaaGreatDoor
open Go.RowKit Go.Maps

theorem up_of_nextI : ∀ {l : List Int}, (∀ (k : Nat) (x y : Int), l[k]? = some y → l[k + 1]? = some x → y < x) → upI l
  | [], _ => .nil
  | [a], _ => List.pairwise_singleton _ _
  | a :: b :: r, h => by
    have ih : upI (b :: r) := up_of_nextI fun k x y h1 h2 => h (k + 1) x y (by simpa using h1) (by simpa using h2)
    have hab : a < b := h 0 b a rfl rfl
    refine List.pairwise_cons.2 ⟨fun x hx => ?_, ih⟩
    rcases List.mem_cons.1 hx with rfl | hx
    · exact hab
    · exact Int.lt_trans hab ((List.pairwise_cons.1 ih).1 x hx)
theorem gone_right {s : Str} (h : goneE s = .nil) : upI (goneL s) ∧ (goneL s).length ≤ 40 := by
  obtain ⟨-, -, -, e4, e5⟩ := readEr_text h
  have hL : goneL s = (splitL s).dropLast.map numD := by unfold goneL; rw [if_pos h]
  rw [hL]
  refine ⟨up_of_nextI fun k x y h1 h2 => ?_, e5⟩
  rw [List.getElem?_map] at h1 h2
  obtain ⟨s1, g1, rfl⟩ := Option.map_eq_some_iff.1 h1
  obtain ⟨s2, g2, rfl⟩ := Option.map_eq_some_iff.1 h2
  obtain ⟨p1, q1⟩ := List.getElem?_eq_some_iff.1 g1
  obtain ⟨p2, q2⟩ := List.getElem?_eq_some_iff.1 g2
  rw [List.getElem_dropLast] at q1 q2
  rw [List.length_dropLast] at p1 p2
  have r1 : (splitL s)[k]? = some s1 := by rw [List.getElem?_eq_getElem (by omega), q1]
  have r2 : (splitL s)[k + 1]? = some s2 := by rw [List.getElem?_eq_getElem (by omega), q2]
  have hb := e4 (k + 1) (by omega)
  unfold goneBad at hb
  rw [r2] at hb
  simp only at hb
  split at hb
  · cases hb
  split at hb
  · cases hb
  split at hb
  · cases hb
  rename_i h3
  apply Classical.byContradiction
  intro hle
  exact h3 ⟨by omega, s1, by rw [Nat.add_sub_cancel]; exact r1, by omega⟩
theorem keysO_right {os : List Ob} {f : Fl} (h : fileE os f = 0) : upI (keysO os f) ∧ (keysO os f).length ≤ 40 := by
  cases hg : isG f with
  | true =>
    have := gone_right ((read_known h).2.1 hg).1
    unfold keysO
    rw [if_pos hg]
    exact this
  | false => rw [keysO_data hg]; exact ⟨List.Pairwise.nil, by simp⟩

set_option maxHeartbeats 1000000 in
set_option maxRecDepth 20000 in
theorem srIn_any (os : List Ob) (B0 rb mr mk : Nat) (fs : List Fl) (f g : Fl) (x : Rw) (fb rx xb : Nat) (w : World) (hr : ReadAt os w B0 rb mr mk fs) (hup : UpF fs) (hg : g ∈ fs) (hok : fileE os g = 0) (hm : g.path.length ≤ 100000)
    (h1 : w.cell? ⟨fb, 5, none⟩ = some (.int .i64 f.seq)) (h2 : w.cell? ⟨rx, 0, none⟩ = some (.pointer (some ⟨rb, 0, none⟩))) (h3 : w.cell? ⟨xb, 1, none⟩ = some (.int .i64 x.key)) :
    Calls Tryz.prog 51 #[fileV g, .pointer (some ⟨fb, 0, none⟩), .pointer (some ⟨rx, 0, none⟩), .pointer (some ⟨xb, 0, none⟩)] w fun e w' => e = .returned (.bool (decide (f.seq < g.seq) && decide (x.key ∈ keysO os g))) ∧ Below w.heap.size w w' := by
  have hba : Below w.heap.size w (w.alloc (fileO g)) := (Below.refl _ _).alloc (Nat.le_refl _) _
  have CF := Lib.hid (fun W (h : Below (w.alloc (fileO g)).heap.size (w.alloc (fileO g)) W) => fileCells (f := g) (w := w) rfl h)
  obtain ⟨xr, xk, nr, nk, -, -, -, hmk, hst⟩ := hr.maps
  obtain ⟨v, hv⟩ : ∃ v, (getP g.path xk).getD (.slice none 0 0) = v := ⟨_, rfl⟩
  have HK := Lib.hid (fun W (hb : Below w.heap.size w W) => (⟨(hb.cell (World.block_lt_of_cell? w _ h1)).trans h1, (hb.cell (World.block_lt_of_cell? w _ h2)).trans h2, (hb.cell (World.block_lt_of_cell? w _ h3)).trans h3, (hr.below hb).c1, by
    have hgb : w.grownBy W none := ⟨hb.os, hb.tape, hb.output, hb.size, fun k hk _ => hb.block k hk⟩
    have := lookSI (hmk.kept hgb (by simp)) g.path hm
    rwa [hv] at this⟩ : W.cell? ⟨fb, 5, none⟩ = some (.int .i64 f.seq) ∧ W.cell? ⟨rx, 0, none⟩ = some (.pointer (some ⟨rb, 0, none⟩)) ∧ W.cell? ⟨xb, 1, none⟩ = some (.int .i64 x.key) ∧ W.cell? ⟨rb, 1, none⟩ = some (.map (some mk)) ∧ (Instr.lookup 96 (.map (some mk)) (S g.path) false).run Tryz.prog W = .ok v W))
  have hvk := hst.keysAt hup hg
  rw [hv] at hvk
  obtain ⟨hu1, hu2⟩ := keysO_right hok
  have HV := Lib.hid hvk
  have HH := Lib.hid (fun W (hb : Below w.heap.size w W) => goneHas_any v (keysO os g) x.key W (hvk.below hb) (by omega) hu1)
  clear hr hup hg hok h1 h2 h3 hmk hst hv hvk hu1 hu2
  by_cases hq : f.seq < g.seq
  case neg =>
    rw [decide_eq_false hq, Bool.false_and]
    have gq : decide (f.seq < g.seq) = false := decide_eq_false hq
    clear hq
    obtain ⟨k1, k2, k3, k4, k5⟩ := HK.out _ hba
    obtain ⟨c0, c1, c2, c3, c4, c5⟩ := CF.out _ (Below.refl _ _)
    go_enter Tryz.func51, Tryz.ntmps51
    go_upto_region 1 with fail
    generalize w.alloc (fileO g) = w0 at *
    go_quiet (fail)
    go_wp2_with fail
    go_ret
    exact ⟨rfl, Bdn hba _⟩
  rw [decide_eq_true hq, Bool.true_and]
  go_enter Tryz.func51, Tryz.ntmps51
  go_upto_region 1 with fail
  generalize w.alloc (fileO g) = w0 at *
  have hd : Below w0.heap.size w0 w0.drew := (Below.refl _ _).drew
  have hbd := hba.trans (hd.mono hba.size)
  obtain ⟨k1, k2, k3, k4, k5⟩ := HK.out _ hbd
  obtain ⟨c0, c1, c2, c3, c4, c5⟩ := CF.out _ hd
  go_region_held3 (fun w' => w'.cell? ⟨w.heap.size, 5, none⟩ = some (.int .i64 g.seq) ∧ w'.cell? ⟨w.heap.size, 0, none⟩ = some (S g.path) ∧ w'.cell? ⟨fb, 5, none⟩ = some (.int .i64 f.seq) ∧ w'.cell? ⟨rx, 0, none⟩ = some (.pointer (some ⟨rb, 0, none⟩)) ∧ w'.cell? ⟨xb, 1, none⟩ = some (.int .i64 x.key) ∧ w'.cell? ⟨rb, 1, none⟩ = some (.map (some mk)) ∧ (Instr.lookup 96 (.map (some mk)) (S g.path) false).run Tryz.prog w' = .ok v w') (exact ⟨c5, c0, k1, k2, k3, k4, k5⟩)
    ((go_at_call 52; (with_reducible refine (HH.out _ hbd).mono ?_); rintro e w1 ⟨rfl, hb1⟩; have hb01 := hd.trans (hb1.mono hd.size); have hbw1 := hbd.trans (hb1.mono hbd.size); clear k1 k2 k3 k4 k5 c0 c1 c2 c3 c4 c5; obtain ⟨k1, k2, k3, k4, k5⟩ := HK.out _ hbw1; obtain ⟨c0, c1, c2, c3, c4, c5⟩ := CF.out _ hb01))
  all_goals
    go_wp2_with fail
    go_ret
    exact ⟨rfl, hbw1⟩
theorem clo_srIn : Clo Tryz.prog 51 := fun _ _ => by kernel_rfl
set_option maxHeartbeats 1000000 in
set_option maxRecDepth 20000 in
theorem srOut_any (os : List Ob) (B0 rb mr mk : Nat) (fs : List Fl) (f : Fl) (x : Rw) (lb fb rx : Nat) (v : Value) (w : World) (hr : ReadAt os w B0 rb mr mk fs) (hup : UpF fs) (hok : ∀ g ∈ fs, fileE os g = 0) (hm : ∀ g ∈ fs, midF g)
    (h0 : w.cell? ⟨lb, 0, none⟩ = some v) (hl : FilesAt w v fs) (h1 : w.cell? ⟨fb, 5, none⟩ = some (.int .i64 f.seq)) (h2 : w.cell? ⟨rx, 0, none⟩ = some (.pointer (some ⟨rb, 0, none⟩))) :
    Calls Tryz.prog 49 #[rowV x, .pointer (some ⟨lb, 0, none⟩), .pointer (some ⟨fb, 0, none⟩), .pointer (some ⟨rx, 0, none⟩)] w fun e w' => e = .returned (.bool (killed os fs f.seq x.key)) ∧ Below w.heap.size w w' := by
  have hba : Below w.heap.size w (w.alloc (.cells #[S x.part, .int .i64 x.key, .int .i64 x.val] 65)) := (Below.refl _ _).alloc (Nat.le_refl _) _
  have hgx := heap_alloc_new w (.cells #[S x.part, .int .i64 x.key, .int .i64 x.val] 65)
  obtain ⟨a, c, rfl, -, -⟩ := At.form' hl
  have h0' := (hba.cell (World.block_lt_of_cell? w _ h0)).trans h0
  have HKl : Hid (∀ q k, (fs.any fun g => decide (q < g.seq) && decide (k ∈ keysO os g)) = killed os fs q k) := Lib.hid fun _ _ => rfl
  have HP := Lib.hid (fun (W : World) (hW : Below w.heap.size w W) (hx : W.cell? ⟨w.heap.size, 1, none⟩ = some (.int .i64 x.key)) (g : Fl) (hg : g ∈ fs) => srIn_any os B0 rb mr mk fs f g x fb rx w.heap.size W (hr.below hW) hup hg (hok g hg) (hm g hg).1 ((hW.cell (World.block_lt_of_cell? w _ h1)).trans h1) ((hW.cell (World.block_lt_of_cell? w _ h2)).trans h2) hx)
  have HL := Lib.hid (hl.below hba)
  clear hr hup hok hm h0 hl h1 h2
  go_enter Tryz.func49, Tryz.ntmps49
  go_upto_region 1 with fail
  generalize w.alloc (.cells #[S x.part, .int .i64 x.key, .int .i64 x.val] 65) = w0 at *
  have HCf := Lib.hid (containsFuncF_any 51 #[.pointer (some ⟨fb, 0, none⟩), .pointer (some ⟨rx, 0, none⟩), .pointer (some ⟨w.heap.size, 0, none⟩)] (fun g => decide (f.seq < g.seq) && decide (x.key ∈ keysO os g)) w0.heap.size w0 (.slice a fs.length c) fs w0 clo_srIn
    (fun W g hg hW _ => by
      have hx : W.cell? ⟨w.heap.size, 1, none⟩ = some (.int .i64 x.key) := by rw [cell_of_row W _ _ _ _ (0, 0) (rowKept hgx hW)]; rfl
      exact HP.out W (hba.trans (hW.mono hba.size)) hx g hg) HL.out (Below.refl _ _) (Nat.le_refl _))
  rw [HKl.out] at HCf
  clear hgx
  go_wp2_with fail
  refine HCf.out.mono ?_
  rintro e w1 ⟨rfl, hb1⟩
  go_wp2_with fail
  go_ret
  exact ⟨rfl, hba.trans (hb1.mono hba.size)⟩
theorem clo_srOut : Clo Tryz.prog 49 := fun _ _ => by kernel_rfl
end Go.Proofs.YtefoaeamfkbgbaaGreatDoor
