/- A change in memory; what turns only some blocks. slices.IndexFunc and DeleteFunc at []int, at whatever function value that answers by a plain predicate. slices.DeleteFunc at []int. slices.IndexFunc and ContainsFunc at []string and at []api.File, at whatever function value that answers by a plain predicate. A file's cells, by its block. txn.Txn's Add and Remove: the walks; the same of the document's. Package store in plain words: objects by names, rising; a map's datum of them. Of no program. -/
import Derived.Test.YtmhchakjkgdpmaaGreatDoorTt8
import Derived.Test.YtmhchakjkgdpmaaGreatDoorTt2
import Derived.Test.YtmhchakjkgdpmaaGreatDoorTt5
import Derived.Outline
import Derived.Test.YtmhchakjkgdpmaaGreatDoorTt4
import Derived.Test.YtmhchakjkgdpmaaGreatDoorTt7
import Derived.Test.YtmhchakjkgdpmaaGreatDoorTt6
import Derived.Deep.RegionHeld3
import Derived.Deep.RegionLaw
import Derived.BigRegion
import Derived.Test.YtmhchakjkgdpmaaGreatDoorTt1
import Derived.Maps.OwnSet
import Derived.Maps.Ext
import Derived.Sort.KeysCollected
namespace Go.Proofs.YtmhchakjkgdpmaaGreatDoor
open Go.RowKit

/-- All that was there is as it was, but some blocks. -/
structure ButD (D : Nat → Prop) (w w' : World) : Prop where
  os : w'.os = w.os
  tape : w'.tape = w.tape
  output : w'.output = w.output
  size : w.heap.size ≤ w'.heap.size
  block : ∀ k, k < w.heap.size → ¬ D k → w'.heap[k]? = w.heap[k]?
theorem ButD.of {D : Nat → Prop} {w w' : World} (h : Below w.heap.size w w') : ButD D w w' := ⟨h.os, h.tape, h.output, h.size, fun k hk _ => h.block k hk⟩
theorem ButD.trans {D D' : Nat → Prop} {a b c : World} (h : ButD D a b) (k : ButD D' b c) (hD : ∀ k, D' k → D k ∨ a.heap.size ≤ k) : ButD D a c :=
  ⟨k.os.trans h.os, k.tape.trans h.tape, k.output.trans h.output, Nat.le_trans h.size k.size, fun j hj hn => (k.block j (Nat.lt_of_lt_of_le hj h.size) (fun hd => by
    rcases hD j hd with h1 | h1
    · exact hn h1
    · omega)).trans (h.block j hj hn)⟩
theorem ButD.below {D : Nat → Prop} {B : Nat} {a b : World} (h : ButD D a b) (hD : ∀ k, D k → B ≤ k) (hB : B ≤ a.heap.size) : Below B a b :=
  ⟨h.os, h.tape, h.output, h.size, fun k hk => h.block k (Nat.lt_of_lt_of_le hk hB) (fun hd => by have := hD k hd; omega)⟩
theorem ButD.mono {D D' : Nat → Prop} {a b : World} (h : ButD D a b) (hD : ∀ k, D k → D' k) : ButD D' a b := ⟨h.os, h.tape, h.output, h.size, fun k hk hn => h.block k hk (fun hd => hn (hD k hd))⟩

/-- A row that the call owns, where its block is as it was. -/
theorem Own.blocked {α : Type} {enc : α → List Value} {e : TypeId} {sz B : Nat} {w w' : World} {v : Value} {l : List α} (h : Own enc e sz B w v l) (hk : ∀ g, v.ownBlock = some g → w'.heap[g]? = w.heap[g]?) : Own enc e sz B w' v l := by
  refine ⟨h.1, h.2.imp id ?_⟩
  rintro ⟨g, cap, cur, rfl, hb, hg, h3⟩
  exact ⟨g, cap, cur, rfl, hb, (hk g rfl).trans hg, h3⟩
theorem Own.far {α : Type} {enc : α → List Value} {e : TypeId} {sz B : Nat} {w : World} {v : Value} {l : List α} (hen : Enc enc sz) (h : Own enc e sz B w v l) (W : World) (hk : ∀ g, v.ownBlock = some g → W.heap[g]? = w.heap[g]?) : At enc sz W v l := (h.blocked hk).at hen
/-- What stands in a slice hangs on one block. -/
theorem At.far {α : Type} {enc : α → List Value} {sz B : Nat} {w : World} {v : Value} {l : List α} (h : At enc sz w v l) (hB : w.heap.size ≤ B) (W : World) (hk : ∀ k, k < B → W.heap[k]? = w.heap[k]?) : At enc sz W v l := by
  obtain ⟨a, c, b, o, hv, ha, hc, hm, hx⟩ := h
  refine ⟨a, c, b, o, hv, ha, hc, hm, fun k x hxk j u hu => ?_⟩
  have h1 := hx k x hxk j u hu
  have h2 : b < w.heap.size := World.block_lt_of_cell? w _ h1
  exact (World.cell?_of_block (w := w) (w' := W) (a := ⟨b, o + k * sz + j, none⟩) (hk b (by omega))).trans h1

abbrev txCells (t : Tx) (vf va vr : Value) : Array Value := #[.int .i64 t.base.id, .int .i64 t.base.parent, .int .i64 t.base.seq, .int .i64 t.base.day, .int .i64 t.base.index, S t.base.op, vf, va, vr]
/-- A change of type ty in block tb: D are its blocks, all at B or behind it; what it was begun with lies in blocks K. -/
structure TxAt (ty : TypeId) (B : Nat) (w : World) (D K : Nat → Prop) (tb : Nat) (t : Tx) (vf va vr : Value) : Prop where
  blk : w.heap[tb]? = some (.cells (txCells t vf va vr) ty (0, 0))
  files : ∀ W : World, (∀ k, K k → W.heap[k]? = w.heap[k]?) → FilesAt W vf t.base.files
  adds : Own encF 37 6 B w va t.adds
  rems : Own encS 9 1 B w vr t.removes
  dt : D tb
  da : ∀ k, va.ownBlock = some k → D k ∧ k ≠ tb
  dr : ∀ k, vr.ownBlock = some k → D k ∧ k ≠ tb
  dar : ∀ k, va.ownBlock = some k → vr.ownBlock ≠ some k
  low : ∀ k, D k → B ≤ k ∧ k < w.heap.size
  kdis : ∀ k, K k → ¬ D k
  klt : ∀ k, K k → k < w.heap.size
variable {ty : TypeId} {B : Nat} {w : World} {D K : Nat → Prop} {tb : Nat} {t : Tx} {vf va vr : Value}
theorem TxAt.kept (h : TxAt ty B w D K tb t vf va vr) {D2 : Nat → Prop} {w' : World} (hb : ButD D2 w w') (hd : ∀ k, D2 k → ¬ D k ∧ ¬ K k) : TxAt ty B w' D K tb t vf va vr := by
  have hD : ∀ k, D k → w'.heap[k]? = w.heap[k]? := fun k hk => hb.block k (h.low k hk).2 (fun h2 => (hd k h2).1 hk)
  exact ⟨(hD tb h.dt).trans h.blk, fun W hW => h.files W fun k hk => (hW k hk).trans (hb.block k (h.klt k hk) (fun h2 => (hd k h2).2 hk)),
    h.adds.blocked fun g hg => hD g (h.da g hg).1, h.rems.blocked fun g hg => hD g (h.dr g hg).1, h.dt, h.da, h.dr, h.dar, fun k hk => ⟨(h.low k hk).1, Nat.lt_of_lt_of_le (h.low k hk).2 hb.size⟩, h.kdis, fun k hk => Nat.lt_of_lt_of_le (h.klt k hk) hb.size⟩
theorem TxAt.below (h : TxAt ty B w D K tb t vf va vr) {w' : World} (hb : Below w.heap.size w w') : TxAt ty B w' D K tb t vf va vr :=
  h.kept (D2 := fun _ => False) (ButD.of hb) (fun _ h => h.elim)
theorem TxAt.lt (h : TxAt ty B w D K tb t vf va vr) : tb < w.heap.size := (h.low tb h.dt).2
theorem TxAt.c0 (h : TxAt ty B w D K tb t vf va vr) : w.cell? ⟨tb, 0, none⟩ = some (.int .i64 t.base.id) := by rw [cell_of_row w _ _ _ _ (0, 0) h.blk]; rfl
theorem TxAt.c2 (h : TxAt ty B w D K tb t vf va vr) : w.cell? ⟨tb, 2, none⟩ = some (.int .i64 t.base.seq) := by rw [cell_of_row w _ _ _ _ (0, 0) h.blk]; rfl
theorem TxAt.c6 (h : TxAt ty B w D K tb t vf va vr) : w.cell? ⟨tb, 6, none⟩ = some vf := by rw [cell_of_row w _ _ _ _ (0, 0) h.blk]; rfl
theorem TxAt.c7 (h : TxAt ty B w D K tb t vf va vr) : w.cell? ⟨tb, 7, none⟩ = some va := by rw [cell_of_row w _ _ _ _ (0, 0) h.blk]; rfl
theorem TxAt.c8 (h : TxAt ty B w D K tb t vf va vr) : w.cell? ⟨tb, 8, none⟩ = some vr := by rw [cell_of_row w _ _ _ _ (0, 0) h.blk]; rfl
theorem TxAt.fz (h : TxAt ty B w D K tb t vf va vr) (i : Nat) : w.frozen? ⟨tb, i, none⟩ = false := frozen_row h.blk
theorem TxAt.baseAt (h : TxAt ty B w D K tb t vf va vr) : FilesAt w vf t.base.files := h.files w fun _ _ => rfl
theorem TxAt.addsAt (h : TxAt ty B w D K tb t vf va vr) : FilesAt w va t.adds := h.adds.at encF_enc
theorem TxAt.remsAt (h : TxAt ty B w D K tb t vf va vr) : StrsAt w vr t.removes := h.rems.at encS_enc
/-- The blocks behind a step: those that were, and new ones. -/
def grewD (D : Nat → Prop) (n m : Nat) : Nat → Prop := fun k => D k ∨ (n ≤ k ∧ k < m)
/-- Behind an append to the files added. -/
theorem TxAt.added (h : TxAt ty B w D K tb t vf va vr) {w1 w2 : World} {va' : Value} {f : Fl} (hb1 : Below w.heap.size w w1) (hg : w1.grownBy w2 va.ownBlock) (hn : va'.ownBlock = va.ownBlock ∨ va'.ownBlock = some w1.heap.size) (hlt : ∀ k, va'.ownBlock = some k → k < w2.heap.size)
    (ho : Own encF 37 6 B w2 va' (t.adds ++ [f])) (i : Nat) (hi : i = 7) :
    TxAt ty B (w2.setCell ⟨tb, i, none⟩ va') (grewD D w.heap.size w2.heap.size) K tb { t with adds := t.adds ++ [f] } vf va' vr ∧ ButD D w (w2.setCell ⟨tb, i, none⟩ va') := by
  subst hi
  have hs1 := hb1.size
  have hs2 := hg.size
  have hlow := h.low
  have hOld : ∀ k, k < w.heap.size → va.ownBlock ≠ some k → w2.heap[k]? = w.heap[k]? := fun k hk hne => (hg.block k (by omega) (fun e => hne e.symm)).trans (hb1.block k hk)
  have hset : ∀ k, k ≠ tb → (w2.setCell ⟨tb, 7, none⟩ va').heap[k]? = w2.heap[k]? := fun k hk => by
    have : tb ≠ k := fun e => hk e.symm
    simp [World.setCell, Array.getElem?_modify, this]
  have hsz : (w2.setCell ⟨tb, 7, none⟩ va').heap.size = w2.heap.size := by simp [World.setCell]
  have htb : w2.heap[tb]? = w.heap[tb]? := hOld tb h.lt fun e => (h.da tb e).2 rfl
  have hva' : ∀ k, va'.ownBlock = some k → (va.ownBlock = some k) ∨ w.heap.size ≤ k := fun k hk => by
    rcases hn with hn | hn
    · exact .inl (hn ▸ hk)
    · rw [hn] at hk; cases hk; exact .inr hs1
  have htlt := h.lt
  refine ⟨⟨row_setCell (htb.trans h.blk) va', fun W hW => h.files W fun k hk => (hW k hk).trans ((hset k (fun e => h.kdis k hk (e ▸ h.dt))).trans (hOld k (h.klt k hk) (fun e => h.kdis k hk (h.da k e).1))), ho.blocked fun g hg' => hset g (fun e => ?_),
    h.rems.blocked fun g hg' => (hset g (h.dr g hg').2).trans (hOld g (hlow g (h.dr g hg').1).2 (fun e => h.dar g e hg')), .inl h.dt, fun k hk => ?_, fun k hk => ⟨.inl (h.dr k hk).1, (h.dr k hk).2⟩, fun k hk e => ?_, fun k hk => ?_, fun k hk hd => ?_, fun k hk => ?_⟩,
    ⟨hg.os.trans hb1.os, hg.tape.trans hb1.tape, hg.output.trans hb1.output, by rw [hsz]; omega, fun k hk hn' => (hset k (fun e => hn' (e ▸ h.dt))).trans (hOld k hk (fun e => hn' (h.da k e).1))⟩⟩
  · subst e
    rcases hva' _ hg' with h1 | h1
    · exact (h.da _ h1).2 rfl
    · omega
  · rcases hva' k hk with h1 | h1
    · exact ⟨.inl (h.da k h1).1, (h.da k h1).2⟩
    · exact ⟨.inr ⟨h1, hlt k hk⟩, by omega⟩
  · rcases hva' k hk with h1 | h1
    · exact h.dar k h1 e
    · have := (hlow k (h.dr k e).1).2; omega
  · rw [hsz]
    rcases hk with hk | hk
    · have := hlow k hk; exact ⟨this.1, by omega⟩
    · have := (hlow tb h.dt).1; exact ⟨by omega, hk.2⟩
  · rcases hd with hd | hd
    · exact h.kdis k hk hd
    · have := h.klt k hk; omega
  · have := h.klt k hk
    rw [hsz]; omega
/-- Behind an append to the paths removed. -/
theorem TxAt.removed (h : TxAt ty B w D K tb t vf va vr) {w1 w2 : World} {vr' : Value} {p : Str} (hb1 : Below w.heap.size w w1) (hg : w1.grownBy w2 vr.ownBlock) (hn : vr'.ownBlock = vr.ownBlock ∨ vr'.ownBlock = some w1.heap.size) (hlt : ∀ k, vr'.ownBlock = some k → k < w2.heap.size)
    (ho : Own encS 9 1 B w2 vr' (t.removes ++ [p])) (i : Nat) (hi : i = 8) :
    TxAt ty B (w2.setCell ⟨tb, i, none⟩ vr') (grewD D w.heap.size w2.heap.size) K tb { t with removes := t.removes ++ [p] } vf va vr' ∧ ButD D w (w2.setCell ⟨tb, i, none⟩ vr') := by
  subst hi
  have hs1 := hb1.size
  have hs2 := hg.size
  have hlow := h.low
  have hOld : ∀ k, k < w.heap.size → vr.ownBlock ≠ some k → w2.heap[k]? = w.heap[k]? := fun k hk hne => (hg.block k (by omega) (fun e => hne e.symm)).trans (hb1.block k hk)
  have hset : ∀ k, k ≠ tb → (w2.setCell ⟨tb, 8, none⟩ vr').heap[k]? = w2.heap[k]? := fun k hk => by
    have : tb ≠ k := fun e => hk e.symm
    simp [World.setCell, Array.getElem?_modify, this]
  have hsz : (w2.setCell ⟨tb, 8, none⟩ vr').heap.size = w2.heap.size := by simp [World.setCell]
  have htb : w2.heap[tb]? = w.heap[tb]? := hOld tb h.lt fun e => (h.dr tb e).2 rfl
  have hvr' : ∀ k, vr'.ownBlock = some k → (vr.ownBlock = some k) ∨ w.heap.size ≤ k := fun k hk => by
    rcases hn with hn | hn
    · exact .inl (hn ▸ hk)
    · rw [hn] at hk; cases hk; exact .inr hs1
  have htlt := h.lt
  refine ⟨⟨row_setCell (htb.trans h.blk) vr', fun W hW => h.files W fun k hk => (hW k hk).trans ((hset k (fun e => h.kdis k hk (e ▸ h.dt))).trans (hOld k (h.klt k hk) (fun e => h.kdis k hk (h.dr k e).1))),
    h.adds.blocked fun g hg' => (hset g (h.da g hg').2).trans (hOld g (hlow g (h.da g hg').1).2 (fun e => h.dar g hg' e)), ho.blocked fun g hg' => hset g (fun e => ?_), .inl h.dt, fun k hk => ⟨.inl (h.da k hk).1, (h.da k hk).2⟩, fun k hk => ?_, fun k hk e => ?_, fun k hk => ?_, fun k hk hd => ?_, fun k hk => ?_⟩,
    ⟨hg.os.trans hb1.os, hg.tape.trans hb1.tape, hg.output.trans hb1.output, by rw [hsz]; omega, fun k hk hn' => (hset k (fun e => hn' (e ▸ h.dt))).trans (hOld k hk (fun e => hn' (h.dr k e).1))⟩⟩
  · subst e
    rcases hvr' _ hg' with h1 | h1
    · exact (h.dr _ h1).2 rfl
    · omega
  · rcases hvr' k hk with h1 | h1
    · exact ⟨.inl (h.dr k h1).1, (h.dr k h1).2⟩
    · exact ⟨.inr ⟨h1, hlt k hk⟩, by omega⟩
  · rcases hvr' k e with h1 | h1
    · exact h.dar k hk h1
    · have := (hlow k (h.da k hk).1).2; omega
  · rw [hsz]
    rcases hk with hk | hk
    · have := hlow k hk; exact ⟨this.1, by omega⟩
    · have := (hlow tb h.dt).1; exact ⟨by omega, hk.2⟩
  · rcases hd with hd | hd
    · exact h.kdis k hk hd
    · have := h.klt k hk; omega
  · have := h.klt k hk
    rw [hsz]; omega
end Go.Proofs.YtmhchakjkgdpmaaGreatDoor
namespace Go.Proofs.YtmhchakjkgdpmaaGreatDoor
open Go.RowKit

theorem indexFuncI_any (f : FuncId) (caps : Array Value) (p : Int → Bool) (base : Nat) (w0 : World) (v : Value) (l : List Int) (w : World) (hf : Clo Tryz.prog f) (hp : PredOn Tryz.prog f caps (.int .i64) l p base w0)
    (hl : IntsAt w v l) (hw : Below base w0 w) (hB : base ≤ w.heap.size) :
    Calls Tryz.prog 107 #[v, .func (.func f) #[] caps] w fun e w' => e = .returned (.int .i64 (idxVal p l)) ∧ Below w.heap.size w w' := by
  obtain ⟨a, c, b, o, rfl, ha, hc, hcm, hx⟩ := hl
  unfold maxLen at hcm
  have hf' := hf
  unfold Clo at hf'
  go_enter Tryz.func107, Tryz.ntmps107
  go_wp2_with fail
  go_loopw [8] (fun i wr => ∃ k : Nat, k ≤ l.length ∧ i = .int .i64 k ∧ Hid (∀ j y, j < k → l[j]? = some y → p y = false) ∧ Below w.heap.size w wr) (fun i _ => l.length - (intOf i).toNat)
  case atStart => exact ⟨0, by omega, rfl, fun j y hj => absurd hj (by omega), Below.refl _ _⟩
  case round =>
    obtain ⟨k, hk, rfl, hj, hb⟩ := hrel
    by_cases hlt : k < l.length
    · obtain ⟨x, hxk⟩ := get_ex hlt
      have c1 := hx k x hxk 0 _ rfl
      have c1 := (hb.cell (World.block_lt_of_cell? w _ c1)).trans c1
      have i1 := idx_at (c := c) 1 Tryz.underlying92 szInt ha k hlt
      have hk1 : (k : Int) < (l.length : Int) := by omega
      simp only [Nat.mul_one, Nat.add_zero] at c1 i1
      have hpx := hp wr x (List.mem_of_getElem? hxk) (hw.trans (hb.mono hB)) (Nat.le_trans hB hb.size)
      have Hp := Lib.hid hpx; clear hpx
      have Hx := Lib.hid hxk; clear hxk
      go_wp2_with fail
      refine Hp.out.mono ?_
      rintro e w1 ⟨rfl, hb1⟩
      have hb2 := hb.trans (hb1.mono hb.size)
      cases hpv : p x with
      | true =>
        have Hpv := Lib.hid hpv; clear hpv
        go_wp2_with fail
        go_ret
        refine ⟨?_, hb2⟩
        rw [idxVal_some Hx.out Hpv.out hj.out]; rfl
      | false =>
        have Hpv := Lib.hid hpv; clear hpv
        go_wp2_with fail
        go_roundw
        case rel => exact ⟨k + 1, by omega, by go_num, (fun j y hj' hy => by
          rcases Nat.lt_or_ge j k with h | h
          · exact hj.out j y h hy
          · obtain rfl : j = k := by omega
            rw [Hx.out] at hy
            obtain rfl := Option.some.inj hy
            exact Hpv.out), hb2⟩
        case measure => simp [intOf]; omega
    · obtain rfl : k = l.length := by omega
      go_wp2_with fail
      go_ret
      refine ⟨?_, hb⟩
      rw [idxVal_none fun j x hj' => hj.out j x (by
        rcases Nat.lt_or_ge j l.length with h | h
        · exact h
        · rw [List.getElem?_eq_none h] at hj'; cases hj') hj']
      rfl
end Go.Proofs.YtmhchakjkgdpmaaGreatDoor
namespace Go.Proofs.YtmhchakjkgdpmaaGreatDoor
open Go.RowKit

theorem own_cell1 {α : Type} {val : α → Value} {e : TypeId} {B : Nat} {w : World} {g n cap : Nat} {l : List α} (hen : Enc (fun x => [val x]) 1) (h : Own (fun x => [val x]) e 1 B w (.slice (some ⟨g, 0, none⟩) n cap) l) {k : Nat} {x : α} (hk : l[k]? = some x) :
    w.cell? ⟨g, k, none⟩ = some (val x) ∧ w.frozen? ⟨g, k, none⟩ = false ∧ B ≤ g := by
  have hlt : k < l.length := by
    rcases Nat.lt_or_ge k l.length with h' | h'
    · exact h'
    · rw [List.getElem?_eq_none h'] at hk; cases hk
  obtain ⟨g', cap', cur, hv, hB, hg, hc, hm, hs, ht⟩ := h.open (by omega)
  cases hv
  refine ⟨?_, frozen_row hg, hB⟩
  have := flat_get hen l k x hk 0 (val x) rfl
  rw [← ht] at this
  rw [cell_of_row w g k cur e (0, 0) hg]
  simp only [Nat.mul_one, Nat.add_zero] at this
  rw [List.getElem?_take, if_pos hlt] at this
  simpa using this

end Go.Proofs.YtmhchakjkgdpmaaGreatDoor
namespace Go.Proofs.YtmhchakjkgdpmaaGreatDoor
open Go.RowKit
theorem indexFuncS_any (f : FuncId) (caps : Array Value) (p : Str → Bool) (base : Nat) (w0 : World) (v : Value) (l : List Str) (w : World) (hf : Clo Tryz.prog f) (hp : PredOn Tryz.prog f caps S l p base w0)
    (hl : StrsAt w v l) (hw : Below base w0 w) (hB : base ≤ w.heap.size) :
    Calls Tryz.prog 129 #[v, .func (.func f) #[] caps] w fun e w' => e = .returned (.int .i64 (idxVal p l)) ∧ Below w.heap.size w w' := by
  obtain ⟨a, c, b, o, rfl, ha, hc, hcm, hx⟩ := hl
  unfold maxLen at hcm
  have hf' := hf
  unfold Clo at hf'
  go_enter Tryz.func129, Tryz.ntmps129
  go_wp2_with fail
  go_loopw [8] (fun i wr => ∃ k : Nat, k ≤ l.length ∧ i = .int .i64 k ∧ Hid (∀ j y, j < k → l[j]? = some y → p y = false) ∧ Below w.heap.size w wr) (fun i _ => l.length - (intOf i).toNat)
  case atStart => exact ⟨0, by omega, rfl, fun j y hj => absurd hj (by omega), Below.refl _ _⟩
  case round =>
    obtain ⟨k, hk, rfl, hj, hb⟩ := hrel
    by_cases hlt : k < l.length
    · obtain ⟨x, hxk⟩ := get_ex hlt
      have c1 := hx k x hxk 0 _ rfl
      have c1 := (hb.cell (World.block_lt_of_cell? w _ c1)).trans c1
      have i1 := idx_at (c := c) 1 Tryz.underlying35 szStr ha k hlt
      have hk1 : (k : Int) < (l.length : Int) := by omega
      simp only [Nat.mul_one, Nat.add_zero] at c1 i1
      have hpx := hp wr x (List.mem_of_getElem? hxk) (hw.trans (hb.mono hB)) (Nat.le_trans hB hb.size)
      have Hp := Lib.hid hpx; clear hpx
      have Hx := Lib.hid hxk; clear hxk
      go_wp2_with fail
      refine Hp.out.mono ?_
      rintro e w1 ⟨rfl, hb1⟩
      have hb2 := hb.trans (hb1.mono hb.size)
      cases hpv : p x with
      | true =>
        have Hpv := Lib.hid hpv; clear hpv
        go_wp2_with fail
        go_ret
        refine ⟨?_, hb2⟩
        rw [idxVal_some Hx.out Hpv.out hj.out]; rfl
      | false =>
        have Hpv := Lib.hid hpv; clear hpv
        go_wp2_with fail
        go_roundw
        case rel => exact ⟨k + 1, by omega, by go_num, (fun j y hj' hy => by
          rcases Nat.lt_or_ge j k with h | h
          · exact hj.out j y h hy
          · obtain rfl : j = k := by omega
            rw [Hx.out] at hy
            obtain rfl := Option.some.inj hy
            exact Hpv.out), hb2⟩
        case measure => simp [intOf]; omega
    · obtain rfl : k = l.length := by omega
      go_wp2_with fail
      go_ret
      refine ⟨?_, hb⟩
      rw [idxVal_none fun j x hj' => hj.out j x (by
        rcases Nat.lt_or_ge j l.length with h | h
        · exact h
        · rw [List.getElem?_eq_none h] at hj'; cases hj') hj']
      rfl
theorem idx_any {α : Type} {p : α → Bool} {l : List α} : decide (0 ≤ idxVal p l) = l.any p := by
  unfold idxVal
  cases h : l.findIdx? p with
  | none =>
    have : l.any p = false := List.any_eq_false.2 fun x hx => by simpa using List.findIdx?_eq_none_iff.1 h x hx
    rw [this]; rfl
  | some i =>
    obtain ⟨h1, h2, -⟩ := List.findIdx?_eq_some_iff_getElem.1 h
    have : l.any p = true := List.any_eq_true.2 ⟨l[i], List.getElem_mem h1, h2⟩
    rw [this]
    simp
theorem idx_ways {α : Type} (p : α → Bool) (l : List α) : (l.any p = true ∧ 0 ≤ idxVal p l) ∨ (l.any p = false ∧ decide (0 ≤ idxVal p l) = false) := by
  have := idx_any (p := p) (l := l)
  cases h : l.any p with
  | true => rw [h] at this; exact .inl ⟨rfl, by simpa using this⟩
  | false => rw [h] at this; exact .inr ⟨rfl, this⟩
theorem containsFuncS_any (f : FuncId) (caps : Array Value) (p : Str → Bool) (base : Nat) (w0 : World) (v : Value) (l : List Str) (w : World) (hf : Clo Tryz.prog f) (hp : PredOn Tryz.prog f caps S l p base w0)
    (hl : StrsAt w v l) (hw : Below base w0 w) (hB : base ≤ w.heap.size) :
    Calls Tryz.prog 64 #[v, .func (.func f) #[] caps] w fun e w' => e = .returned (.bool (l.any p)) ∧ Below w.heap.size w w' := by
  have HI := Lib.hid (indexFuncS_any f caps p base w0 v l w hf hp hl hw hB)
  obtain ⟨a, c, rfl, -, -⟩ := At.form' hl
  rcases idx_ways p l with ⟨h1, h2⟩ | ⟨h1, h2⟩
  all_goals
    rw [h1]
    clear h1
    generalize idxVal p l = i at *
    go_enter Tryz.func64, Tryz.ntmps64
    go_wp2_with fail
    refine HI.out.mono ?_
    rintro e w1 ⟨rfl, hb1⟩
    go_wp2_with fail
    go_ret
    exact ⟨rfl, hb1⟩
theorem containsFuncF_any (f : FuncId) (caps : Array Value) (p : Fl → Bool) (base : Nat) (w0 : World) (v : Value) (l : List Fl) (w : World) (hf : Clo Tryz.prog f) (hp : PredOn Tryz.prog f caps fileV l p base w0)
    (hl : FilesAt w v l) (hw : Below base w0 w) (hB : base ≤ w.heap.size) :
    Calls Tryz.prog 66 #[v, .func (.func f) #[] caps] w fun e w' => e = .returned (.bool (l.any p)) ∧ Below w.heap.size w w' := by
  have HI := Lib.hid (indexFuncF_any f caps p base w0 v l w hf hp hl hw hB)
  obtain ⟨a, c, rfl, -, -⟩ := At.form' hl
  rcases idx_ways p l with ⟨h1, h2⟩ | ⟨h1, h2⟩
  all_goals
    rw [h1]
    clear h1
    generalize idxVal p l = i at *
    go_enter Tryz.func66, Tryz.ntmps66
    go_wp2_with fail
    refine HI.out.mono ?_
    rintro e w1 ⟨rfl, hb1⟩
    go_wp2_with fail
    go_ret
    exact ⟨rfl, hb1⟩
end Go.Proofs.YtmhchakjkgdpmaaGreatDoor
namespace Go.Proofs.YtmhchakjkgdpmaaGreatDoor
open Go.RowKit

theorem rowF6 {W : World} {g : Nat} {f : Fl} {t : TypeId} (h : W.heap[g]? = some (.cells #[S f.path, S f.part, .int .i64 f.n, .int .i64 f.lo, .int .i64 f.hi, .int .i64 f.seq] t (0, 0))) :
    W.cell? ⟨g, 0, none⟩ = some (S f.path) ∧ W.cell? ⟨g, 1, none⟩ = some (S f.part) ∧ W.cell? ⟨g, 2, none⟩ = some (.int .i64 f.n) ∧ W.cell? ⟨g, 3, none⟩ = some (.int .i64 f.lo) ∧ W.cell? ⟨g, 4, none⟩ = some (.int .i64 f.hi) ∧ W.cell? ⟨g, 5, none⟩ = some (.int .i64 f.seq) := by
  refine ⟨?_, ?_, ?_, ?_, ?_, ?_⟩ <;> (rw [cell_of_row W _ _ _ _ (0, 0) h]; rfl)
/-- A block that was there, later. -/
theorem rowKept {W W' : World} {g : Nat} {o : Obj} (h : W.heap[g]? = some o) (hb : Below W.heap.size W W') : W'.heap[g]? = some o := (hb.block g (Array.getElem?_eq_some_iff.1 h).1).trans h
theorem set_other {w : World} {g k i : Nat} (h : g ≠ k) (v : Value) : (w.setCell ⟨g, i, none⟩ v).heap[k]? = w.heap[k]? := by simp [World.setCell, Array.getElem?_modify, h]
theorem six_other (w : World) {g k o : Nat} (h : g ≠ k) (b0 b1 b2 b3 b4 b5 : Value) : (six w g o b0 b1 b2 b3 b4 b5).heap[k]? = w.heap[k]? := by
  rw [set_other h, set_other h, set_other h, set_other h, set_other h, set_other h]
end Go.Proofs.YtmhchakjkgdpmaaGreatDoor
namespace Go.Proofs.YtmhchakjkgdpmaaGreatDoor
open Go.RowKit

/-- append, shut: so that a walk meets its equation and does not lay it open. -/
def shutApp (argTypes : Array TypeId) (type : TypeId) (args : Array Value) : Sem Value := Builtin.append_ argTypes type args
theorem shutApp_eq (argTypes : Array TypeId) (type : TypeId) (args : Array Value) : Builtin.append_ argTypes type args = shutApp argTypes type args := rfl
theorem erOf_zero : erOf 0 = .nil := rfl
theorem erOf_pos {c : Nat} (h : c ≠ 0) : erOf c = .bare c := if_neg h
theorem fileEr_of (f : Fl) : fileEr f = erOf (checkF f) := rfl

attribute [local go_sem ↓] shutApp_eq in
set_option maxHeartbeats 2000000 in
set_option maxRecDepth 20000 in
theorem txAdd_any (E : Nat → Addr) (B0 B : Nat) (D K : Nat → Prop) (tb : Nat) (t : Tx) (vf va vr : Value) (f : Fl) (w : World) (hE : Errs [2, 4, 5, 7] E B0 w) (hT : LNum B0 w) (hM : LMax B0 w) (h : TxAt 115 B w D K tb t vf va vr) (hf : midF f) (hn : t.adds.length ≤ 1000) :
    Calls Tryz.prog 16 #[.pointer (some ⟨tb, 0, none⟩), fileV f] w fun e w' => ∃ ev va' D', e = .returned ev ∧ ErV E w' ev (erOf (addTE t f)) ∧ TxAt 115 B w' D' K tb (addT t f) vf va' vr ∧ (∀ k, D' k → D k ∨ w.heap.size ≤ k) ∧ ButD D w w' := by
  have hBw := hE.le
  have hif := isIfaceE
  obtain ⟨p, pt, n, lo, hi, sq⟩ := f
  have hm1 : midF ⟨p, pt, n, lo, hi, 1⟩ := hf
  have hba : Below w.heap.size w (w.alloc (.cells #[S p, S pt, .int .i64 n, .int .i64 lo, .int .i64 hi, .int .i64 1] 37)) := (Below.refl _ _).alloc (Nat.le_refl _) _
  have hg0 := heap_alloc_new w (.cells #[S p, S pt, .int .i64 n, .int .i64 lo, .int .i64 hi, .int .i64 1] 37)
  have hTE : addTE t ⟨p, pt, n, lo, hi, sq⟩ = if checkF ⟨p, pt, n, lo, hi, 1⟩ ≠ 0 then checkF ⟨p, pt, n, lo, hi, 1⟩ else if 0 ≤ findV t.adds p then 7 else 0 := rfl
  have hTT : addT t ⟨p, pt, n, lo, hi, sq⟩ = if addTE t ⟨p, pt, n, lo, hi, sq⟩ = 0 then { t with adds := t.adds ++ [⟨p, pt, n, lo, hi, 1⟩] } else t := rfl
  have HTE := Lib.hid hTE; have HTT := Lib.hid hTT
  have HG0 := Lib.hid hg0
  have V0 := fun w6 (h6 : Below w.heap.size w w6) => (hE.below' h6 hBw).var 7 (by decide)
  simp only [errG] at V0
  have V7 := Lib.hid V0
  have X := Lib.hid (fun W (h6 : Below w.heap.size w W) => (⟨hE.below' h6 hBw, hT.below' h6 hBw, hM.below' h6 hBw, h.below h6⟩ : Errs [2, 4, 5, 7] E B0 W ∧ LNum B0 W ∧ LMax B0 W ∧ TxAt 115 B W D K tb t vf va vr))
  have htb := h.lt
  obtain ⟨a, c, rfl, -, -⟩ := At.form' h.addsAt
  clear hTE hTT hg0 V0 hE hT hM hf
  go_enter Tryz.func16, Tryz.ntmps16
  go_upto_region 2 with fail
  generalize w.alloc (.cells #[S p, S pt, .int .i64 n, .int .i64 lo, .int .i64 hi, .int .i64 1] 37) = w0 at *
  obtain ⟨c0, c1, c2, c3, c4, c5⟩ := rowF6 (f := ⟨p, pt, n, lo, hi, 1⟩) HG0.out
  have HCk := Lib.hid (fileCheck_any E B0 ⟨p, pt, n, lo, hi, 1⟩ w0 ((X.out _ hba).1.sub (by decide)) (X.out _ hba).2.1 (X.out _ hba).2.2.1 hm1)
  go_wp2_with fail
  refine HCk.out.mono ?_
  rintro e w1 ⟨ev, rfl, hev, hb1⟩
  have hbw1 := hba.trans (hb1.mono hba.size)
  rw [fileEr_of] at hev
  have hg1 := rowKept HG0.out hb1
  have HG1 := Lib.hid hg1
  have H1 := Lib.hid (X.out _ hbw1).2.2.2
  clear c0 c1 c2 c3 c4 c5 hg1 HCk
  obtain ⟨c0, c1, c2, c3, c4, c5⟩ := rowF6 (f := ⟨p, pt, n, lo, hi, 1⟩) HG1.out
  by_cases hc : checkF ⟨p, pt, n, lo, hi, 1⟩ = 0
  case neg =>
    have HTE2 : Hid (addTE t ⟨p, pt, n, lo, hi, sq⟩ = checkF ⟨p, pt, n, lo, hi, 1⟩) := Lib.hid (by rw [HTE.out, if_pos hc])
    have HTT2 : Hid (addT t ⟨p, pt, n, lo, hi, sq⟩ = t) := Lib.hid (by rw [HTT.out, if_neg (by rw [HTE2.out]; exact hc)])
    have HEv := Lib.hid hev
    obtain ⟨t1, x1, rfl⟩ := hev.iface (by rw [erOf_pos hc]; simp)
    clear hev hc
    go_wp2_with fail
    go_ret
    exact ⟨_, _, D, rfl, by rw [HTE2.out]; exact HEv.out, by rw [HTT2.out]; exact H1.out, fun k hk => .inl hk, ButD.of hbw1⟩
  have hev0 := hev
  rw [hc] at hev0
  obtain rfl : ev = .nilIface := hev0
  have HTE2 : Hid (addTE t ⟨p, pt, n, lo, hi, sq⟩ = if 0 ≤ findV t.adds p then 7 else 0) := Lib.hid (by rw [HTE.out, if_neg (by rw [hc]; simp)])
  have hd : Below w1.heap.size w1 w1.drew := (Below.refl _ _).drew
  have H1D := Lib.hid (H1.out.below hd)
  have HGD := Lib.hid (rowKept HG1.out hd)
  have HFi := Lib.hid (listFind_any _ t.adds p w1.drew H1D.out.addsAt)
  have a7 := H1D.out.c7
  clear hev hc HTE c0 c1 c2 c3 c4 c5
  obtain ⟨c0, c1, c2, c3, c4, c5⟩ := rowF6 (f := ⟨p, pt, n, lo, hi, 1⟩) HGD.out
  have hbwD := hbw1.trans (hd.mono hbw1.size)
  by_cases hfd : 0 ≤ findV t.adds p
  case pos =>
    have HTE3 : Hid (addTE t ⟨p, pt, n, lo, hi, sq⟩ = 7) := Lib.hid (by rw [HTE2.out, if_pos hfd])
    have HTT2 : Hid (addT t ⟨p, pt, n, lo, hi, sq⟩ = t) := Lib.hid (by rw [HTT.out, if_neg (by rw [HTE3.out]; decide)])
    generalize findV t.adds p = fv at *
    go_wp2_with fail
    first
      | go_region_held3 (fun w' => w'.cell? ⟨tb, 7, none⟩ = some (.slice a t.adds.length c) ∧ w'.cell? ⟨w.heap.size, 0, none⟩ = some (S p)) (exact ⟨a7, c0⟩) ((go_at_call 49; (with_reducible refine HFi.out.mono ?_); rintro e w2 ⟨rfl, hb2⟩; have hbw2 := hbwD.trans (hb2.mono hbwD.size); clear c0 c1 c2 c3 c4 c5 a7; have a7 := (H1D.out.below hb2).c7; obtain ⟨c0, c1, c2, c3, c4, c5⟩ := rowF6 (f := ⟨p, pt, n, lo, hi, 1⟩) (rowKept HGD.out hb2)))
      | fail
    all_goals
      have v7 := V7.out _ hbw2
      have hbw3 := hbw2
      go_wp2_with fail
      go_ret
      exact ⟨_, _, D, rfl, by rw [HTE3.out]; exact ⟨by decide, rfl⟩, by rw [HTT2.out]; exact (X.out _ hbw3).2.2.2, fun k hk => .inl hk, ButD.of hbw3⟩
  have HTE3 : Hid (addTE t ⟨p, pt, n, lo, hi, sq⟩ = 0) := Lib.hid (by rw [HTE2.out, if_neg hfd])
  have HTT2 : Hid (addT t ⟨p, pt, n, lo, hi, sq⟩ = { t with adds := t.adds ++ [⟨p, pt, n, lo, hi, 1⟩] }) := Lib.hid (by rw [HTT.out, if_pos HTE3.out])
  have gf : decide (0 ≤ findV t.adds p) = false := decide_eq_false hfd
  clear hfd
  generalize findV t.adds p = fv at *
  go_wp2_with fail
  first
    | go_region_held3 (fun w' => w'.cell? ⟨tb, 7, none⟩ = some (.slice a t.adds.length c) ∧ w'.cell? ⟨w.heap.size, 0, none⟩ = some (S p)) (exact ⟨a7, c0⟩) ((go_at_call 49; (with_reducible refine HFi.out.mono ?_); rintro e w2 ⟨rfl, hb2⟩; have hbw2 := hbwD.trans (hb2.mono hbwD.size); clear c0 c1 c2 c3 c4 c5 a7; have a7 := (H1D.out.below hb2).c7; obtain ⟨c0, c1, c2, c3, c4, c5⟩ := rowF6 (f := ⟨p, pt, n, lo, hi, 1⟩) (rowKept HGD.out hb2)))
    | fail
  all_goals
    have H2 := Lib.hid (X.out _ hbw2).2.2.2
    have hbA : Below w2.heap.size w2 (w2.drew.alloc (.cells #[S p, S pt, .int .i64 n, .int .i64 lo, .int .i64 hi, .int .i64 1] 37)) := (Below.refl w2.heap.size w2).drew.alloc (Nat.le_refl _) _
    have hbwA := hbw2.trans (hbA.mono hbw2.size)
    have HA := Lib.hid (X.out _ hbwA).2.2.2
    obtain ⟨v6, w6, happ, hown6, hg6, hn6⟩ := run_app (P := Tryz.prog) (w2.drew.alloc (.cells (encF ⟨p, pt, n, lo, hi, 1⟩).toArray 37)) B 22 22 37 6 64 elFl (.slice a t.adds.length c) t.adds.length _ HA.out.adds (.slice (some ⟨w2.drew.heap.size, 0, none⟩) 1 1) 1 (encF ⟨p, pt, n, lo, hi, 1⟩) (src_one rfl rfl (by simp [Value.oneCell'])) (by unfold maxLen; omega) (by omega) (Nat.le_of_lt (Nat.lt_of_le_of_lt (HA.out.low tb HA.out.dt).1 HA.out.lt))
    obtain ⟨a6, n6, c6, rfl⟩ : ∃ a n c, v6 = .slice a n c := by obtain ⟨a6, c6, e6, -, -⟩ := At.form' ((Own.snoc hown6 : Own encF _ 6 B w6 v6 _).at encF_enc); exact ⟨_, _, _, e6⟩
    have hlt6 : ∀ k, (Value.slice a6 n6 c6).ownBlock = some k → k < w6.heap.size := fun k hk => (World.ownsRow.lt hown6 k hk).2
    have hfin := h.added (w1 := w2.drew.alloc (.cells #[S p, S pt, .int .i64 n, .int .i64 lo, .int .i64 hi, .int .i64 1] 37)) (w2 := w6) (va' := .slice a6 n6 c6) (f := ⟨p, pt, n, lo, hi, 1⟩) hbwA hg6 hn6 hlt6 (Own.snoc hown6) 7 rfl
    have ht6 : w6.heap[tb]? = (w2.drew.alloc (.cells #[S p, S pt, .int .i64 n, .int .i64 lo, .int .i64 hi, .int .i64 1] 37)).heap[tb]? := hg6.block tb (by have := HA.out.lt; exact this) (fun e => (HA.out.da tb e.symm).2 rfl)
    have b6 := ht6.trans HA.out.blk
    have q7 : w6.cell? ⟨tb, 7, none⟩ = some (.slice a t.adds.length c) := by rw [cell_of_row w6 _ _ _ _ (0, 0) b6]; rfl
    have q7f : w6.frozen? ⟨tb, 7, none⟩ = false := frozen_row b6
    have a7A : (w2.alloc (.cells #[S p, S pt, .int .i64 n, .int .i64 lo, .int .i64 hi, .int .i64 1] 37)).drew.cell? ⟨tb, 7, none⟩ = some (.slice a t.adds.length c) := HA.out.c7
    have happ' : (shutApp #[22, 22] 22 #[.slice a t.adds.length c, .slice (some ⟨w2.heap.size, 0, none⟩) 1 1]).run Tryz.prog (w2.alloc (.cells #[S p, S pt, .int .i64 n, .int .i64 lo, .int .i64 hi, .int .i64 1] 37)).drew = .ok (.slice a6 n6 c6) w6 := happ
    have HFin := Lib.hid hfin
    clear hfin hlt6 hown6 hg6 hn6 happ ht6 b6 hbA
    go_wp2_with fail
    go_region
    go_wp2_with fail
    go_ret
    exact ⟨_, _, grewD D w.heap.size w6.heap.size, rfl, by rw [HTE3.out]; rfl, by rw [HTT2.out]; exact HFin.out.1, fun k hk => Or.imp id (fun h => h.1) hk, HFin.out.2⟩
/-- An append told by its equation. -/
theorem wpList_appRun {P : Program} {w : World} {ops : Array Oper} {rest : List Oper} {o : Oper} {a : Act} {Q : Exit → Act → World → Prop} (hgd : o.guard = none) (s x : Operand) (t : TypeId)
    (ho : o.op = .call { callee := .builtin .append, args := #[s, x], argTypes := #[t, t] }) (sv xv : Value) (hs : a.eval s = sv) (hx : a.eval x = xv) {v' : Value} {w' : World} (hr : (Builtin.append_ #[t, t] o.type #[sv, xv]).run P w = .ok v' w')
    (h : wpList P ops Q rest (a.put o.dst v') w') : wpList P ops Q (o :: rest) a w :=
  wpList_plain hgd fun _ hK => by
    unfold Oper.wp execOp
    simp only [ho, resolve, invoke, builtin, Sem.run_bind, Sem.run_pure, Result.andThen_ok, List.map_toArray, List.map_cons, List.map_nil, hs, hx, hr]
    exact hK _ _ h

set_option maxHeartbeats 2000000 in
set_option maxRecDepth 20000 in
theorem txRemove_any (E : Nat → Addr) (B0 B : Nat) (D K : Nat → Prop) (tb : Nat) (t : Tx) (vf va vr : Value) (p : Str) (w : World) (hE : Errs [6, 7] E B0 w) (h : TxAt 115 B w D K tb t vf va vr) (hn : t.removes.length ≤ 1000) :
    Calls Tryz.prog 17 #[.pointer (some ⟨tb, 0, none⟩), S p] w fun e w' => ∃ ev vr' D', e = .returned ev ∧ ErV E w' ev (erOf (remTE t p)) ∧ TxAt 115 B w' D' K tb (remT t p) vf va vr' ∧ (∀ k, D' k → D k ∨ w.heap.size ≤ k) ∧ ButD D w w' := by
  have hTE : remTE t p = if findV t.base.files p < 0 then 6 else if p ∈ t.removes then 7 else 0 := rfl
  have hTT : remT t p = if remTE t p = 0 then { t with removes := t.removes ++ [p] } else t := rfl
  have HTE := Lib.hid hTE; have HTT := Lib.hid hTT
  have hBw := hE.le
  have V0 := fun w6 (h6 : Below w.heap.size w w6) => (⟨(hE.below' h6 hBw).var 6 (by decide), (hE.below' h6 hBw).var 7 (by decide)⟩ : _ ∧ _)
  simp only [errG] at V0
  have V := Lib.hid V0
  clear V0 hE
  have HH := Lib.hid h
  have b6 := h.c6
  have b8 := h.c8
  obtain ⟨a, c, rfl, -, -⟩ := At.form' h.baseAt
  obtain ⟨a8, c8, rfl, -, -⟩ := At.form' h.remsAt
  have HFi := Lib.hid (listFind_any _ t.base.files p w h.baseAt)
  clear hTE hTT h
  go_enter Tryz.func17, Tryz.ntmps17
  by_cases hf : findV t.base.files p < 0
  case pos =>
    have HE2 : Hid (remTE t p = 6) := Lib.hid (by rw [HTE.out, if_pos hf])
    have HT2 : Hid (remT t p = t) := Lib.hid (by rw [HTT.out, if_neg (by rw [HE2.out]; decide)])
    generalize findV t.base.files p = fv at *
    go_wp2_with fail
    refine HFi.out.mono ?_
    rintro e w1 ⟨rfl, hb1⟩
    obtain ⟨v6, v7⟩ := V.out _ hb1
    go_wp2_with fail
    go_ret
    exact ⟨_, _, D, rfl, by rw [HE2.out]; exact ⟨by decide, rfl⟩, by rw [HT2.out]; exact HH.out.below hb1, fun k hk => .inl hk, ButD.of hb1⟩
  have HE1 : Hid (remTE t p = if p ∈ t.removes then 7 else 0) := Lib.hid (by rw [HTE.out, if_neg hf])
  have gf : decide (findV t.base.files p < 0) = false := decide_eq_false hf
  clear hf HTE
  generalize findV t.base.files p = fv at *
  go_wp2_with fail
  refine HFi.out.mono ?_
  rintro e w1 ⟨rfl, hb1⟩
  have H1 := Lib.hid (HH.out.below hb1)
  clear b6 b8
  have b8 := H1.out.c8
  have HCn := Lib.hid (containsS_any _ t.removes p w1 H1.out.remsAt (by omega))
  by_cases hin : p ∈ t.removes
  case pos =>
    have HE2 : Hid (remTE t p = 7) := Lib.hid (by rw [HE1.out, if_pos hin])
    have HT2 : Hid (remT t p = t) := Lib.hid (by rw [HTT.out, if_neg (by rw [HE2.out]; decide)])
    rw [decide_eq_true hin] at HCn
    clear hin
    go_wp2_with fail
    refine HCn.out.mono ?_
    rintro e wx ⟨rfl, rfl⟩
    obtain ⟨v6, v7⟩ := V.out _ hb1
    go_wp2_with fail
    go_ret
    exact ⟨_, _, D, rfl, by rw [HE2.out]; exact ⟨by decide, rfl⟩, by rw [HT2.out]; exact HH.out.below hb1, fun k hk => .inl hk, ButD.of hb1⟩
  have HE2 : Hid (remTE t p = 0) := Lib.hid (by rw [HE1.out, if_neg hin])
  have HT2 : Hid (remT t p = { t with removes := t.removes ++ [p] }) := Lib.hid (by rw [HTT.out, if_pos HE2.out])
  rw [decide_eq_false hin] at HCn
  clear hin
  go_wp2_with fail
  refine HCn.out.mono ?_
  rintro e wx ⟨rfl, rfl⟩
  have hba : Below w1.heap.size w1 (w1.alloc (.cells #[S p] 9)) := (Below.refl _ _).alloc (Nat.le_refl _) _
  have hbwa := hb1.trans (hba.mono hb1.size)
  have HA := Lib.hid (HH.out.below hbwa)
  clear b8
  have b8 := (HH.out.below hb1).c8
  have hB : B ≤ (w1.alloc (.cells #[S p] 9)).heap.size := Nat.le_of_lt (Nat.lt_of_le_of_lt (HA.out.low tb HA.out.dt).1 HA.out.lt)
  obtain ⟨v6, w6, happ, hown6, hg6, hn6⟩ := run_app (P := Tryz.prog) (w1.alloc (.cells (encS p).toArray 9)) B 35 35 9 1 16 elStr (.slice a8 t.removes.length c8) t.removes.length _ HA.out.rems (.slice (some ⟨w1.heap.size, 0, none⟩) 1 1) 1 (encS p) (src_one rfl rfl (by simp [Value.oneCell'])) (by unfold maxLen; omega) (by omega) hB
  obtain ⟨a6, n6, c6, rfl⟩ : ∃ a n c, v6 = .slice a n c := by obtain ⟨a6, c6, e6, -, -⟩ := At.form' ((Own.snoc hown6 : Own encS _ 1 B w6 v6 _).at encS_enc); exact ⟨_, _, _, e6⟩
  have hlt6 : ∀ k, (Value.slice a6 n6 c6).ownBlock = some k → k < w6.heap.size := fun k hk => (World.ownsRow.lt hown6 k hk).2
  have hfin := HH.out.removed (w1 := w1.alloc (.cells #[S p] 9)) (w2 := w6) (vr' := .slice a6 n6 c6) (p := p) hbwa hg6 hn6 hlt6 (Own.snoc hown6) 8 rfl
  have ht6 : w6.heap[tb]? = (w1.alloc (.cells #[S p] 9)).heap[tb]? := hg6.block tb (by have := HA.out.lt; exact this) (fun e => (HA.out.dr tb e.symm).2 rfl)
  have b6 := ht6.trans HA.out.blk
  have q8 : w6.cell? ⟨tb, 8, none⟩ = some (.slice a8 t.removes.length c8) := by rw [cell_of_row w6 _ _ _ _ (0, 0) b6]; rfl
  have q8f : w6.frozen? ⟨tb, 8, none⟩ = false := frozen_row b6
  have happ' : (Builtin.append_ #[35, 35] 35 #[.slice a8 t.removes.length c8, .slice (some ⟨w1.heap.size, 0, none⟩) 1 1]).run Tryz.prog (w1.alloc (.cells #[S p] 9)) = .ok (.slice a6 n6 c6) w6 := happ
  have HFin := Lib.hid hfin
  have HAp := Lib.hid happ'
  clear hfin hlt6 hown6 hg6 hn6 happ happ' ht6 b6 hba hB
  go_wp2_with (at_builtin; refine wpList_appRun rfl _ _ _ rfl _ _ rfl rfl HAp.out ?_)
  go_ret
  exact ⟨_, _, grewD D w.heap.size w6.heap.size, rfl, by rw [HE2.out]; rfl, by rw [HT2.out]; exact HFin.out.1, fun k hk => Or.imp id (fun h => h.1) hk, HFin.out.2⟩

set_option maxHeartbeats 2000000 in
set_option maxRecDepth 20000 in
theorem refTxRemove_any (B : Nat) (D K : Nat → Prop) (tb : Nat) (t : Tx) (vf va vr : Value) (p : Str) (w : World) (h : TxAt 54 B w D K tb t vf va vr) (hn : t.removes.length ≤ 1000) :
    Calls Tryz.prog 26 #[.pointer (some ⟨tb, 0, none⟩), S p] w fun e w' => ∃ vr' D', e = .returned (.int .i64 ((remTE t p : Nat) : Int)) ∧ TxAt 54 B w' D' K tb (remT t p) vf va vr' ∧ (∀ k, D' k → D k ∨ w.heap.size ≤ k) ∧ ButD D w w' := by
  have hTE : remTE t p = if findV t.base.files p < 0 then 6 else if p ∈ t.removes then 7 else 0 := rfl
  have hTT : remT t p = if remTE t p = 0 then { t with removes := t.removes ++ [p] } else t := rfl
  have HTE := Lib.hid hTE; have HTT := Lib.hid hTT
  have HH := Lib.hid h
  have b6 := h.c6
  have b8 := h.c8
  obtain ⟨a, c, rfl, -, -⟩ := At.form' h.baseAt
  obtain ⟨a8, c8, rfl, -, -⟩ := At.form' h.remsAt
  have HFi := Lib.hid (findOf_any _ t.base.files p w h.baseAt)
  clear hTE hTT h
  go_enter Tryz.func26, Tryz.ntmps26
  by_cases hf : findV t.base.files p < 0
  case pos =>
    have HE2 : Hid (remTE t p = 6) := Lib.hid (by rw [HTE.out, if_pos hf])
    have HT2 : Hid (remT t p = t) := Lib.hid (by rw [HTT.out, if_neg (by rw [HE2.out]; decide)])
    generalize findV t.base.files p = fv at *
    go_wp2_with fail
    refine HFi.out.mono ?_
    rintro e w1 ⟨rfl, rfl⟩
    have hb1 : Below w.heap.size w w := Below.refl _ _
    go_wp2_with fail
    go_ret
    exact ⟨_, D, by rw [HE2.out]; rfl, by rw [HT2.out]; exact HH.out.below hb1, fun k hk => .inl hk, ButD.of hb1⟩
  have HE1 : Hid (remTE t p = if p ∈ t.removes then 7 else 0) := Lib.hid (by rw [HTE.out, if_neg hf])
  have gf : decide (findV t.base.files p < 0) = false := decide_eq_false hf
  clear hf HTE
  generalize findV t.base.files p = fv at *
  go_wp2_with fail
  refine HFi.out.mono ?_
  rintro e w1 ⟨rfl, rfl⟩
  have hb1 : Below w.heap.size w w := Below.refl _ _
  have H1 := Lib.hid (HH.out.below hb1)
  clear b6 b8
  have b8 := H1.out.c8
  have HCn := Lib.hid (inTexts_any p _ t.removes w H1.out.remsAt)
  by_cases hin : p ∈ t.removes
  case pos =>
    have HE2 : Hid (remTE t p = 7) := Lib.hid (by rw [HE1.out, if_pos hin])
    have HT2 : Hid (remT t p = t) := Lib.hid (by rw [HTT.out, if_neg (by rw [HE2.out]; decide)])
    rw [decide_eq_true hin] at HCn
    clear hin
    go_wp2_with fail
    refine HCn.out.mono ?_
    rintro e w2 ⟨rfl, hb2⟩
    have hbw2 := hb1.trans (hb2.mono hb1.size)
    go_wp2_with fail
    go_ret
    exact ⟨_, D, by rw [HE2.out]; rfl, by rw [HT2.out]; exact HH.out.below hbw2, fun k hk => .inl hk, ButD.of hbw2⟩
  have HE2 : Hid (remTE t p = 0) := Lib.hid (by rw [HE1.out, if_neg hin])
  have HT2 : Hid (remT t p = { t with removes := t.removes ++ [p] }) := Lib.hid (by rw [HTT.out, if_pos HE2.out])
  rw [decide_eq_false hin] at HCn
  clear hin
  go_wp2_with fail
  refine HCn.out.mono ?_
  rintro e w2 ⟨rfl, hb2⟩
  have hbw2 := hb1.trans (hb2.mono hb1.size)
  have hba : Below w2.heap.size w2 (w2.alloc (.cells #[S p] 9)) := (Below.refl _ _).alloc (Nat.le_refl _) _
  have hbwa := hbw2.trans (hba.mono hbw2.size)
  have HA := Lib.hid (HH.out.below hbwa)
  clear b8
  have b8 := (HH.out.below hbw2).c8
  have hB : B ≤ (w2.alloc (.cells #[S p] 9)).heap.size := Nat.le_of_lt (Nat.lt_of_le_of_lt (HA.out.low tb HA.out.dt).1 HA.out.lt)
  obtain ⟨v6, w6, happ, hown6, hg6, hn6⟩ := run_app (P := Tryz.prog) (w2.alloc (.cells (encS p).toArray 9)) B 35 35 9 1 16 elStr (.slice a8 t.removes.length c8) t.removes.length _ HA.out.rems (.slice (some ⟨w2.heap.size, 0, none⟩) 1 1) 1 (encS p) (src_one rfl rfl (by simp [Value.oneCell'])) (by unfold maxLen; omega) (by omega) hB
  obtain ⟨a6, n6, c6, rfl⟩ : ∃ a n c, v6 = .slice a n c := by obtain ⟨a6, c6, e6, -, -⟩ := At.form' ((Own.snoc hown6 : Own encS _ 1 B w6 v6 _).at encS_enc); exact ⟨_, _, _, e6⟩
  have hlt6 : ∀ k, (Value.slice a6 n6 c6).ownBlock = some k → k < w6.heap.size := fun k hk => (World.ownsRow.lt hown6 k hk).2
  have hfin := HH.out.removed (w1 := w2.alloc (.cells #[S p] 9)) (w2 := w6) (vr' := .slice a6 n6 c6) (p := p) hbwa hg6 hn6 hlt6 (Own.snoc hown6) 8 rfl
  have ht6 : w6.heap[tb]? = (w2.alloc (.cells #[S p] 9)).heap[tb]? := hg6.block tb (by have := HA.out.lt; exact this) (fun e => (HA.out.dr tb e.symm).2 rfl)
  have b6 := ht6.trans HA.out.blk
  have q8 : w6.cell? ⟨tb, 8, none⟩ = some (.slice a8 t.removes.length c8) := by rw [cell_of_row w6 _ _ _ _ (0, 0) b6]; rfl
  have q8f : w6.frozen? ⟨tb, 8, none⟩ = false := frozen_row b6
  have happ' : (Builtin.append_ #[35, 35] 35 #[.slice a8 t.removes.length c8, .slice (some ⟨w2.heap.size, 0, none⟩) 1 1]).run Tryz.prog (w2.alloc (.cells #[S p] 9)) = .ok (.slice a6 n6 c6) w6 := happ
  have HFin := Lib.hid hfin
  have HAp := Lib.hid happ'
  clear hfin hlt6 hown6 hg6 hn6 happ happ' ht6 b6 hba hB
  go_wp2_with (at_builtin; refine wpList_appRun rfl _ _ _ rfl _ _ rfl rfl HAp.out ?_)
  go_ret
  exact ⟨_, grewD D w.heap.size w6.heap.size, by rw [HE2.out]; rfl, by rw [HT2.out]; exact HFin.out.1, fun k hk => Or.imp id (fun h => h.1) hk, HFin.out.2⟩
end Go.Proofs.YtmhchakjkgdpmaaGreatDoor
namespace Go.Proofs.YtmhchakjkgdpmaaGreatDoor
open Go.RowKit Go.Maps Go.Sort

/-- An object: its name, its text, its day. -/
structure Ob where
  name : Str
  text : Str
  day : Int
  deriving DecidableEq

abbrev bef (a b : Str) : Bool := bytesBefore a b

/-- What a map of objects reads as. -/
abbrev obT (t : Str) (d : Int) : DataW Unit := .agg [.lit (.string t), .lit (.int .i64 d)]
abbrev obD (o : Ob) : Lit × DataW Unit := (.string o.name, obT o.text o.day)
def mapD (l : List Ob) : DataW Unit := .map (l.map obD)

def getO (l : List Ob) (n : Str) : Option Ob := l.find? (fun o => o.name == n)
def putO (x : Ob) : List Ob → List Ob
  | [] => [x]
  | a :: r => if bef x.name a.name then x :: a :: r else a :: putO x r
def dropO (l : List Ob) (n : Str) : List Ob := l.filter (fun o => !(o.name == n))
def Rising (l : List Ob) : Prop := l.Pairwise (fun a b => bef a.name b.name = true)
def total (l : List Ob) : Nat := (l.map (·.text.length)).sum

theorem mapD_nil : mapD [] = .map [] := rfl
theorem has_mapD (l : List Ob) (n : Str) : has (mapD l) (.string n) = (getO l n).isSome := by
  unfold mapD getO
  rw [has_eq]
  induction l with
  | nil => rfl
  | cons a r ih =>
    rw [List.map_cons, List.any_cons, ih, List.find?_cons]
    cases h : a.name == n with
    | true => simp [Lit.sameKey, h]
    | false => simp [Lit.sameKey, h]
theorem atKey_map (es : List (Lit × DataW Unit)) (k : Lit) (z : DataW Unit) : (DataW.map es).atKey k z = ((es.find? (fun p => p.1.sameKey k)).map (·.2)).getD z := by
  unfold DataW.atKey
  simp only
  cases es.find? (fun p => p.1.sameKey k) <;> rfl
theorem at_mapD (l : List Ob) (n : Str) (z : DataW Unit) : (mapD l).atKey (.string n) z = ((getO l n).map fun o => obT o.text o.day).getD z := by
  unfold mapD
  rw [atKey_map]
  unfold getO
  congr 1
  induction l with
  | nil => rfl
  | cons a r ih =>
    rw [List.map_cons, List.find?_cons, List.find?_cons]
    have : (obD a).1.sameKey (.string n) = (a.name == n) := rfl
    rw [this]
    cases h : a.name == n with
    | true => rfl
    | false => exact ih
theorem size_mapD (l : List Ob) : size (mapD l) = l.length := by unfold mapD; rw [size_eq, List.length_map]
theorem keys_mapD (l : List Ob) : strKeys (mapD l) = l.map (·.name) := by
  unfold mapD strKeys
  simp [strOf]
theorem insert_mapD (x : Ob) : ∀ l : List Ob, DataW.insert (obD x) (l.map obD) = (putO x l).map obD
  | [] => rfl
  | a :: r => by
    rw [List.map_cons, DataW.insert, putO]
    have : (obD x).1.before (obD a).1 = bef x.name a.name := rfl
    rw [this]
    cases bef x.name a.name with
    | true => rfl
    | false => simp only [Bool.false_eq_true, if_false, List.map_cons]; rw [insert_mapD x r]
theorem getO_none {l : List Ob} {n : Str} : getO l n = none ↔ ∀ o ∈ l, o.name ≠ n := by
  unfold getO; rw [List.find?_eq_none]; simp
theorem put_mapD {l : List Ob} {x : Ob} (h : getO l x.name = none) : (mapD l).put (.string x.name) (obT x.text x.day) = mapD (putO x l) := by
  unfold mapD DataW.put
  have : (l.map obD).filter (fun p => !p.1.sameKey (.string x.name)) = l.map obD := by
    rw [List.filter_eq_self]
    intro p hp
    obtain ⟨o, ho, rfl⟩ := List.mem_map.1 hp
    have := getO_none.1 h o ho
    simpa [obD, Lit.sameKey] using this
  simp only [this]
  exact congrArg DataW.map (insert_mapD x l)
theorem del_mapD (l : List Ob) (n : Str) : (mapD l).del (.string n) = mapD (dropO l n) := by
  unfold mapD DataW.del dropO
  simp only
  rw [List.filter_map]
  rfl

theorem putO_perm (x : Ob) : ∀ l : List Ob, (putO x l).Perm (x :: l)
  | [] => .refl _
  | a :: r => by
    unfold putO
    split
    · exact .refl _
    · exact ((putO_perm x r).cons a).trans (.swap _ _ _)
theorem putO_length (x : Ob) (l : List Ob) : (putO x l).length = l.length + 1 := by rw [(putO_perm x l).length_eq]; rfl
theorem mem_putO {x o : Ob} {l : List Ob} : o ∈ putO x l ↔ o = x ∨ o ∈ l := by rw [(putO_perm x l).mem_iff, List.mem_cons]
theorem total_putO (x : Ob) (l : List Ob) : total (putO x l) = total l + x.text.length := by
  unfold total
  rw [((putO_perm x l).map _).sum_nat, List.map_cons, List.sum_cons]; omega
theorem bef_irr (a : Str) : bef a a = false := WideAt.bytes_irrefl a
theorem bef_tri {a b : Str} (h : a ≠ b) (h2 : bef a b = false) : bef b a = true := by
  rcases WideAt.bytes_total a b h with h' | h'
  · have h2 : bytesBefore a b = false := h2
    rw [h2] at h'; cases h'
  · exact h'
theorem bef_trans {a b c : Str} (h : bef a b = true) (h2 : bef b c = true) : bef a c = true := WideShapes.bytes_trans a b c h h2
theorem putO_rising {x : Ob} : ∀ {l : List Ob}, Rising l → getO l x.name = none → Rising (putO x l)
  | [], _, _ => by simp [putO, Rising]
  | a :: r, h, hn => by
    have hn' := getO_none.1 hn
    have hr : Rising r := (List.pairwise_cons.1 h).2
    have ha := (List.pairwise_cons.1 h).1
    unfold putO
    split
    · rename_i hb
      exact List.pairwise_cons.2 ⟨fun o ho => by
        rcases List.mem_cons.1 ho with rfl | ho
        · exact hb
        · exact bef_trans hb (ha o ho), h⟩
    · rename_i hb
      refine List.pairwise_cons.2 ⟨fun o ho => ?_, putO_rising hr (getO_none.2 fun o ho => hn' o (List.mem_cons_of_mem _ ho))⟩
      rcases mem_putO.1 ho with rfl | ho
      · exact bef_tri (fun e => hn' a (List.mem_cons_self ..) e.symm) (by simpa using hb)
      · exact ha o ho
theorem dropO_rising {l : List Ob} (h : Rising l) (n : Str) : Rising (dropO l n) := h.filter _
theorem getO_mem {l : List Ob} {n : Str} {o : Ob} (h : getO l n = some o) : o ∈ l ∧ o.name = n := by
  unfold getO at h
  exact ⟨List.mem_of_find?_eq_some h, by simpa using List.find?_some h⟩
theorem Rising.apart {l : List Ob} (h : Rising l) : l.Pairwise (fun a b => a.name ≠ b.name) := h.imp fun {a b} hb e => by rw [e, bef_irr] at hb; cases hb
theorem getO_of_mem {l : List Ob} (h : Rising l) {o : Ob} (ho : o ∈ l) : getO l o.name = some o := by
  induction l with
  | nil => cases ho
  | cons a r ih =>
    have ha := (List.pairwise_cons.1 h.apart).1
    unfold getO
    rw [List.find?_cons]
    rcases List.mem_cons.1 ho with rfl | ho
    · simp
    · have : (a.name == o.name) = false := beq_eq_false_iff_ne.2 (ha o ho)
      rw [this]
      exact ih (List.pairwise_cons.1 h).2 ho
theorem getO_put_same {l : List Ob} (h : Rising l) {x : Ob} (hn : getO l x.name = none) : getO (putO x l) x.name = some x := getO_of_mem (putO_rising h hn) (mem_putO.2 (.inl rfl))
theorem getO_put_other {l : List Ob} (h : Rising l) {x : Ob} (hn : getO l x.name = none) {n : Str} (hne : n ≠ x.name) : getO (putO x l) n = getO l n := by
  cases hg : getO l n with
  | none =>
    refine getO_none.2 fun o ho => ?_
    rcases mem_putO.1 ho with rfl | ho
    · exact hne.symm
    · exact getO_none.1 hg o ho
  | some o =>
    obtain ⟨ho, rfl⟩ := getO_mem hg
    exact getO_of_mem (putO_rising h hn) (mem_putO.2 (.inr ho))
theorem getO_drop_same (l : List Ob) (n : Str) : getO (dropO l n) n = none := getO_none.2 fun o ho => by
  have := (List.mem_filter.1 ho).2; simpa using this
theorem getO_drop_other {l : List Ob} (h : Rising l) {n m : Str} (hne : m ≠ n) : getO (dropO l n) m = getO l m := by
  cases hg : getO l m with
  | none => exact getO_none.2 fun o ho => getO_none.1 hg o (List.mem_filter.1 ho).1
  | some o =>
    obtain ⟨ho, rfl⟩ := getO_mem hg
    exact getO_of_mem (dropO_rising h n) (List.mem_filter.2 ⟨ho, by simpa using hne⟩)
end Go.Proofs.YtmhchakjkgdpmaaGreatDoor
