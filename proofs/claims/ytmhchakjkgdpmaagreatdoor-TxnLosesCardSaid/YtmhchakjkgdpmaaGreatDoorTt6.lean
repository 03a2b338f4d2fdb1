/- list.Check. A row of elements of any size that the call owns: copied into, an element written, appended to within its capacity. Of no program. A struct of six cells written cell by cell; a result that lies in a block. Of no program. file.Read: the walk. strings.Builder: WriteString and String, laid at this program by hand (the tool passes over copyCheck, whose body here names no text). file.Text; list.Text. The document's answer on files: FileError, FileText, IsBehind, FindOf, ListFault, ListText: the walks. The document's answer on files: FileText: the walk. slices.Clone, Delete at []api.File. slices.BinarySearchFunc at []api.File; list.Find, Add, Remove. -/
import Derived.Test.YtmhchakjkgdpmaaGreatDoorTt4
import Derived.Test.YtmhchakjkgdpmaaGreatDoorTt5
import Derived.Deep.RegionHeld3
import Derived.Laws.CopyRow
import Derived.Laws.CopyOwn
import Derived.Lib.AppendZeros
import Derived.Lib.Overlaps
import Derived.Laws.ResultCell
import Derived.Laws.Rows
import Derived.Test.YtmhchakjkgdpmaaGreatDoorTt3
import Derived.Test.YtmhchakjkgdpmaaGreatDoorTt1
import Derived.Test.YtmhchakjkgdpmaaGreatDoorTt2
import Derived.Shelf.Strings.Builder1
import Derived.Deep.RegionLaw
import Derived.Deep.LoopGhost
namespace Go.Proofs.YtmhchakjkgdpmaaGreatDoor
open Go.RowKit

set_option maxHeartbeats 1000000 in
set_option maxRecDepth 20000 in
theorem listCheck_any (E : Nat → Addr) (B : Nat) (v : Value) (l : List Fl) (w : World) (hE : Errs [2, 4, 5, 8, 9] E B w) (hT : LNum B w) (hM : LMax B w) (hl : FilesAt w v l) (hs : ∀ f ∈ l, midF f) :
    Calls Tryz.prog 72 #[v] w fun e w' => ∃ ev, e = .returned ev ∧ ErV E w' ev (listCheck l) ∧ Below w.heap.size w w' := by
  obtain ⟨a, c, b, o, rfl, ha, hc, hcm, hx⟩ := hl
  unfold maxLen at hcm
  have hif := isIfaceE
  have hBw := hE.le
  by_cases h60 : 60 < l.length
  · have g : (60 : Int) < (l.length : Int) := by omega
    have v8 := hE.var 8 (by decide)
    simp only [errG] at v8
    have HF : Hid (listCheck l = .bare 8) := Lib.hid (if_pos h60)
    go_enter Tryz.func72, Tryz.ntmps72
    go_wp2_with fail
    go_ret
    exact ⟨_, rfl, by rw [HF.out]; exact ⟨by decide, rfl⟩, Below.refl _ _⟩
  have g60 : (l.length : Int) ≤ 60 := by omega
  have HF : Hid (listCheck l = firstErr (fileFault l) l.length) := Lib.hid (if_neg h60)
  clear h60
  have V0 := fun w6 (h : Below w.heap.size w w6) => (hE.below' h hBw).var 9 (by decide)
  simp only [errG] at V0
  have V := Lib.hid V0
  clear V0
  have Hs := Lib.hid hs
  clear hs
  go_enter Tryz.func72, Tryz.ntmps72
  go_wp2_with fail
  go_loopw [12] (fun i wr => ∃ k : Nat, k ≤ l.length ∧ i = .int .i64 k ∧ Hid (∀ j < k, fileFault l j = 0) ∧ Below w.heap.size w wr) (fun i _ => l.length - (intOf i).toNat)
  case atStart => exact ⟨0, by omega, rfl, Lib.hid fun j hj => absurd hj (by omega), Below.refl _ _⟩
  case round =>
    obtain ⟨k, hk, rfl, hj, hb⟩ := hrel
    by_cases hlt : k < l.length
    case neg =>
      obtain rfl : k = l.length := by omega
      have f : decide ((l.length : Int) < (l.length : Int)) = false := by simp
      go_wp2_with fail
      go_ret
      exact ⟨_, rfl, by rw [HF.out, firstErr_all hj.out]; rfl, hb⟩
    obtain ⟨x, hxk⟩ := get_ex hlt
    obtain ⟨c0, c1, c2, c3, c4, c5⟩ := flCells hx hb hxk
    have i1 := idx_at (c := c) 6 Tryz.underlying22 szFl ha k hlt
    have hk1 : (k : Int) < (l.length : Int) := by omega
    have hsx := Hs.out x (List.mem_of_getElem? hxk)
    have Hx := Lib.hid hxk; clear hxk
    have hb0 : Below w.heap.size w (wr.alloc (.cells #[S x.path, S x.part, .int .i64 x.n, .int .i64 x.lo, .int .i64 x.hi, .int .i64 x.seq] 37)) := hb.alloc hb.size _
    have Cs := Lib.hid (fun w6 (h : Below (wr.alloc (.cells #[S x.path, S x.part, .int .i64 x.n, .int .i64 x.lo, .int .i64 x.hi, .int .i64 x.seq] 37)).heap.size (wr.alloc (.cells #[S x.path, S x.part, .int .i64 x.n, .int .i64 x.lo, .int .i64 x.hi, .int .i64 x.seq] 37)) w6) => (fileCells rfl h).1)
    go_wp2_with fail
    generalize wr.alloc (.cells #[S x.path, S x.part, .int .i64 x.n, .int .i64 x.lo, .int .i64 x.hi, .int .i64 x.seq] 37) = w1 at *
    refine (fileCheck_any E B x _ ((hE.sub (by decide)).below' hb0 hBw) (hT.below' hb0 hBw) (hM.below' hb0 hBw) hsx).mono ?_
    rintro e w2 ⟨ev, rfl, hev, hb2⟩
    have p0 := Cs.out w2 hb2
    have hb2' := hb0.trans (hb2.mono hb0.size)
    clear c0 c1 c2 c3 c4 c5 i1 Cs
    by_cases hck : checkF x = 0
    case neg =>
      have hf : fileFault l k = checkF x := by unfold fileFault; rw [Hx.out]; simp only; rw [if_pos hck]
      have hfe : fileEr x = .bare (checkF x) := fileEr_bad rfl hck
      rw [hfe] at hev
      obtain ⟨hcr, rfl⟩ := hev
      have HK := Lib.hid hck
      have Hf := Lib.hid hf
      have HL : Hid (listCheck l = .loc (checkF x) k) := Lib.hid (HF.out.trans ((firstErr_hit hlt hj.out (by rw [hf]; exact hck)).trans (by rw [hf])))
      clear hf hfe hck
      generalize checkF x = cx at *
      go_wp2_with fail
      go_quiet (fail)
      go_wp2_with fail
      go_ret
      exact ⟨_, rfl, by rw [HL.out]; exact ErV.fresh hcr _ _ _ _ rfl, (Bdn hb2' _).alloc hb2'.size _⟩
    have hfe := fileEr_nil hck
    rw [hfe] at hev
    obtain rfl : ev = .nilIface := hev
    have HK := Lib.hid hck
    clear hck hfe
    by_cases h0 : k = 0
    · have hf : fileFault l k = 0 := by unfold fileFault; rw [Hx.out]; simp only; rw [if_neg (by simp [HK.out]), if_neg (by simp [h0])]
      have gk : decide (0 < k) = false := by simp [h0]
      have Hf := Lib.hid hf
      have H0 := Lib.hid h0
      clear hf h0
      go_wp2_with fail
      go_quiet (fail)
      go_wp2_with fail
      go_roundw
      case rel => exact ⟨k + 1, by omega, by go_num, (Lib.hid fun j hj' => by
        obtain rfl : j = k := by have := H0.out; omega
        exact Hf.out), Bdn hb2' _⟩
      case measure => simp [intOf]; omega
    obtain ⟨y, hyk⟩ := get_ex (l := l) (k := k - 1) (by omega)
    have hsy := Hs.out y (List.mem_of_getElem? hyk)
    obtain ⟨d0, -⟩ := flCells hx hb2' hyk
    have i2 := idx_at (c := c) 6 Tryz.underlying22 szFl ha (k - 1) (by omega)
    have hcast : ((k - 1 : Nat) : Int) = (k : Int) - 1 := by omega
    simp only [hcast] at i2
    have hk0 : 0 < k := by omega
    have gk : decide (0 < k) = true := decide_eq_true hk0
    have hk01 : (1 : Int) ≤ k := by omega
    have hk02 : (0 : Int) ≤ (k : Int) - 1 := by omega
    have hk03 : (k : Int) - 1 < l.length := by omega
    have Hy := Lib.hid hyk
    clear hyk hcast h0
    have hb2d := hb2'.drew
    have hwk : IntKind.i64.wrap ((k : Int) - 1) = (k : Int) - 1 := by rw [IntKind.wrap_i64]; omega
    have hC := listCompare_any E B x.path y.path w2.drew ((hE.sub (by decide)).below' hb2d hBw) (hT.below' hb2d hBw) (hM.below' hb2d hBw) (by have := hsx.1; omega) (by have := hsy.1; omega)
    obtain ⟨cv, hcv⟩ : ∃ cv, cmpP x.path y.path = cv := ⟨_, rfl⟩
    rw [hcv] at hC
    have HC := Lib.hid hC
    clear hC
    by_cases hle : cv ≤ 0
    · have hf : fileFault l k = 9 := by
        unfold fileFault; rw [Hx.out]; simp only
        rw [if_neg (by simp [HK.out]), if_pos ⟨hk0, y, Hy.out, by rw [hcv]; exact hle⟩]
      have HL : Hid (listCheck l = .loc 9 k) := Lib.hid (HF.out.trans ((firstErr_hit hlt hj.out (by rw [hf]; decide)).trans (by rw [hf])))
      clear hf hcv
      go_wp2_with fail
      go_region_held3 (fun w' => w'.cell? ⟨wr.heap.size, 0, none⟩ = some (S x.path) ∧ w'.cell? ⟨b, o + (k - 1) * 6, none⟩ = some (S y.path)) (exact ⟨p0, d0⟩) (first | (go_at_call 134; refine HC.out.mono ?_; rintro e w3 ⟨rfl, hb3⟩; have hb3' := hb2d.trans (hb3.mono hb2d.size); have q0 := (hb3.cell (World.block_lt_of_cell? w2 _ p0)).trans p0; have e0 := (hb3.cell (World.block_lt_of_cell? w2 _ d0)).trans d0; clear p0 d0; have p0 := q0; have d0 := e0; have v9 := V.out _ hb3'))
      go_wp2_with fail
      go_ret
      exact ⟨_, rfl, by rw [HL.out]; exact ErV.fresh (by decide) _ _ _ _ rfl, hb3'.alloc hb3'.size _⟩
    · have hf : fileFault l k = 0 := by
        unfold fileFault; rw [Hx.out]; simp only
        rw [if_neg (by simp [HK.out]), if_neg]
        rintro ⟨_, g, hg, hle'⟩
        rw [Hy.out] at hg
        obtain rfl := Option.some.inj hg
        rw [hcv] at hle'
        exact hle hle'
      have Hf := Lib.hid hf
      have hgt : 0 < cv := by omega
      clear hf hcv hle
      go_wp2_with fail
      go_region_held3 (fun w' => w'.cell? ⟨wr.heap.size, 0, none⟩ = some (S x.path) ∧ w'.cell? ⟨b, o + (k - 1) * 6, none⟩ = some (S y.path)) (exact ⟨p0, d0⟩) (first | (go_at_call 134; refine HC.out.mono ?_; rintro e w3 ⟨rfl, hb3⟩; have hb3' := hb2d.trans (hb3.mono hb2d.size); have q0 := (hb3.cell (World.block_lt_of_cell? w2 _ p0)).trans p0; have e0 := (hb3.cell (World.block_lt_of_cell? w2 _ d0)).trans d0; clear p0 d0; have p0 := q0; have d0 := e0))
      go_wp2_with fail
      go_roundw
      case rel => exact ⟨k + 1, by omega, by go_num, (Lib.hid fun j hj' => by
        rcases Nat.lt_or_ge j k with h | h
        · exact hj.out j h
        · obtain rfl : j = k := by omega
          exact Hf.out), hb3'⟩
      case measure => simp [intOf]; omega
end Go.Proofs.YtmhchakjkgdpmaaGreatDoor
namespace Go.Proofs.YtmhchakjkgdpmaaGreatDoor
open Go.RowKit

/-- The walk stops here. -/
theorem wpList_stop {P : Program} {w : World} {ops : Array Oper} {l : List Oper} {a : Act} {Q : Exit → Act → World → Prop} (h : wpList P ops Q l a w ∧ True) : wpList P ops Q l a w := h.1
theorem grown_setRow (w : World) (g : Nat) (cs : Array Value) : w.grownBy (w.setRow g cs) (some g) := ⟨rfl, rfl, rfl, by simp [World.setRow], fun k _ hk => setRow_other w g k cs (fun e => hk (by rw [e]))⟩
theorem run_copyN {P : Program} {dT sT e ty : TypeId} {sz bytes : Nat} (hE : ElemInfo P dT e sz bytes) {g off dLen dCap sLen sCap n : Nat} {ad : Addr} {cur : Array Value} (w : World) (hg : w.heap[g]? = some (.cells cur e (0, 0)))
    (cs : List Value) (hn : n = Nat.min sLen dLen) (hcs : cs.length = n * sz) (hsrc : ∀ j v, cs[j]? = some v → w.cell? (ad.add j) = some v) (hfit : off + cs.length ≤ cur.size) (h1 : ∀ v ∈ cs, v.oneCell' = true) :
    (Builtin.copy_ #[dT, sT] ty #[.slice (some ⟨g, off, none⟩) dLen dCap, .slice (some ad) sLen sCap]).run P w = .ok (goInt n) (w.setRow g (splice cur.toList off cs).toArray) := by
  obtain ⟨i, z, ht, hi, hz, hsize, hby, hzs, hsz⟩ := hE
  subst hn
  have h2 := run_firstCells_some (P := P) w sz (Nat.min sLen dLen) ad sLen sCap cs hcs hsrc
  have h3 := run_storeCells_at P g off e cs 0 cur w hg (by simpa using hfit) h1
  simp only [Nat.add_zero] at h3
  simp [Builtin.copy_, run_underlying ht, Go.sizeOf, typeInfo, hi, hsize, Builtin.lenOf, h2, h3, splice]

/-- The same, the world behind it a letter. -/
theorem run_copyN_ex {P : Program} {dT e : TypeId} {sz bytes : Nat} (sT : TypeId) (hE : ElemInfo P dT e sz bytes) (g off dLen dCap sLen sCap n : Nat) (ad : Addr) (cur : Array Value) (w : World) (hg : w.heap[g]? = some (.cells cur e (0, 0)))
    (cs : List Value) (hn : n = Nat.min sLen dLen) (hcs : cs.length = n * sz) (hsrc : ∀ j v, cs[j]? = some v → w.cell? (ad.add j) = some v) (hfit : off + cs.length ≤ cur.size) (h1 : ∀ v ∈ cs, v.oneCell' = true) :
    ∃ w', (∀ ty, (Builtin.copy_ #[dT, sT] ty #[.slice (some ⟨g, off, none⟩) dLen dCap, .slice (some ad) sLen sCap]).run P w = .ok (goInt n) w') ∧ Hid (w'.heap[g]? = some (.cells (splice cur.toList off cs).toArray e (0, 0))) ∧ w.grownBy w' (some g) :=
  ⟨_, fun ty => run_copyN (ty := ty) hE w hg cs hn hcs hsrc hfit h1, Lib.hid (setRow_heap w g cur _ e _ hg), grown_setRow w g _⟩
theorem wpList_copyN {P : Program} {w : World} {ops : Array Oper} {rest : List Oper} {o : Oper} {a : Act} {Q : Exit → Act → World → Prop} (hgd : o.guard = none) (d s : Operand) (dT sT : TypeId)
    (ho : o.op = .call { callee := .builtin .copy, args := #[d, s], argTypes := #[dT, sT] }) {e : TypeId} {sz bytes : Nat} (hE : ElemInfo P dT e sz bytes)
    (g off dLen dCap sLen sCap n : Nat) (ad : Addr) (hd : a.eval d = .slice (some ⟨g, off, none⟩) dLen dCap) (hs : a.eval s = .slice (some ad) sLen sCap) (cur : Array Value) (hg : w.heap[g]? = some (.cells cur e (0, 0)))
    (cs : List Value) (hn : n = Nat.min sLen dLen) (hcs : cs.length = n * sz) (hsrc : ∀ j v, cs[j]? = some v → w.cell? (ad.add j) = some v) (hfit : off + cs.length ≤ cur.size) (h1 : ∀ v ∈ cs, v.oneCell' = true)
    (h : ∀ w', Hid (w'.heap[g]? = some (.cells (splice cur.toList off cs).toArray e (0, 0))) → w.grownBy w' (some g) → wpList P ops Q rest (a.put o.dst (goInt n)) w') : wpList P ops Q (o :: rest) a w :=
  wpList_plain hgd fun _ hK => by
    have h := h _ (Lib.hid (setRow_heap w g cur (splice cur.toList off cs).toArray e _ hg)) (grown_setRow w g _)
    have hr := fun ty => run_copyN (P := P) (sT := sT) (ty := ty) (sCap := sCap) (dCap := dCap) hE w hg cs hn hcs hsrc hfit h1
    unfold Oper.wp
    simp [execOp, ho, resolve, invoke, builtin, hd, hs, hr, Result.andThen]
    exact hK _ _ h

section
variable {α : Type} {enc : α → List Value} {e : TypeId} {sz B : Nat} {w : World} {v : Value} {l : List α}

/-- The cells of the elements from k on. -/
theorem Own.from {g n cap : Nat} (hen : Enc enc sz) (h : Own enc e sz B w (.slice (some ⟨g, 0, none⟩) n cap) l) (k : Nat) : ∀ j u, ((l.drop k).flatMap enc)[j]? = some u → w.cell? ⟨g, k * sz + j, none⟩ = some u := by
  intro j u hu
  have hne : l.drop k ≠ [] := fun e => by rw [e] at hu; simp at hu
  have hpos : 0 < l.length := by
    rcases Nat.eq_zero_or_pos l.length with h0 | h0
    · rw [List.eq_nil_of_length_eq_zero h0] at hne; simp at hne
    · exact h0
  obtain ⟨g', cap', cur, hv, hB, hg, hc, hm, hs, ht⟩ := h.open hpos
  cases hv
  have hkl : k ≤ l.length := by
    rcases Nat.lt_or_ge l.length k with h0 | h0
    · rw [List.drop_eq_nil_of_le (by omega)] at hne; exact absurd rfl hne
    · exact h0
  have hsplit : l.flatMap enc = (l.take k).flatMap enc ++ (l.drop k).flatMap enc := by rw [← List.flatMap_append, List.take_append_drop]
  have hl : ((l.take k).flatMap enc).length = k * sz := by rw [flat_length hen, List.length_take, Nat.min_eq_left hkl]
  have h1 : (l.flatMap enc)[k * sz + j]? = some u := by
    rw [hsplit, List.getElem?_append_right (by omega), hl, show k * sz + j - k * sz = j by omega]; exact hu
  rw [← ht, List.getElem?_take] at h1
  split at h1
  · rw [cell_of_row w g _ cur e (0, 0) hg]; simpa using h1
  · cases h1

/-- A row set anew. -/
theorem Own.anew {g n cap m : Nat} {cs : Array Value} {l' : List α} (hen : Enc enc sz) (h : Own enc e sz B w (.slice (some ⟨g, 0, none⟩) n cap) l) (hpos : 0 < l.length) (hm' : l'.length = m) (hc : m ≤ cap) (hsz : cs.size = cap * sz) (ht : cs.toList.take (m * sz) = l'.flatMap enc) :
    Own enc e sz B (w.setRow g cs) (.slice (some ⟨g, 0, none⟩) m cap) l' := by
  obtain ⟨g', cap', cur, hv, hB, hg, hc', hm, hs, ht'⟩ := h.open hpos
  cases hv
  exact Own.mk hen hm' hB (setRow_heap w g cur cs e _ hg) hc hm hsz ht
end
theorem Own.row {α : Type} {enc : α → List Value} {e : TypeId} {sz B : Nat} {w : World} {l : List α} {g n cap : Nat} (h : Own enc e sz B w (.slice (some ⟨g, 0, none⟩) n cap) l) : ∃ cur : Array Value, B ≤ g ∧ w.heap[g]? = some (.cells cur e (0, 0)) ∧ l.length = n ∧ n ≤ cap ∧ cap ≤ maxLen ∧ cur.size = cap * sz ∧ cur.toList.take (n * sz) = l.flatMap enc := by
  obtain ⟨_, h2⟩ := h
  rcases h2 with ⟨hv, _⟩ | ⟨g', cap', cur, hv, hB, hg, hc, hm, hs, ht⟩
  · cases hv
  · cases hv
    exact ⟨cur, hB, hg, rfl, hc, hm, hs, ht⟩
theorem Own.put {α : Type} {enc : α → List Value} {e : TypeId} {sz B : Nat} {w : World} {l : List α} {g n cap : Nat} {cur : Array Value} (hen : Enc enc sz) (hn : l.length = n) (hB : B ≤ g) (hg : w.heap[g]? = some (.cells cur e (0, 0))) (hc : n ≤ cap) (hm : cap ≤ maxLen) (hs : cur.size = cap * sz) (ht : cur.toList.take (n * sz) = l.flatMap enc) : Own enc e sz B w (.slice (some ⟨g, 0, none⟩) n cap) l := Own.mk hen hn hB hg hc hm hs ht
/-- s[:k] of such a slice. -/
theorem Own.cut' {α : Type} {enc : α → List Value} {e : TypeId} {sz B : Nat} {w : World} {l : List α} {g n cap k : Nat} (hen : Enc enc sz) (h : Own enc e sz B w (.slice (some ⟨g, 0, none⟩) n cap) l) (hk : k ≤ n) : Own enc e sz B w (.slice (some ⟨g, 0, none⟩) k cap) (l.take k) := by
  obtain ⟨cur, hB, hg, hl, hc, hm, hs, ht⟩ := h.row
  refine Own.put hen (by rw [List.length_take]; omega) hB hg (by omega) hm hs ?_
  have : l.flatMap enc = (l.take k).flatMap enc ++ (l.drop k).flatMap enc := by rw [← List.flatMap_append, List.take_append_drop]
  have hl' : ((l.take k).flatMap enc).length = k * sz := by rw [flat_length hen, List.length_take, Nat.min_eq_left (by omega)]
  have h1 : (cur.toList.take (n * sz)).take (k * sz) = cur.toList.take (k * sz) := by
    rw [List.take_take, Nat.min_eq_left (Nat.mul_le_mul_right _ hk)]
  rw [← h1, ht, this, ← hl', List.take_left]

/-- clear(s[n:n+m]) behind such a slice, within its capacity. -/
theorem run_clear_behind {α : Type} {P : Program} {enc : α → List Value} {t e : TypeId} {sz bytes B : Nat} {w : World} {g n cap m : Nat} {l : List α} (hE : ElemInfo P t e sz bytes) (hen : Enc enc sz) (hz1 : ∀ z, (P.info? e).bind (·.zero) = some z → ∀ u ∈ z.cells.toList, u.oneCell' = true)
    (h : Own enc e sz B w (.slice (some ⟨g, 0, none⟩) n cap) l) (hm : n + m ≤ cap) (hm0 : 0 < m) (c : Nat) :
    ∃ cs : Array Value, (∀ ty, (Builtin.clear_ #[t] ty #[.slice (some ⟨g, n * sz, none⟩) m c]).run P w = .ok (.tuple #[]) (w.setRow g cs)) ∧ Own enc e sz B (w.setRow g cs) (.slice (some ⟨g, 0, none⟩) n cap) l := by
  obtain ⟨i, z, ht, hi, hz, hsize, hby, hzs, hsz⟩ := hE
  obtain ⟨cur, hB, hg, hl, hc, hmx, hs, ht'⟩ := h.row
  have hnz : (Builtin.zeroCells z.cells m).size = m * sz := by rw [size_zeroCells, hzs]
  have hone : ∀ u ∈ (Builtin.zeroCells z.cells m).toList, u.oneCell' = true := by
    intro u hu
    have hz' := hz1 z (by rw [hi]; exact hz)
    obtain ⟨j, hj, rfl⟩ := Array.getElem_of_mem (Array.mem_def.2 hu)
    simp only [Builtin.zeroCells, Array.getElem_map, Array.getElem_range]
    rw [getElem!_pos z.cells (j % z.cells.size) (Nat.mod_lt _ (by omega))]
    exact hz' _ (by simp)
  have hle : n * sz + m * sz ≤ cap * sz := by rw [← Nat.add_mul]; exact Nat.mul_le_mul_right _ hm
  have hrun := run_storeCells_at P g (n * sz) e (Builtin.zeroCells z.cells m).toList 0 cur w hg (by rw [Array.length_toList, hnz]; omega) hone
  simp only [Nat.add_zero] at hrun
  refine ⟨_, fun ty => ?_, Own.put (cur := (cur.toList.take (n * sz) ++ (Builtin.zeroCells z.cells m).toList ++ cur.toList.drop (n * sz + (Builtin.zeroCells z.cells m).toList.length)).toArray) hen hl hB (setRow_heap w g cur _ e _ hg) hc hmx ?_ ?_⟩
  · obtain ⟨d, rfl⟩ : ∃ d, m = d + 1 := ⟨m - 1, by omega⟩
    simp [Builtin.clear_, run_underlying ht, zeroValue, typeInfo, hi, hz, hrun]
  · simp [hnz, Array.length_toList]; omega
  · simp only [List.append_assoc]
    rw [List.take_append_of_le_length (by simp; omega), List.take_take, Nat.min_self, ht']

/-- append(s[:k], ..) within the capacity, as one step of a region that draws. -/
theorem step_fits {P : Program} {ops : Array Oper} {o : Oper} {a : Act} {w : World} {K : Act → World → Prop} {Q : Exit → Act → World → Prop} {E : Prop} (hgd : o.guard = none) (s x : Operand) (t : TypeId)
    (ho : o.op = Op.call { callee := Callee.builtin Builtin.append, args := #[s, x], argTypes := #[t, t] }) {e : TypeId} {sz bytes : Nat} (hE : ElemInfo P t e sz bytes) (base g k cap : Nat) (xs : List Value)
    (hs : a.eval s = .slice (some ⟨g, 0, none⟩) k cap) (hown : w.ownsRow base e sz (.slice (some ⟨g, 0, none⟩) k cap) k xs) (ad : Addr) (m c r : Nat) (news : List Value) (hx : a.eval x = .slice (some ad) m c) (hl : news.length = m * sz) (hnews : ∀ j u, news[j]? = some u → w.cell? (ad.add j) = some u) (h1 : ∀ u ∈ news, u.oneCell' = true) (hroom : k + m ≤ cap) (hr : k + m = r)
    (hK : ∀ w', w'.ownsRow base e sz (.slice (some ⟨g, 0, none⟩) r cap) r (xs ++ news) → w.grownBy w' (some g) → K (a.put o.dst (.slice (some ⟨g, 0, none⟩) r cap)) w') :
    if Region.wanted o (yielded ops a.tmps) = true then Oper.wp P o a w K Q else E := by
  have hw : Region.wanted o (yielded ops a.tmps) = true := by simp [Region.wanted, hgd]
  rw [if_pos hw]
  obtain ⟨i, z, ht, hi, hz, hsize, hby, hzs, hsz⟩ := hE
  subst hr
  obtain ⟨w', hrun, r1, r2⟩ := run_append_fits (P := P) w base t o.type e i sz ht hi hsize g k cap xs hown ad m c news hl hnews h1 hroom
  unfold Oper.wp
  simp [execOp, ho, resolve, invoke, builtin, hs, hx, hrun, Result.andThen]
  exact hK w' r1 r2

/-- copy into a row that the call owns, as one step of a region that draws. -/
theorem step_copyN {P : Program} {ops : Array Oper} {o : Oper} {a : Act} {w : World} {K : Act → World → Prop} {Q : Exit → Act → World → Prop} {E : Prop} (hgd : o.guard = none) (d s : Operand) (dT sT : TypeId)
    (ho : o.op = .call { callee := .builtin .copy, args := #[d, s], argTypes := #[dT, sT] }) {e : TypeId} {sz bytes : Nat} (hE : ElemInfo P dT e sz bytes)
    (g off dLen dCap sLen sCap n : Nat) (ad : Addr) (hd : a.eval d = .slice (some ⟨g, off, none⟩) dLen dCap) (hs : a.eval s = .slice (some ad) sLen sCap) (cur : Array Value) (hg : w.heap[g]? = some (.cells cur e (0, 0)))
    (cs : List Value) (hn : n = Nat.min sLen dLen) (hcs : cs.length = n * sz) (hsrc : ∀ j v, cs[j]? = some v → w.cell? (ad.add j) = some v) (hfit : off + cs.length ≤ cur.size) (h1 : ∀ v ∈ cs, v.oneCell' = true)
    (hK' : ∀ w', Hid (w'.heap[g]? = some (.cells (splice cur.toList off cs).toArray e (0, 0))) → w.grownBy w' (some g) → K (a.put o.dst (goInt n)) w') :
    if Region.wanted o (yielded ops a.tmps) = true then Oper.wp P o a w K Q else E := by
  have hK := hK' _ (Lib.hid (setRow_heap w g cur (splice cur.toList off cs).toArray e _ hg)) (grown_setRow w g _)
  have hw : Region.wanted o (yielded ops a.tmps) = true := by simp [Region.wanted, hgd]
  rw [if_pos hw]
  have hr := fun ty => run_copyN (P := P) (sT := sT) (ty := ty) (sCap := sCap) (dCap := dCap) hE w hg cs hn hcs hsrc hfit h1
  unfold Oper.wp
  simp [execOp, ho, resolve, invoke, builtin, hd, hs, hr, Result.andThen]
  exact hK

/-- append(s[:k], make([]T, m)...), s[:k] a row of the call's own, no room: a new row. -/
theorem run_app_zeros {P : Program} {t tn ty e : TypeId} {sz bytes : Nat} (w : World) (hE : ElemInfo P t e sz bytes) (kn : IntKind) (htn : P.underlying tn = some (.int kn)) (base g k cap m : Nat) (xs : List Value)
    (hown : w.ownsRow base e sz (.slice (some ⟨g, 0, none⟩) k cap) k xs) (hm : 0 < m) (hno : cap < k + m) (hbytes : (k + m) * bytes ≤ 140737488355328) (h63 : k + m ≤ 100000) :
    ∃ cap' cur, (Builtin.append_ #[t, tn] ty #[.slice (some ⟨g, 0, none⟩) k cap, .int .i64 m]).run P w = .ok (.slice (some ⟨w.heap.size, 0, none⟩) (k + m) cap') (w.drew.alloc (.cells cur e)) ∧ k + m ≤ cap' ∧ cap' ≤ maxLen ∧ cur.size = cap' * sz ∧ cur.toList.take (k * sz) = xs := by
  obtain ⟨i, z, ht, hi, hz, hsize, hby, hzs, hsz⟩ := hE
  have hge := grownCap_ge w (k + m) cap e
  have hcm : grownCap w (k + m) cap e ≤ maxLen := grownCap_le_maxLen w (k + m) cap e (by unfold maxLen; omega)
  have holds : ∀ j u, xs[j]? = some u → w.cell? ((⟨g, 0, none⟩ : Addr).add j) = some u := hown.cells (g := g) rfl
  have hf := run_firstCells_some (P := P) w.drew sz k ⟨g, 0, none⟩ k cap xs hown.1 (by simpa using holds)
  have h48 := growslice_fits (need := k + m) (old := cap) (bytes := bytes) (by omega) hbytes
  have hn : m ≠ 0 := by omega
  have hw : IntKind.i64.wrap (m : Int) = m := by rw [IntKind.wrap_i64]; omega
  have hneg : ¬ ((m : Int) < 0) := by omega
  have h48i : ¬ (281474976710656 < (m : Int) * (i.bytes : Int)) := by
    rw [← Int.natCast_mul, hby]
    have : m * bytes ≤ (k + m) * bytes := Nat.mul_le_mul_right _ (by omega)
    omega
  have hns : ¬ (m * sz = 0) := Nat.mul_ne_zero hn (by omega)
  have hno' : ¬ (k + m ≤ cap) := by omega
  have h63' : ¬ (9223372036854775807 < ((k : Int) + (m : Int))) := by omega
  have h48' : ¬ (281474976710656 < Builtin.nextslicecap (k + m) cap * i.bytes) := by rw [hby]; omega
  refine ⟨grownCap w (k + m) cap e, xs.toArray ++ Builtin.zeroCells z.cells m ++ Builtin.zeroCells z.cells (grownCap w (k + m) cap e - (k + m)), ?_, hge, hcm, ?_, ?_⟩
  · simp [Builtin.append_, run_underlying ht, run_underlying htn, Go.sizeOf, typeInfo, zeroValue, hi, hz, hsize, asInt, asIntOf, hw, hneg, hns, h63', h48', h48i, hno', Question.forced, hf, newRow, grownCap]
  · simp only [Array.size_append, List.size_toArray, size_zeroCells, hzs, hown.1, ← Nat.add_mul]
    congr 1
    omega
  · simp only [Array.toList_append, List.append_assoc]
    rw [← hown.1]
    exact List.take_left
theorem wpList_app_zeros {P : Program} {w : World} {ops : Array Oper} {rest : List Oper} {o : Oper} {a : Act} {Q : Exit → Act → World → Prop} (hgd : o.guard = none) (s x : Operand) (t tn : TypeId)
    (ho : o.op = .call { callee := .builtin .append, args := #[s, x], argTypes := #[t, tn] }) {e : TypeId} {sz bytes : Nat} (hE : ElemInfo P t e sz bytes) (kn : IntKind) (htn : P.underlying tn = some (.int kn)) (base g k cap m : Nat) (xs : List Value) (M : Int) (hM : M = m)
    (hs : a.eval s = .slice (some ⟨g, 0, none⟩) k cap) (hx : a.eval x = .int .i64 M) (hown : w.ownsRow base e sz (.slice (some ⟨g, 0, none⟩) k cap) k xs) (hm : 0 < m) (hno : cap < k + m) (hbytes : (k + m) * bytes ≤ 140737488355328) (h63 : k + m ≤ 100000) (r : Nat) (hr : k + m = r)
    (h : ∀ cap' cur, r ≤ cap' → cap' ≤ maxLen → cur.size = cap' * sz → cur.toList.take (k * sz) = xs → ∀ w', Hid (w'.heap[w.heap.size]? = some (.cells cur e (0, 0))) → w.grownBy w' none → w.heap.size < w'.heap.size → wpList P ops Q rest (a.put o.dst (.slice (some ⟨w.heap.size, 0, none⟩) r cap')) w') : wpList P ops Q (o :: rest) a w :=
  wpList_plain hgd fun _ hK => by
    subst hM hr
    obtain ⟨cap', cur, hrun, h1, h2, h3, h4⟩ := run_app_zeros (P := P) (t := t) (tn := tn) (ty := o.type) w hE kn htn base g k cap m xs hown hm hno hbytes h63
    unfold Oper.wp execOp
    simp only [ho, resolve, invoke, builtin, Sem.run_bind, Sem.run_pure, Result.andThen_ok, List.map_toArray, List.map_cons, List.map_nil, hs, hx, hrun]
    exact hK _ _ (h cap' cur h1 h2 h3 h4 _ (Lib.hid (heap_alloc_new w.drew _)) ⟨rfl, rfl, rfl, by simp, fun k hk _ => heap_alloc_old w.drew _ hk⟩ (by simp))
theorem splice_len {α : Type} (L : List α) (off : Nat) (cs : List α) (h : off + cs.length ≤ L.length) : (splice L off cs).length = L.length := length_splice L off cs h
/-- A row's beginning kept, then new cells, then more. -/
theorem splice_new {α : Type} {cur p q r : List α} (hp : cur.take p.length = p) : (splice (splice cur p.length q) (p.length + q.length) r).take (p.length + q.length + r.length) = p ++ q ++ r := by
  have h1 : splice cur p.length q = p ++ q ++ cur.drop (p.length + q.length) := by unfold splice; rw [hp, List.append_assoc]
  rw [h1]
  unfold splice
  rw [List.take_left' (l₁ := p ++ q) (by simp), ← List.append_assoc, List.take_left' (l₁ := p ++ q ++ r) (by simp; omega)]
theorem splice_shift {α : Type} {cur p q r : List α} (hp : cur.take p.length = p) (hl : p.length + q.length + r.length ≤ cur.length) : (splice (splice cur (p.length + q.length) r) p.length q).take (p.length + q.length + r.length) = p ++ q ++ r := by
  have h1 : (splice cur (p.length + q.length) r).take p.length = p := by
    unfold splice
    rw [List.take_append_of_le_length (by simp; omega), List.take_take, Nat.min_eq_left (by omega), hp]
  have h2 : (splice cur (p.length + q.length) r).drop (p.length + q.length) = r ++ cur.drop (p.length + q.length + r.length) := by
    unfold splice
    rw [List.drop_left' (by simp; omega)]
  generalize splice cur (p.length + q.length) r = c at *
  unfold splice
  rw [h1, h2, ← List.append_assoc, ← List.append_assoc, List.take_left' (by simp; omega)]
section
variable {α : Type} {enc : α → List Value} {e : TypeId} {sz B g cap : Nat} {cur : Array Value} {l : List α} {f : α} {k : Nat}
theorem ins_flat (hen : Enc enc sz) (hk : k ≤ l.length) : ((l.take k).flatMap enc).length = k * sz ∧ (enc f).length = sz ∧ ((l.drop k).flatMap enc).length = (l.length - k) * sz ∧ (l.take k ++ f :: l.drop k).length = l.length + 1 ∧ (l.take k ++ f :: l.drop k).flatMap enc = (l.take k).flatMap enc ++ enc f ++ (l.drop k).flatMap enc ∧ k * sz + sz + (l.length - k) * sz = (l.length + 1) * sz := by
  refine ⟨by rw [flat_length hen, List.length_take, Nat.min_eq_left hk], (hen f).1, by rw [flat_length hen, List.length_drop], by rw [List.length_append, List.length_cons, List.length_take, List.length_drop]; omega, by simp, ?_⟩
  obtain ⟨d, hd⟩ : ∃ d, l.length = k + d := ⟨l.length - k, by omega⟩
  rw [hd, show k + d - k = d by omega, Nat.add_mul, Nat.add_mul]
  omega
/-- A row in which one more element was put: written anew. -/
theorem own_insNew (hen : Enc enc sz) (hB : B ≤ g) (hk : k ≤ l.length) (hc : l.length + 1 ≤ cap) (hm : cap ≤ maxLen) (hs : cur.size = cap * sz) (hp : cur.toList.take (k * sz) = (l.take k).flatMap enc) (w : World) (hg : w.heap[g]? = some (.cells (splice (splice cur.toList (k * sz) (enc f)) ((k + 1) * sz) ((l.drop k).flatMap enc)).toArray e (0, 0))) :
    Own enc e sz B w (.slice (some ⟨g, 0, none⟩) (l.length + 1) cap) (l.take k ++ f :: l.drop k) := by
  obtain ⟨h1, h2, h3, h4, h5, h6⟩ := ins_flat (f := f) hen hk
  have hle : (l.length + 1) * sz ≤ cap * sz := Nat.mul_le_mul_right _ hc
  have hsp := splice_new (cur := cur.toList) (p := (l.take k).flatMap enc) (q := enc f) (r := (l.drop k).flatMap enc) (by rw [h1]; exact hp)
  rw [h1, h2, h3, h6, ← h5, show k * sz + sz = (k + 1) * sz by rw [Nat.add_mul]; omega] at hsp
  refine Own.put hen h4 hB hg hc hm ?_ hsp
  have a1 : k * sz + (enc f).length ≤ cur.toList.length := by rw [h2, Array.length_toList (xs := cur), hs]; omega
  have a2 := length_splice cur.toList (k * sz) (enc f) a1
  rw [List.size_toArray, length_splice, a2, Array.length_toList (xs := cur), hs]
  rw [a2, h3, Array.length_toList (xs := cur), hs, Nat.add_mul]; omega
/-- A row in which one more element was put: shifted. -/
theorem own_insShift (hen : Enc enc sz) (hB : B ≤ g) (hk : k ≤ l.length) (hc : l.length + 1 ≤ cap) (hm : cap ≤ maxLen) (hs : cur.size = cap * sz) (hp : cur.toList.take (k * sz) = (l.take k).flatMap enc) (w : World) (hg : w.heap[g]? = some (.cells (splice (splice cur.toList ((k + 1) * sz) ((l.drop k).flatMap enc)) (k * sz) (enc f)).toArray e (0, 0))) :
    Own enc e sz B w (.slice (some ⟨g, 0, none⟩) (l.length + 1) cap) (l.take k ++ f :: l.drop k) := by
  obtain ⟨h1, h2, h3, h4, h5, h6⟩ := ins_flat (f := f) hen hk
  have hle : (l.length + 1) * sz ≤ cap * sz := Nat.mul_le_mul_right _ hc
  have hsp := splice_shift (cur := cur.toList) (p := (l.take k).flatMap enc) (q := enc f) (r := (l.drop k).flatMap enc) (by rw [h1]; exact hp) (by rw [h1, h2, h3, h6, Array.length_toList (xs := cur), hs]; exact hle)
  rw [h1, h2, h3, h6, ← h5, show k * sz + sz = (k + 1) * sz by rw [Nat.add_mul]; omega] at hsp
  refine Own.put hen h4 hB hg hc hm ?_ hsp
  have a1 : (k + 1) * sz + ((l.drop k).flatMap enc).length ≤ cur.toList.length := by rw [h3, Array.length_toList (xs := cur), hs, Nat.add_mul]; omega
  have a2 := length_splice cur.toList ((k + 1) * sz) ((l.drop k).flatMap enc) a1
  rw [List.size_toArray, length_splice, a2, Array.length_toList (xs := cur), hs]
  rw [a2, h2, Array.length_toList (xs := cur), hs]; omega
end
end Go.Proofs.YtmhchakjkgdpmaaGreatDoor
namespace Go.Proofs.YtmhchakjkgdpmaaGreatDoor
open Go.RowKit

theorem row_setCell {w : World} {g i : Nat} {cur : Array Value} {t : TypeId} {fr : Nat × Nat} (hg : w.heap[g]? = some (.cells cur t fr)) (v : Value) : (w.setCell ⟨g, i, none⟩ v).heap[g]? = some (.cells (cur.setIfInBounds i v) t fr) := by
  simp only [World.setCell, Array.getElem?_modify, hg]
  rfl
/-- A struct of six cells, written cell by cell. -/
abbrev six (w : World) (g o : Nat) (b0 b1 b2 b3 b4 b5 : Value) : World := (((((w.setCell ⟨g, o, none⟩ b0).setCell ⟨g, o + 1, none⟩ b1).setCell ⟨g, o + 2, none⟩ b2).setCell ⟨g, o + 3, none⟩ b3).setCell ⟨g, o + 4, none⟩ b4).setCell ⟨g, o + 5, none⟩ b5
theorem six_row {w : World} {g o : Nat} {t : TypeId} {fr : Nat × Nat} {cur : Array Value} (hg : w.heap[g]? = some (.cells cur t fr)) (b0 b1 b2 b3 b4 b5 : Value) : (six w g o b0 b1 b2 b3 b4 b5).heap[g]? = some (.cells ((((((cur.setIfInBounds o b0).setIfInBounds (o + 1) b1).setIfInBounds (o + 2) b2).setIfInBounds (o + 3) b3).setIfInBounds (o + 4) b4).setIfInBounds (o + 5) b5) t fr) :=
  row_setCell (row_setCell (row_setCell (row_setCell (row_setCell (row_setCell hg b0) b1) b2) b3) b4) b5
theorem six_below {B : Nat} {w0 w : World} {g o : Nat} (hb : Below B w0 w) (hB : B ≤ g) (b0 b1 b2 b3 b4 b5 : Value) : Below B w0 (six w g o b0 b1 b2 b3 b4 b5) :=
  (((((hb.setCell (p := ⟨g, o, none⟩) hB _).setCell (p := ⟨g, o + 1, none⟩) hB _).setCell (p := ⟨g, o + 2, none⟩) hB _).setCell (p := ⟨g, o + 3, none⟩) hB _).setCell (p := ⟨g, o + 4, none⟩) hB _).setCell (p := ⟨g, o + 5, none⟩) hB _
theorem six_new {w : World} {g : Nat} {t : TypeId} {fr : Nat × Nat} {a0 a1 a2 a3 a4 a5 : Value} (hg : w.heap[g]? = some (.cells #[a0, a1, a2, a3, a4, a5] t fr)) (b0 b1 b2 b3 b4 b5 : Value) : (six w g 0 b0 b1 b2 b3 b4 b5).heap[g]? = some (.cells #[b0, b1, b2, b3, b4, b5] t fr) := six_row hg _ _ _ _ _ _
theorem World.heap_drew (w : World) : w.drew.heap = w.heap := rfl
theorem ret_row {P : Program} {fn : Func} {p u : Tmp} {ty : TypeId} (h : fn.results = #[.cell p ty, .tmp u]) (tmps : Array Value) (w : World) (g : Nat) (t : TypeId) (cs : Array Value) (fr : Nat × Nat) (d : TypeDesc) (hp : tmps.getD p undef = .pointer (some ⟨g, 0, none⟩)) (hg : w.heap[g]? = some (.cells cs t fr))
    (hu : P.underlying ty = some d) (hd : (match d with | .struct _ | .array _ _ => true | _ => false) = true) (hi : (P.info? ty).map (·.size) = some cs.size) : (results fn tmps).run P w = .ok (.tuple #[.agg cs, tmps.getD u undef]) w := by
  rw [results_cell_tmp h, hp]
  simp [asAddr, run_loadVar_row w g t ty cs fr d hg hu hd hi, Result.andThen]
end Go.Proofs.YtmhchakjkgdpmaaGreatDoor
namespace Go.Proofs.YtmhchakjkgdpmaaGreatDoor
open Go.RowKit

def erOf (c : Nat) : Er := if c = 0 then .nil else .bare c
theorem fileRead_none {s : Str} (h : fileOf (cutAt 32 s) = none) : fileRead s = (zeroF, 1) := by unfold fileRead; rw [h]
theorem fileRead_some {s : Str} {f : Fl} (h : fileOf (cutAt 32 s) = some f) : fileRead s = if checkF f = 0 then (f, 0) else (zeroF, checkF f) := by unfold fileRead; rw [h]
theorem fileOf_len {l : List Str} (h : l.length ≠ 6) : fileOf l = none := by
  unfold fileOf
  split
  · exact absurd rfl h
  · rfl
theorem six_strs {l : List Str} (h : l.length = 6) : ∃ p q a b c d, l = [p, q, a, b, c, d] := by
  match l, h with
  | [p, q, a, b, c, d], _ => exact ⟨p, q, a, b, c, d, rfl⟩
theorem four_ints {l : List Int} (h : l.length = 4) : ∃ a b c d, l = [a, b, c, d] := by
  match l, h with
  | [a, b, c, d], _ => exact ⟨a, b, c, d, rfl⟩

end Go.Proofs.YtmhchakjkgdpmaaGreatDoor
namespace Go.Proofs
open Go.Shelf
def Tryz.bld166_ren : Go.Shelf.Ren := ⟨fun | 166 => 220 | 240 => 270 | 276 => 303 | n => n, fun | 0 => 0 | 3 => 3 | 4 => 4 | 5 => 5 | 9 => 9 | 20 => 20 | 37 => 287 | 70 => 286 | 72 => 289 | 75 => 31 | 80 => 121 | 164 => 255 | n => n, fun | n => n⟩
theorem Tryz.bld166 : Go.Proofs.Lays.n166 Tryz.prog Tryz.bld166_ren := {
  mixed := by kernel_rfl
  f166 := Tryz.func220.trans (congrArg some (by kernel_rfl))
  f240 := Tryz.func270.trans (congrArg some (by kernel_rfl))
  f276 := Tryz.func303.trans (congrArg some (by kernel_rfl))
  t0 := Tryz.underlying0
  a0 := Tryz.isAgg0
  z0 := Tryz.sizeOf0
  v0 := Tryz.zeroValue0
  t3 := Tryz.underlying3
  a3 := Tryz.isAgg3
  z3 := Tryz.sizeOf3
  v3 := Tryz.zeroValue3
  t4 := Tryz.underlying4
  a4 := Tryz.isAgg4
  z4 := Tryz.sizeOf4
  v4 := Tryz.zeroValue4
  t9 := Tryz.underlying9
  a9 := Tryz.isAgg9
  z9 := Tryz.sizeOf9
  v9 := Tryz.zeroValue9
  t20 := Tryz.underlying20
  a20 := Tryz.isAgg20
  z20 := Tryz.sizeOf20
  v20 := Tryz.zeroValue20
  t37 := Tryz.underlying287
  a37 := Tryz.isAgg287
  z37 := Tryz.sizeOf287
  v37 := Tryz.zeroValue287
  t70 := Tryz.underlying286
  a70 := Tryz.isAgg286
  z70 := Tryz.sizeOf286
  v70 := Tryz.zeroValue286
  t72 := Tryz.underlying289
  a72 := Tryz.isAgg289
  z72 := Tryz.sizeOf289
  v72 := Tryz.zeroValue289
  t75 := Tryz.underlying31
  a75 := Tryz.isAgg31
  z75 := Tryz.sizeOf31
  v75 := Tryz.zeroValue31
  t164 := Tryz.underlying255
  a164 := Tryz.isAgg255
  z164 := Tryz.sizeOf255
  v164 := Tryz.zeroValue255 }
theorem Tryz.bldX166 : Builder.Extra Tryz.prog Tryz.bld166_ren where
  sizeBuilder := by kernel_rfl
  liesBuilder := by kernel_rfl
  t5 := Tryz.underlying5
  a5 := Tryz.isAgg5
  z5 := Tryz.sizeOf5
  v5 := Tryz.zeroValue5
  infoByte := by kernel_rfl
  cellsByte := by kernel_rfl
  sizeByte := by kernel_rfl
  neB5 := by decide
end Go.Proofs
namespace Go.Proofs.YtmhchakjkgdpmaaGreatDoor
open Go.RowKit
/-- A builder of the call's own that holds the text s. -/
abbrev BldAt (B b : Nat) (s : Str) (w : World) : Prop := Lib.IsBuilder 289 5 B b (Lib.byteCells s) w
theorem bldWrite_any (B b : Nat) (s t : Str) (w : World) (h : BldAt B b s w) (hl : s.length + t.length ≤ 1000000) (hB : B ≤ w.heap.size) :
    Calls Tryz.prog 220 #[.pointer (some ⟨b, 0, none⟩), S t] w fun e w' => e = .returned (.tuple #[.int .i64 t.length, .nilIface]) ∧ BldAt B b (s ++ t) w' ∧ Below B w w' := by
  refine (Any.Builder_WriteString Tryz.bld166 Tryz.bldX166 B b (Lib.byteCells s) ⟨t.toArray⟩ w h (by simp [Lib.byteCells, ByteArray.size]; omega) hB).mono ?_
  rintro e w' ⟨rfl, h1, h2⟩
  refine ⟨by simp [ByteArray.size], .inr ?_, h2⟩
  have e1 : Lib.byteCells s ++ Lib.strCells ⟨t.toArray⟩ = Lib.byteCells (s ++ t) := by simp [Lib.byteCells, Lib.strCells]
  rw [← e1]
  exact h1
theorem bldString_any (B b : Nat) (s : Str) (w : World) (h : BldAt B b s w) (hB : B ≤ w.heap.size) :
    Calls Tryz.prog 221 #[.pointer (some ⟨b, 0, none⟩)] w fun e w' => e = .returned (S s) ∧ Below B w w' :=
  Tryz.Builder_String_any B b s w h hB
end Go.Proofs.YtmhchakjkgdpmaaGreatDoor
namespace Go.Proofs.YtmhchakjkgdpmaaGreatDoor
open Go.RowKit
attribute [local go_sem] bapp

theorem numsTail_snoc (l : List Int) (x : Int) : numsTail (l ++ [x]) = numsTail l ++ 32 :: Lib.itoa x := by simp [numsTail]
theorem numsTail_len (l : List Int) (h : ∀ x ∈ l, -9223372036854775808 ≤ x ∧ x ≤ 9223372036854775807) : (numsTail l).length ≤ l.length * 22 := by
  induction l with
  | nil => simp [numsTail]
  | cons x r ih =>
    have h1 := h x (by simp)
    have h2 := itoa_len x (by omega) (by omega)
    have h3 := ih fun y hy => h y (by simp [hy])
    simp only [numsTail, List.flatMap_cons, List.length_append, List.length_cons] at h3 ⊢
    omega

theorem cat_run (a b : ByteArray) (n m : Nat) (ha : a.size = n) (hb : b.size = m) (h : n + m ≤ 1000000) : ∀ w, (Op.stringOp .add a b).run Tryz.prog w = .ok (.string (a ++ b)) w := fun w => run_string_add_sum w a b (by omega)

end Go.Proofs.YtmhchakjkgdpmaaGreatDoor
namespace Go.Proofs.YtmhchakjkgdpmaaGreatDoor
open Go.RowKit

/-- A file's fault, by its ways. -/
theorem fileErr_ways (f : Fl) : (pathF f.path = none ∧ checkF f = 5) ∨ (∃ n, pathF f.path = some (kGone, n) ∧ ((f.part ≠ [45] ∧ checkF f = 4) ∨ (f.part = [45] ∧ checkF f = if boundF f then 2 else 0))) ∨
    (∃ n, pathF f.path = some (kData, n) ∧ ((nameB f.part 12 = false ∧ checkF f = 4) ∨ (nameB f.part 12 = true ∧ checkF f = if boundF f then 2 else 0))) := by
  cases hp : pathF f.path with
  | none => exact .inl ⟨rfl, by unfold checkF; rw [if_pos hp]⟩
  | some kn =>
    obtain ⟨k, n⟩ := kn
    have hkf : kindF f.path = k := by unfold kindF; rw [hp]; rfl
    have hc : checkF f = if partOk k f.part = false then 4 else if boundF f then 2 else 0 := by
      unfold checkF; rw [hp, hkf, if_neg (by simp)]
    rcases (pathF_some hp).1 with rfl | rfl
    · refine .inr (.inr ⟨n, rfl, ?_⟩)
      rw [nameB_part (by decide)] at hc
      cases hb : nameB f.part 12 with
      | false => exact .inl ⟨rfl, by rw [hc, hb, if_pos rfl]⟩
      | true => exact .inr ⟨rfl, by rw [hc, hb, if_neg (by simp)]⟩
    · refine .inr (.inl ⟨n, rfl, ?_⟩)
      by_cases h : f.part = [45]
      · exact .inr ⟨h, by rw [hc, if_neg (by unfold partOk; rw [if_pos rfl, h]; decide)]⟩
      · exact .inl ⟨h, by rw [hc, if_pos (by unfold partOk; rw [if_pos rfl]; simpa using h)]⟩
theorem bound_ways (f : Fl) : (boundF f ∧ (f.n < 1 ∨ (decide (f.n < 1) = false ∧ (40 < f.n ∨ (decide (40 < f.n) = false ∧ (decide (farN f.lo) = true ∨ (decide (farN f.lo) = false ∧ (decide (farN f.hi) = true ∨ (decide (farN f.hi) = false ∧ (f.hi < f.lo ∨ (decide (f.hi < f.lo) = false ∧ (f.seq < 1 ∨ (decide (f.seq < 1) = false ∧ 1073741824 < f.seq))))))))))))) ∨
    (¬ boundF f ∧ decide (f.n < 1) = false ∧ decide (40 < f.n) = false ∧ decide (farN f.lo) = false ∧ decide (farN f.hi) = false ∧ decide (f.hi < f.lo) = false ∧ decide (f.seq < 1) = false ∧ decide (1073741824 < f.seq) = false) := by
  simp only [decide_eq_true_eq, decide_eq_false_iff_not]
  unfold boundF
  by_cases h1 : farN f.lo <;> by_cases h2 : farN f.hi <;> simp only [h1, h2, true_or, or_true, false_or, or_false, true_and, and_true, false_and, and_false, not_true_eq_false, not_false_eq_true] <;> omega

set_option maxHeartbeats 4000000 in
set_option maxRecDepth 20000 in
theorem fileError_any (f : Fl) (w : World) (hs : midF f) :
    Calls Tryz.prog 76 #[fileV f] w fun e w' => e = .returned (.int .i64 (checkF f : Nat)) ∧ Below w.heap.size w w' := by
  have hb0 : Below w.heap.size w (w.alloc (.cells #[S f.path, S f.part, .int .i64 f.n, .int .i64 f.lo, .int .i64 f.hi, .int .i64 f.seq] 37)) := (Below.refl _ _).alloc (Nat.le_refl _) _
  obtain ⟨c0, c1, c2, c3, c4, c5⟩ := fileCells (f := f) (w := w) rfl (Below.refl _ (w.alloc (.cells #[S f.path, S f.part, .int .i64 f.n, .int .i64 f.lo, .int .i64 f.hi, .int .i64 f.seq] 37)))
  have hP := fun W => pathOf_any f.path W hs.1
  have hNm := fun W => isName_any f.part 12 W hs.2
  have HNm := Lib.hid hNm
  clear hNm
  rcases fileErr_ways f with ⟨hp, hc⟩ | ⟨n, hp, hw⟩ | ⟨n, hp, hw⟩
  · rw [show pathE f.path = 5 by unfold pathE; rw [hp]; rfl, show kindF f.path = [] by unfold kindF; rw [hp]; rfl, show numF f.path = 0 by unfold numF; rw [hp]; rfl] at hP
    rw [hc]
    have HP := Lib.hid hP
    clear hP hc hp
    go_enter Tryz.func76, Tryz.ntmps76
    go_wp2_with (go_at_call 137; refine (HP.out _).mono ?_; rintro e w' ⟨rfl, rfl⟩)
    go_ret
    exact ⟨rfl, hb0⟩
  · rw [show pathE f.path = 0 by unfold pathE; rw [hp]; rfl, show kindF f.path = kGone by unfold kindF; rw [hp]; rfl] at hP
    generalize numF f.path = nf at *
    have HP := Lib.hid hP
    clear hP hp
    rcases hw with ⟨h1, hc⟩ | ⟨h1, hc⟩
    · have g1 : (f.part == [45]) = false := by simpa using h1
      rw [hc]
      clear h1 hc
      go_enter Tryz.func76, Tryz.ntmps76
      go_wp2_with (first | (go_at_call 137; refine (HP.out _).mono ?_; rintro e w' ⟨rfl, rfl⟩) | (go_at_call 138; refine (HNm.out _).mono ?_; rintro e w' ⟨rfl, rfl⟩))
      go_ret
      exact ⟨rfl, hb0⟩
    · have g1 : (f.part == [45]) = true := by simpa using h1
      clear h1
      generalize nameB f.part 12 = nb at *
      rcases bound_ways f with ⟨hb, hw⟩ | ⟨hb, b1, b2, b3, b4, b5, b6, b7⟩
      · rw [hc, if_pos hb]
        clear hc hb
        rcases hw with b1 | ⟨b1, b2 | ⟨b2, b3 | ⟨b3, b4 | ⟨b4, b5 | ⟨b5, b6 | ⟨b6, b7⟩⟩⟩⟩⟩⟩
        all_goals
          go_enter Tryz.func76, Tryz.ntmps76
          go_wp2_with (first | (go_at_call 137; refine (HP.out _).mono ?_; rintro e w' ⟨rfl, rfl⟩) | (go_at_call 138; refine (HNm.out _).mono ?_; rintro e w' ⟨rfl, rfl⟩) | (go_at_call 139; refine (isFar_any _ _).mono ?_; rintro e w' ⟨rfl, rfl⟩))
          all_goals
            go_ret
            exact ⟨rfl, hb0⟩
      · rw [hc, if_neg hb]
        clear hc hb
        go_enter Tryz.func76, Tryz.ntmps76
        go_wp2_with (first | (go_at_call 137; refine (HP.out _).mono ?_; rintro e w' ⟨rfl, rfl⟩) | (go_at_call 138; refine (HNm.out _).mono ?_; rintro e w' ⟨rfl, rfl⟩) | (go_at_call 139; refine (isFar_any _ _).mono ?_; rintro e w' ⟨rfl, rfl⟩))
        go_ret
        exact ⟨rfl, hb0⟩
  · rw [show pathE f.path = 0 by unfold pathE; rw [hp]; rfl, show kindF f.path = kData by unfold kindF; rw [hp]; rfl] at hP
    generalize numF f.path = nf at *
    have HP := Lib.hid hP
    clear hP hp
    rcases hw with ⟨h1, hc⟩ | ⟨h1, hc⟩
    · rw [h1] at HNm
      rw [hc]
      clear h1 hc
      go_enter Tryz.func76, Tryz.ntmps76
      go_wp2_with (first | (go_at_call 137; refine (HP.out _).mono ?_; rintro e w' ⟨rfl, rfl⟩) | (go_at_call 138; refine (HNm.out _).mono ?_; rintro e w' ⟨rfl, rfl⟩))
      go_ret
      exact ⟨rfl, hb0⟩
    · rw [h1] at HNm
      clear h1
      rcases bound_ways f with ⟨hb, hw⟩ | ⟨hb, b1, b2, b3, b4, b5, b6, b7⟩
      · rw [hc, if_pos hb]
        clear hc hb
        rcases hw with b1 | ⟨b1, b2 | ⟨b2, b3 | ⟨b3, b4 | ⟨b4, b5 | ⟨b5, b6 | ⟨b6, b7⟩⟩⟩⟩⟩⟩
        all_goals
          go_enter Tryz.func76, Tryz.ntmps76
          go_wp2_with (first | (go_at_call 137; refine (HP.out _).mono ?_; rintro e w' ⟨rfl, rfl⟩) | (go_at_call 138; refine (HNm.out _).mono ?_; rintro e w' ⟨rfl, rfl⟩) | (go_at_call 139; refine (isFar_any _ _).mono ?_; rintro e w' ⟨rfl, rfl⟩))
          all_goals
            go_ret
            exact ⟨rfl, hb0⟩
      · rw [hc, if_neg hb]
        clear hc hb
        go_enter Tryz.func76, Tryz.ntmps76
        go_wp2_with (first | (go_at_call 137; refine (HP.out _).mono ?_; rintro e w' ⟨rfl, rfl⟩) | (go_at_call 138; refine (HNm.out _).mono ?_; rintro e w' ⟨rfl, rfl⟩) | (go_at_call 139; refine (isFar_any _ _).mono ?_; rintro e w' ⟨rfl, rfl⟩))
        go_ret
        exact ⟨rfl, hb0⟩

set_option maxHeartbeats 1000000 in
set_option maxRecDepth 20000 in
theorem isBehind_any (a b : Str) (w : World) (ha : a.length ≤ 100000) (hb : b.length ≤ 100000) :
    Calls Tryz.prog 104 #[S a, S b] w fun e w' => e = .returned (.bool (decide (0 < cmpP a b))) ∧ w = w' := by
  have hA := fun W => pathOf_any a W ha
  have hB := fun W => pathOf_any b W hb
  have hc : decide (0 < cmpP a b) = decide (keyP b < keyP a) := by
    have := @cmpP_le a b
    rw [Bool.eq_iff_iff]; simp; omega
  rw [hc]
  clear hc
  generalize pathE a = ea at *
  generalize pathE b = eb at *
  rcases path_ways a with ⟨-, a1, a2, a3⟩ | ⟨n, an1, an2, a1, a2, a3⟩ | ⟨n, an1, an2, a1, a2, a3⟩ <;> rcases path_ways b with ⟨-, b1, b2, b3⟩ | ⟨m, bn1, bn2, b1, b2, b3⟩ | ⟨m, bn1, bn2, b1, b2, b3⟩
  all_goals
    rw [a1, a2] at hA
    rw [b1, b2] at hB
    rw [a3, b3]
    have HA := Lib.hid hA; have HB := Lib.hid hB
    clear a1 a2 a3 b1 b2 b3 hA hB
    go_enter Tryz.func104, Tryz.ntmps104
    go_wp2_with fail
    refine (HA.out _).mono ?_
    rintro e w' ⟨rfl, rfl⟩
    go_wp2_with fail
    refine (HB.out _).mono ?_
    rintro e w' ⟨rfl, rfl⟩
    go_wp2_with fail
    go_ret
    refine ⟨ret_bool ?_, rfl⟩
    first
      | (exact (decide_eq_false (by omega)).symm)
      | (exact (decide_eq_true (by omega)).symm)
      | (rw [Bool.eq_iff_iff, decide_eq_true_eq, decide_eq_true_eq]; omega)
end Go.Proofs.YtmhchakjkgdpmaaGreatDoor
namespace Go.Proofs.YtmhchakjkgdpmaaGreatDoor
open Go.RowKit

end Go.Proofs.YtmhchakjkgdpmaaGreatDoor
namespace Go.Proofs.YtmhchakjkgdpmaaGreatDoor
open Go.RowKit

theorem own_empty {α : Type} (enc : α → List Value) (e : TypeId) (sz B g : Nat) (w : World) (hB : B ≤ g) (hg : w.heap[g]? = some (.cells #[] e (0, 0))) : Own enc e sz B w (.slice (some ⟨g, 0, none⟩) 0 0) [] :=
  ⟨by simp, .inr ⟨g, 0, #[], rfl, hB, hg, Nat.le_refl _, Nat.zero_le _, by simp, by simp⟩⟩
theorem At.form' {α : Type} {enc : α → List Value} {sz : Nat} {w : World} {v : Value} {l : List α} (h : At enc sz w v l) : ∃ a c, v = .slice a l.length c ∧ (a = none → l = []) ∧ c ≤ maxLen := by
  obtain ⟨a, c, b, o, hv, ha, _, hm, _⟩ := h
  exact ⟨a, c, hv, fun h => List.eq_nil_of_length_eq_zero (by
    rcases Nat.eq_zero_or_pos l.length with h0 | h0
    · exact h0
    · have := ha h0; rw [h] at this; cases this), hm⟩

set_option maxRecDepth 20000 in
theorem cloneF_any (v : Value) (l : List Fl) (w : World) (hl : FilesAt w v l) (hn : l.length ≤ 100000) :
    Calls Tryz.prog 61 #[v] w fun e w' => ∃ v', e = .returned v' ∧ Own encF 37 6 w.heap.size w' v' l ∧ Below w.heap.size w w' := by
  obtain ⟨a, c, rfl, hnil, hcm⟩ := hl.form'
  have hq := fun w' => Lib.run_eql_slice_nil (P := Tryz.prog) w' 22 37 a l.length c 0 0 Tryz.underlying22
  cases a with
  | none =>
    obtain rfl := hnil rfl
    simp only [Option.isNone_none, List.length_nil] at hq
    go_enter Tryz.func61, Tryz.ntmps61
    go_wp2_with fail
    go_ret
    exact ⟨_, rfl, Own.nil _ _ _ _ _, Below.refl _ _⟩
  | some ad =>
    simp only [Option.isNone_some] at hq
    have hba : Below w.heap.size w (w.alloc (.cells #[] 37)) := (Below.refl _ _).alloc (Nat.le_refl _) _
    have hs := (hl.below hba).src encF_enc (by decide)
    have ho : Own encF 37 6 w.heap.size (w.alloc (.cells #[] 37)) (.slice (some ⟨w.heap.size, 0, none⟩) 0 0) [] := own_empty encF _ 6 _ _ _ (Nat.le_refl _) (heap_alloc_new w _)
    go_enter Tryz.func61, Tryz.ntmps61
    go_wp2_with (at_builtin; refine wpList_app rfl _ _ _ rfl w.heap.size elFl (.slice (some ⟨w.heap.size, 0, none⟩) 0 0) 0 [] rfl ho _ _ _ rfl hs (by unfold maxLen; omega) (by omega) (by simp) ?_; intro v' w1 hown hg _)
    go_ret
    exact ⟨_, rfl, by simpa [Own] using hown, hba.grown hg (by simp) (fun k hk => by cases hk; exact Nat.le_refl _)⟩

theorem flZero : (Tryz.prog.info? 37).bind (·.zero) = some (.agg #[.string ByteArray.empty, .string ByteArray.empty, .int .i64 0, .int .i64 0, .int .i64 0, .int .i64 0]) := by kernel_rfl
theorem flZero1 : ∀ z, (Tryz.prog.info? 37).bind (·.zero) = some z → ∀ u ∈ z.cells.toList, u.oneCell' = true := by
  intro z hz u hu
  rw [flZero] at hz
  cases hz
  simp [Value.cells] at hu
  rcases hu with rfl | rfl <;> rfl
set_option maxRecDepth 20000 in
set_option maxHeartbeats 1000000 in
theorem deleteF_any (base : Nat) (v : Value) (l : List Fl) (k : Nat) (w : World) (hl : Own encF 37 6 base w v l) (hk : k < l.length) (hn : l.length ≤ 100000) (hB : base ≤ w.heap.size) :
    Calls Tryz.prog 103 #[v, .int .i64 k, .int .i64 ((k : Int) + 1)] w fun e w' => ∃ v', e = .returned v' ∧ Own encF 37 6 base w' v' (l.take k ++ l.drop (k + 1)) ∧ Below base w w' := by
  obtain ⟨g, cap, cur, rfl, hBg, hg, hcap, hm, hs, ht⟩ := hl.open (by omega)
  unfold maxLen at hm
  obtain ⟨r, hr⟩ : ∃ r, k + (l.length - (k + 1)) = r := ⟨_, rfl⟩
  have hct := hl.cut' encF_enc (k := k) (by omega)
  have hfr := hl.from encF_enc (k + 1)
  have hr1 : r + 1 ≤ l.length := by omega
  have hr2 : l.length ≤ r + 1 := by omega
  have HCT := Lib.hid hct
  have HFR := Lib.hid hfr
  have HR := Lib.hid hr
  have hlt : (l.take k).length = k := by rw [List.length_take]; omega
  have hld : ((l.drop (k + 1)).flatMap encF).length = (l.length - (k + 1)) * 6 := by rw [flat_length encF_enc, List.length_drop]
  have h1c : ∀ u ∈ (l.drop (k + 1)).flatMap encF, u.oneCell' = true := fun u hu => by
    obtain ⟨x, _, hux⟩ := List.mem_flatMap.1 hu
    exact (encF_enc x).2 u hux
  have HLT := Lib.hid hlt
  have HLD := Lib.hid hld
  have H1C := Lib.hid h1c
  have b1 : ((k : Int) == (k : Int) + 1) = false := beq_eq_false_iff_ne.2 (by omega)
  have b8 : (0 : Int) ≤ (k : Int) + 1 := by omega
  have b9 : (k : Int) ≤ (k : Int) + 1 := by omega
  have b2 : (k : Int) + 1 ≤ l.length := by omega
  have b3 : (l.length : Int) ≤ cap := by omega
  have b4 : ¬ (l.length = k) := by omega
  have b5 : (k : Int) + 1 ≤ cap := by omega
  have b6 : (k : Int) ≤ cap := by omega
  have b7 : (k : Int) ≤ l.length := by omega
  clear hct hfr hr hlt hld h1c hs ht hg
  go_enter Tryz.func103, Tryz.ntmps103
  by_cases hcj : cap = k + 1
  · subst hcj
    have hlk : l.length = k + 1 := by omega
    have hdn : l.drop (k + 1) = [] := List.drop_eq_nil_of_le (by omega)
    have HLK := Lib.hid hlk
    have HDN := Lib.hid hdn
    clear hlk hdn
    go_wp2_with fail
    go_region
    have ho1 : Own encF 37 6 base w.drew (.slice (some ⟨g, 0, none⟩) k (k + 1)) (l.take k ++ l.drop (k + 1)) := by
      rw [HDN.out, List.append_nil]
      exact HCT.out
    have hb1 : Below base w w.drew := (Below.refl base w).drew
    obtain ⟨cs, hrun, ho2⟩ := run_clear_behind (c := 1) elFl encF_enc flZero1 ho1 (m := l.length - k) (by have := HLK.out; omega) (by have := HLK.out; omega)
    have Ho2 := Lib.hid ho2
    have hcr : ¬ (k + 1 = k) := by omega
    clear ho2 ho1
    go_wp2_with fail
    go_ret
    exact ⟨_, rfl, Ho2.out, Bset hb1 hBg _⟩
  · go_wp2_with fail
    go_region_law ((refine step_fits rfl (.tmp 22) (.tmp 25) 22 rfl elFl base g k cap _ (by simp [Act.eval, Act.put]) (by have := HCT.out; unfold Own at this; rw [HLT.out] at this; exact this) ⟨g, (k + 1) * 6, none⟩ (l.length - (k + 1)) (cap - (k + 1)) r ((l.drop (k + 1)).flatMap encF) (by simp [Act.eval, Act.put]) HLD.out (by intro j u hu; rw [add_lit]; exact HFR.out j u hu) H1C.out (by omega) HR.out ?_; intro w1 h1 hg1))
    have ho1 : Own encF 37 6 base w1 (.slice (some ⟨g, 0, none⟩) r cap) (l.take k ++ l.drop (k + 1)) := by
      unfold Own
      have e : (l.take k ++ l.drop (k + 1)).length = r := by rw [List.length_append, HLT.out, List.length_drop]; exact HR.out
      rw [e, List.flatMap_append]
      exact h1
    have hb1 : Below base w w1 := (Below.refl base w).drew.grown hg1 hB (fun k' hk' => by cases hk'; exact hBg)
    obtain ⟨cs, hrun, ho2⟩ := run_clear_behind (c := cap - r) elFl encF_enc flZero1 ho1 (m := l.length - r) (by omega) (by omega)
    have Ho2 := Lib.hid ho2
    have hcr : ¬ (cap = r) := by omega
    have b10 : (r : Int) ≤ l.length := by omega
    clear ho2 ho1 h1 hg1
    go_wp2_with fail
    go_ret
    exact ⟨_, rfl, Ho2.out, Bset hb1 hBg _⟩

end Go.Proofs.YtmhchakjkgdpmaaGreatDoor
namespace Go.Proofs.YtmhchakjkgdpmaaGreatDoor
open Go.RowKit


def findV (l : List Fl) (p : Str) : Int := idxVal (fun f => f.path == p) l
theorem find1_any (x : Fl) (p : Str) (ad : Addr) (w : World) (h1 : w.cell? ad = some (S p)) :
    Calls Tryz.prog 112 #[fileV x, .pointer (some ad)] w fun e w' => e = .returned (.bool (x.path == p)) ∧ Below w.heap.size w w' := by
  have h1' : (w.alloc (fileO x)).cell? ad = some (S p) := (((Below.refl w.heap.size w).alloc (Nat.le_refl _) (fileO x)).cell (World.block_lt_of_cell? w _ h1)).trans h1
  have hb : Below w.heap.size w (w.alloc (fileO x)) := (Below.refl _ _).alloc (Nat.le_refl _) _
  go_enter Tryz.func112, Tryz.ntmps112
  go_wp2_with fail
  go_ret
  exact ⟨rfl, hb⟩
theorem clo_find1 : Clo Tryz.prog 112 := fun _ _ => by kernel_rfl
theorem listFind_any (v : Value) (l : List Fl) (p : Str) (w : World) (hl : FilesAt w v l) :
    Calls Tryz.prog 49 #[v, S p] w fun e w' => e = .returned (.int .i64 (findV l p)) ∧ Below w.heap.size w w' := by
  obtain ⟨a, c, rfl, -, -⟩ := hl.form'
  have hba : Below w.heap.size w (w.alloc (.cells #[S p] 9)) := (Below.refl _ _).alloc (Nat.le_refl _) _
  have c0 : (w.alloc (.cells #[S p] 9)).cell? ⟨w.heap.size, 0, none⟩ = some (S p) := by simp
  have Hl := Lib.hid (hl.below hba)
  go_enter Tryz.func49, Tryz.ntmps49
  go_wp2_with fail
  refine (indexFuncF_any _ _ (fun f => f.path == p) _ _ _ l _ clo_find1 ?_ Hl.out (Below.refl _ _) (Nat.le_refl _)).mono ?_
  · intro W x hx hbW hle
    exact find1_any x p _ W ((hbW.cell (World.block_lt_of_cell? _ _ c0)).trans c0)
  · rintro e w1 ⟨rfl, hb1⟩
    go_wp2_with fail
    go_ret
    exact ⟨rfl, hba.trans (hb1.mono hba.size)⟩

end Go.Proofs.YtmhchakjkgdpmaaGreatDoor
