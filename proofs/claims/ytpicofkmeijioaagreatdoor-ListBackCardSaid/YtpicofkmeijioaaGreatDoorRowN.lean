/- A row of elements of any size that the call owns: copied into, an element written, appended to within its capacity. Of no program. -/
import Derived.Test.YtpicofkmeijioaaGreatDoorOwnMore
import Derived.Laws.CopyRow
import Derived.Laws.CopyOwn
import Derived.Lib.AppendZeros
import Derived.Lib.Overlaps
namespace Go.Proofs.YtpicofkmeijioaaGreatDoor
open Go.RowKit

/-- The walk stops here. -/
theorem wpList_stop {P : Program} {w : World} {ops : Array Oper} {l : List Oper} {a : Act} {Q : Exit → Act → World → Prop} (h : wpList P ops Q l a w ∧ True) : wpList P ops Q l a w := h.1
theorem grown_setRow (w : World) (g : Nat) (cs : Array Value) : w.grownBy (w.setRow g cs) (some g) := ⟨rfl, rfl, rfl, by simp [World.setRow], fun k _ hk => setRow_other w g k cs (fun e => hk (by rw [e]))⟩
theorem run_copyN {P : Program} {dT sT e ty : TypeId} {sz bytes : Nat} (hE : ElemInfo P dT e sz bytes) {g off dLen dCap sLen sCap n : Nat} {ad : Addr} {cur : Array Value} (w : World) (hg : w.heap[g]? = some (.cells cur e (0, 0)))
    (cs : List Value) (hn : n = Nat.min sLen dLen) (hcs : cs.length = n * sz) (hsrc : ∀ j v, cs[j]? = some v → w.cell? (ad.add j) = some v) (hfit : off + cs.length ≤ cur.size) (h1 : ∀ v ∈ cs, v.oneCell' = true) :
    (Builtin.copy_ #[dT, sT] ty #[.slice (some ⟨g, off, none⟩) dLen dCap, .slice (some ad) sLen sCap]).run P w = .ok (goInt n) (w.setRow g (splice cur.toList off cs).toArray) := by
  obtain ⟨i, z, ht, hi, hz, hsize, hby, hzs, hsz⟩ := hE
  subst hn
  have h2 := run_firstCells_some (P := P) w sz (Nat.min sLen dLen) ad sLen sCap cs hcs hsrc
  have h3 := run_storeCells_at P g off e cs 0 cur w hg (by simpa using hfit) h1
  simp only [Nat.add_zero] at h3
  simp [Builtin.copy_, run_underlying ht, Go.sizeOf, typeInfo, hi, hsize, Builtin.lenOf, h2, h3, splice]

/-- The same, the world behind it a letter. -/
theorem run_copyN_ex {P : Program} {dT e : TypeId} {sz bytes : Nat} (sT : TypeId) (hE : ElemInfo P dT e sz bytes) (g off dLen dCap sLen sCap n : Nat) (ad : Addr) (cur : Array Value) (w : World) (hg : w.heap[g]? = some (.cells cur e (0, 0)))
    (cs : List Value) (hn : n = Nat.min sLen dLen) (hcs : cs.length = n * sz) (hsrc : ∀ j v, cs[j]? = some v → w.cell? (ad.add j) = some v) (hfit : off + cs.length ≤ cur.size) (h1 : ∀ v ∈ cs, v.oneCell' = true) :
    ∃ w', (∀ ty, (Builtin.copy_ #[dT, sT] ty #[.slice (some ⟨g, off, none⟩) dLen dCap, .slice (some ad) sLen sCap]).run P w = .ok (goInt n) w') ∧ Hid (w'.heap[g]? = some (.cells (splice cur.toList off cs).toArray e (0, 0))) ∧ w.grownBy w' (some g) :=
  ⟨_, fun ty => run_copyN (ty := ty) hE w hg cs hn hcs hsrc hfit h1, Lib.hid (setRow_heap w g cur _ e _ hg), grown_setRow w g _⟩
theorem wpList_copyN {P : Program} {w : World} {ops : Array Oper} {rest : List Oper} {o : Oper} {a : Act} {Q : Exit → Act → World → Prop} (hgd : o.guard = none) (d s : Operand) (dT sT : TypeId)
    (ho : o.op = .call { callee := .builtin .copy, args := #[d, s], argTypes := #[dT, sT] }) {e : TypeId} {sz bytes : Nat} (hE : ElemInfo P dT e sz bytes)
    (g off dLen dCap sLen sCap n : Nat) (ad : Addr) (hd : a.eval d = .slice (some ⟨g, off, none⟩) dLen dCap) (hs : a.eval s = .slice (some ad) sLen sCap) (cur : Array Value) (hg : w.heap[g]? = some (.cells cur e (0, 0)))
    (cs : List Value) (hn : n = Nat.min sLen dLen) (hcs : cs.length = n * sz) (hsrc : ∀ j v, cs[j]? = some v → w.cell? (ad.add j) = some v) (hfit : off + cs.length ≤ cur.size) (h1 : ∀ v ∈ cs, v.oneCell' = true)
    (h : ∀ w', Hid (w'.heap[g]? = some (.cells (splice cur.toList off cs).toArray e (0, 0))) → w.grownBy w' (some g) → wpList P ops Q rest (a.put o.dst (goInt n)) w') : wpList P ops Q (o :: rest) a w :=
  wpList_plain hgd fun _ hK => by
    have h := h _ (Lib.hid (setRow_heap w g cur (splice cur.toList off cs).toArray e _ hg)) (grown_setRow w g _)
    have hr := fun ty => run_copyN (P := P) (sT := sT) (ty := ty) (sCap := sCap) (dCap := dCap) hE w hg cs hn hcs hsrc hfit h1
    unfold Oper.wp
    simp [execOp, ho, resolve, invoke, builtin, hd, hs, hr, Result.andThen]
    exact hK _ _ h

section
variable {α : Type} {enc : α → List Value} {e : TypeId} {sz B : Nat} {w : World} {v : Value} {l : List α}

/-- The cells of the elements from k on. -/
theorem Own.from {g n cap : Nat} (hen : Enc enc sz) (h : Own enc e sz B w (.slice (some ⟨g, 0, none⟩) n cap) l) (k : Nat) : ∀ j u, ((l.drop k).flatMap enc)[j]? = some u → w.cell? ⟨g, k * sz + j, none⟩ = some u := by
  intro j u hu
  have hne : l.drop k ≠ [] := fun e => by rw [e] at hu; simp at hu
  have hpos : 0 < l.length := by
    rcases Nat.eq_zero_or_pos l.length with h0 | h0
    · rw [List.eq_nil_of_length_eq_zero h0] at hne; simp at hne
    · exact h0
  obtain ⟨g', cap', cur, hv, hB, hg, hc, hm, hs, ht⟩ := h.open hpos
  cases hv
  have hkl : k ≤ l.length := by
    rcases Nat.lt_or_ge l.length k with h0 | h0
    · rw [List.drop_eq_nil_of_le (by omega)] at hne; exact absurd rfl hne
    · exact h0
  have hsplit : l.flatMap enc = (l.take k).flatMap enc ++ (l.drop k).flatMap enc := by rw [← List.flatMap_append, List.take_append_drop]
  have hl : ((l.take k).flatMap enc).length = k * sz := by rw [flat_length hen, List.length_take, Nat.min_eq_left hkl]
  have h1 : (l.flatMap enc)[k * sz + j]? = some u := by
    rw [hsplit, List.getElem?_append_right (by omega), hl, show k * sz + j - k * sz = j by omega]; exact hu
  rw [← ht, List.getElem?_take] at h1
  split at h1
  · rw [cell_of_row w g _ cur e (0, 0) hg]; simpa using h1
  · cases h1

/-- A row set anew. -/
theorem Own.anew {g n cap m : Nat} {cs : Array Value} {l' : List α} (hen : Enc enc sz) (h : Own enc e sz B w (.slice (some ⟨g, 0, none⟩) n cap) l) (hpos : 0 < l.length) (hm' : l'.length = m) (hc : m ≤ cap) (hsz : cs.size = cap * sz) (ht : cs.toList.take (m * sz) = l'.flatMap enc) :
    Own enc e sz B (w.setRow g cs) (.slice (some ⟨g, 0, none⟩) m cap) l' := by
  obtain ⟨g', cap', cur, hv, hB, hg, hc', hm, hs, ht'⟩ := h.open hpos
  cases hv
  exact Own.mk hen hm' hB (setRow_heap w g cur cs e _ hg) hc hm hsz ht
end
theorem Own.row {α : Type} {enc : α → List Value} {e : TypeId} {sz B : Nat} {w : World} {l : List α} {g n cap : Nat} (h : Own enc e sz B w (.slice (some ⟨g, 0, none⟩) n cap) l) : ∃ cur : Array Value, B ≤ g ∧ w.heap[g]? = some (.cells cur e (0, 0)) ∧ l.length = n ∧ n ≤ cap ∧ cap ≤ maxLen ∧ cur.size = cap * sz ∧ cur.toList.take (n * sz) = l.flatMap enc := by
  obtain ⟨_, h2⟩ := h
  rcases h2 with ⟨hv, _⟩ | ⟨g', cap', cur, hv, hB, hg, hc, hm, hs, ht⟩
  · cases hv
  · cases hv
    exact ⟨cur, hB, hg, rfl, hc, hm, hs, ht⟩
theorem Own.put {α : Type} {enc : α → List Value} {e : TypeId} {sz B : Nat} {w : World} {l : List α} {g n cap : Nat} {cur : Array Value} (hen : Enc enc sz) (hn : l.length = n) (hB : B ≤ g) (hg : w.heap[g]? = some (.cells cur e (0, 0))) (hc : n ≤ cap) (hm : cap ≤ maxLen) (hs : cur.size = cap * sz) (ht : cur.toList.take (n * sz) = l.flatMap enc) : Own enc e sz B w (.slice (some ⟨g, 0, none⟩) n cap) l := Own.mk hen hn hB hg hc hm hs ht
/-- s[:k] of such a slice. -/
theorem Own.cut' {α : Type} {enc : α → List Value} {e : TypeId} {sz B : Nat} {w : World} {l : List α} {g n cap k : Nat} (hen : Enc enc sz) (h : Own enc e sz B w (.slice (some ⟨g, 0, none⟩) n cap) l) (hk : k ≤ n) : Own enc e sz B w (.slice (some ⟨g, 0, none⟩) k cap) (l.take k) := by
  obtain ⟨cur, hB, hg, hl, hc, hm, hs, ht⟩ := h.row
  refine Own.put hen (by rw [List.length_take]; omega) hB hg (by omega) hm hs ?_
  have : l.flatMap enc = (l.take k).flatMap enc ++ (l.drop k).flatMap enc := by rw [← List.flatMap_append, List.take_append_drop]
  have hl' : ((l.take k).flatMap enc).length = k * sz := by rw [flat_length hen, List.length_take, Nat.min_eq_left (by omega)]
  have h1 : (cur.toList.take (n * sz)).take (k * sz) = cur.toList.take (k * sz) := by
    rw [List.take_take, Nat.min_eq_left (Nat.mul_le_mul_right _ hk)]
  rw [← h1, ht, this, ← hl', List.take_left]

/-- clear(s[n:n+m]) behind such a slice, within its capacity. -/
theorem run_clear_behind {α : Type} {P : Program} {enc : α → List Value} {t e : TypeId} {sz bytes B : Nat} {w : World} {g n cap m : Nat} {l : List α} (hE : ElemInfo P t e sz bytes) (hen : Enc enc sz) (hz1 : ∀ z, (P.info? e).bind (·.zero) = some z → ∀ u ∈ z.cells.toList, u.oneCell' = true)
    (h : Own enc e sz B w (.slice (some ⟨g, 0, none⟩) n cap) l) (hm : n + m ≤ cap) (hm0 : 0 < m) (c : Nat) :
    ∃ cs : Array Value, (∀ ty, (Builtin.clear_ #[t] ty #[.slice (some ⟨g, n * sz, none⟩) m c]).run P w = .ok (.tuple #[]) (w.setRow g cs)) ∧ Own enc e sz B (w.setRow g cs) (.slice (some ⟨g, 0, none⟩) n cap) l := by
  obtain ⟨i, z, ht, hi, hz, hsize, hby, hzs, hsz⟩ := hE
  obtain ⟨cur, hB, hg, hl, hc, hmx, hs, ht'⟩ := h.row
  have hnz : (Builtin.zeroCells z.cells m).size = m * sz := by rw [size_zeroCells, hzs]
  have hone : ∀ u ∈ (Builtin.zeroCells z.cells m).toList, u.oneCell' = true := by
    intro u hu
    have hz' := hz1 z (by rw [hi]; exact hz)
    obtain ⟨j, hj, rfl⟩ := Array.getElem_of_mem (Array.mem_def.2 hu)
    simp only [Builtin.zeroCells, Array.getElem_map, Array.getElem_range]
    rw [getElem!_pos z.cells (j % z.cells.size) (Nat.mod_lt _ (by omega))]
    exact hz' _ (by simp)
  have hle : n * sz + m * sz ≤ cap * sz := by rw [← Nat.add_mul]; exact Nat.mul_le_mul_right _ hm
  have hrun := run_storeCells_at P g (n * sz) e (Builtin.zeroCells z.cells m).toList 0 cur w hg (by rw [Array.length_toList, hnz]; omega) hone
  simp only [Nat.add_zero] at hrun
  refine ⟨_, fun ty => ?_, Own.put (cur := (cur.toList.take (n * sz) ++ (Builtin.zeroCells z.cells m).toList ++ cur.toList.drop (n * sz + (Builtin.zeroCells z.cells m).toList.length)).toArray) hen hl hB (setRow_heap w g cur _ e _ hg) hc hmx ?_ ?_⟩
  · obtain ⟨d, rfl⟩ : ∃ d, m = d + 1 := ⟨m - 1, by omega⟩
    simp [Builtin.clear_, run_underlying ht, zeroValue, typeInfo, hi, hz, hrun]
  · simp [hnz, Array.length_toList]; omega
  · simp only [List.append_assoc]
    rw [List.take_append_of_le_length (by simp; omega), List.take_take, Nat.min_self, ht']

/-- append(s[:k], ..) within the capacity, as one step of a region that draws. -/
theorem step_fits {P : Program} {ops : Array Oper} {o : Oper} {a : Act} {w : World} {K : Act → World → Prop} {Q : Exit → Act → World → Prop} {E : Prop} (hgd : o.guard = none) (s x : Operand) (t : TypeId)
    (ho : o.op = Op.call { callee := Callee.builtin Builtin.append, args := #[s, x], argTypes := #[t, t] }) {e : TypeId} {sz bytes : Nat} (hE : ElemInfo P t e sz bytes) (base g k cap : Nat) (xs : List Value)
    (hs : a.eval s = .slice (some ⟨g, 0, none⟩) k cap) (hown : w.ownsRow base e sz (.slice (some ⟨g, 0, none⟩) k cap) k xs) (ad : Addr) (m c r : Nat) (news : List Value) (hx : a.eval x = .slice (some ad) m c) (hl : news.length = m * sz) (hnews : ∀ j u, news[j]? = some u → w.cell? (ad.add j) = some u) (h1 : ∀ u ∈ news, u.oneCell' = true) (hroom : k + m ≤ cap) (hr : k + m = r)
    (hK : ∀ w', w'.ownsRow base e sz (.slice (some ⟨g, 0, none⟩) r cap) r (xs ++ news) → w.grownBy w' (some g) → K (a.put o.dst (.slice (some ⟨g, 0, none⟩) r cap)) w') :
    if Region.wanted o (yielded ops a.tmps) = true then Oper.wp P o a w K Q else E := by
  have hw : Region.wanted o (yielded ops a.tmps) = true := by simp [Region.wanted, hgd]
  rw [if_pos hw]
  obtain ⟨i, z, ht, hi, hz, hsize, hby, hzs, hsz⟩ := hE
  subst hr
  obtain ⟨w', hrun, r1, r2⟩ := run_append_fits (P := P) w base t o.type e i sz ht hi hsize g k cap xs hown ad m c news hl hnews h1 hroom
  unfold Oper.wp
  simp [execOp, ho, resolve, invoke, builtin, hs, hx, hrun, Result.andThen]
  exact hK w' r1 r2

/-- copy into a row that the call owns, as one step of a region that draws. -/
theorem step_copyN {P : Program} {ops : Array Oper} {o : Oper} {a : Act} {w : World} {K : Act → World → Prop} {Q : Exit → Act → World → Prop} {E : Prop} (hgd : o.guard = none) (d s : Operand) (dT sT : TypeId)
    (ho : o.op = .call { callee := .builtin .copy, args := #[d, s], argTypes := #[dT, sT] }) {e : TypeId} {sz bytes : Nat} (hE : ElemInfo P dT e sz bytes)
    (g off dLen dCap sLen sCap n : Nat) (ad : Addr) (hd : a.eval d = .slice (some ⟨g, off, none⟩) dLen dCap) (hs : a.eval s = .slice (some ad) sLen sCap) (cur : Array Value) (hg : w.heap[g]? = some (.cells cur e (0, 0)))
    (cs : List Value) (hn : n = Nat.min sLen dLen) (hcs : cs.length = n * sz) (hsrc : ∀ j v, cs[j]? = some v → w.cell? (ad.add j) = some v) (hfit : off + cs.length ≤ cur.size) (h1 : ∀ v ∈ cs, v.oneCell' = true)
    (hK' : ∀ w', Hid (w'.heap[g]? = some (.cells (splice cur.toList off cs).toArray e (0, 0))) → w.grownBy w' (some g) → K (a.put o.dst (goInt n)) w') :
    if Region.wanted o (yielded ops a.tmps) = true then Oper.wp P o a w K Q else E := by
  have hK := hK' _ (Lib.hid (setRow_heap w g cur (splice cur.toList off cs).toArray e _ hg)) (grown_setRow w g _)
  have hw : Region.wanted o (yielded ops a.tmps) = true := by simp [Region.wanted, hgd]
  rw [if_pos hw]
  have hr := fun ty => run_copyN (P := P) (sT := sT) (ty := ty) (sCap := sCap) (dCap := dCap) hE w hg cs hn hcs hsrc hfit h1
  unfold Oper.wp
  simp [execOp, ho, resolve, invoke, builtin, hd, hs, hr, Result.andThen]
  exact hK

/-- append(s[:k], make([]T, m)...), s[:k] a row of the call's own, no room: a new row. -/
theorem run_app_zeros {P : Program} {t tn ty e : TypeId} {sz bytes : Nat} (w : World) (hE : ElemInfo P t e sz bytes) (kn : IntKind) (htn : P.underlying tn = some (.int kn)) (base g k cap m : Nat) (xs : List Value)
    (hown : w.ownsRow base e sz (.slice (some ⟨g, 0, none⟩) k cap) k xs) (hm : 0 < m) (hno : cap < k + m) (hbytes : (k + m) * bytes ≤ 140737488355328) (h63 : k + m ≤ 100000) :
    ∃ cap' cur, (Builtin.append_ #[t, tn] ty #[.slice (some ⟨g, 0, none⟩) k cap, .int .i64 m]).run P w = .ok (.slice (some ⟨w.heap.size, 0, none⟩) (k + m) cap') (w.drew.alloc (.cells cur e)) ∧ k + m ≤ cap' ∧ cap' ≤ maxLen ∧ cur.size = cap' * sz ∧ cur.toList.take (k * sz) = xs := by
  obtain ⟨i, z, ht, hi, hz, hsize, hby, hzs, hsz⟩ := hE
  have hge := grownCap_ge w (k + m) cap e
  have hcm : grownCap w (k + m) cap e ≤ maxLen := grownCap_le_maxLen w (k + m) cap e (by unfold maxLen; omega)
  have holds : ∀ j u, xs[j]? = some u → w.cell? ((⟨g, 0, none⟩ : Addr).add j) = some u := hown.cells (g := g) rfl
  have hf := run_firstCells_some (P := P) w.drew sz k ⟨g, 0, none⟩ k cap xs hown.1 (by simpa using holds)
  have h48 := growslice_fits (need := k + m) (old := cap) (bytes := bytes) (by omega) hbytes
  have hn : m ≠ 0 := by omega
  have hw : IntKind.i64.wrap (m : Int) = m := by rw [IntKind.wrap_i64]; omega
  have hneg : ¬ ((m : Int) < 0) := by omega
  have h48i : ¬ (281474976710656 < (m : Int) * (i.bytes : Int)) := by
    rw [← Int.natCast_mul, hby]
    have : m * bytes ≤ (k + m) * bytes := Nat.mul_le_mul_right _ (by omega)
    omega
  have hns : ¬ (m * sz = 0) := Nat.mul_ne_zero hn (by omega)
  have hno' : ¬ (k + m ≤ cap) := by omega
  have h63' : ¬ (9223372036854775807 < ((k : Int) + (m : Int))) := by omega
  have h48' : ¬ (281474976710656 < Builtin.nextslicecap (k + m) cap * i.bytes) := by rw [hby]; omega
  refine ⟨grownCap w (k + m) cap e, xs.toArray ++ Builtin.zeroCells z.cells m ++ Builtin.zeroCells z.cells (grownCap w (k + m) cap e - (k + m)), ?_, hge, hcm, ?_, ?_⟩
  · simp [Builtin.append_, run_underlying ht, run_underlying htn, Go.sizeOf, typeInfo, zeroValue, hi, hz, hsize, asInt, asIntOf, hw, hneg, hns, h63', h48', h48i, hno', Question.forced, hf, newRow, grownCap]
  · simp only [Array.size_append, List.size_toArray, size_zeroCells, hzs, hown.1, ← Nat.add_mul]
    congr 1
    omega
  · simp only [Array.toList_append, List.append_assoc]
    rw [← hown.1]
    exact List.take_left
theorem wpList_app_zeros {P : Program} {w : World} {ops : Array Oper} {rest : List Oper} {o : Oper} {a : Act} {Q : Exit → Act → World → Prop} (hgd : o.guard = none) (s x : Operand) (t tn : TypeId)
    (ho : o.op = .call { callee := .builtin .append, args := #[s, x], argTypes := #[t, tn] }) {e : TypeId} {sz bytes : Nat} (hE : ElemInfo P t e sz bytes) (kn : IntKind) (htn : P.underlying tn = some (.int kn)) (base g k cap m : Nat) (xs : List Value) (M : Int) (hM : M = m)
    (hs : a.eval s = .slice (some ⟨g, 0, none⟩) k cap) (hx : a.eval x = .int .i64 M) (hown : w.ownsRow base e sz (.slice (some ⟨g, 0, none⟩) k cap) k xs) (hm : 0 < m) (hno : cap < k + m) (hbytes : (k + m) * bytes ≤ 140737488355328) (h63 : k + m ≤ 100000) (r : Nat) (hr : k + m = r)
    (h : ∀ cap' cur, r ≤ cap' → cap' ≤ maxLen → cur.size = cap' * sz → cur.toList.take (k * sz) = xs → ∀ w', Hid (w'.heap[w.heap.size]? = some (.cells cur e (0, 0))) → w.grownBy w' none → w.heap.size < w'.heap.size → wpList P ops Q rest (a.put o.dst (.slice (some ⟨w.heap.size, 0, none⟩) r cap')) w') : wpList P ops Q (o :: rest) a w :=
  wpList_plain hgd fun _ hK => by
    subst hM hr
    obtain ⟨cap', cur, hrun, h1, h2, h3, h4⟩ := run_app_zeros (P := P) (t := t) (tn := tn) (ty := o.type) w hE kn htn base g k cap m xs hown hm hno hbytes h63
    unfold Oper.wp execOp
    simp only [ho, resolve, invoke, builtin, Sem.run_bind, Sem.run_pure, Result.andThen_ok, List.map_toArray, List.map_cons, List.map_nil, hs, hx, hrun]
    exact hK _ _ (h cap' cur h1 h2 h3 h4 _ (Lib.hid (heap_alloc_new w.drew _)) ⟨rfl, rfl, rfl, by simp, fun k hk _ => heap_alloc_old w.drew _ hk⟩ (by simp))
theorem splice_len {α : Type} (L : List α) (off : Nat) (cs : List α) (h : off + cs.length ≤ L.length) : (splice L off cs).length = L.length := length_splice L off cs h
/-- A row's beginning kept, then new cells, then more. -/
theorem splice_new {α : Type} {cur p q r : List α} (hp : cur.take p.length = p) : (splice (splice cur p.length q) (p.length + q.length) r).take (p.length + q.length + r.length) = p ++ q ++ r := by
  have h1 : splice cur p.length q = p ++ q ++ cur.drop (p.length + q.length) := by unfold splice; rw [hp, List.append_assoc]
  rw [h1]
  unfold splice
  rw [List.take_left' (l₁ := p ++ q) (by simp), ← List.append_assoc, List.take_left' (l₁ := p ++ q ++ r) (by simp; omega)]
theorem splice_shift {α : Type} {cur p q r : List α} (hp : cur.take p.length = p) (hl : p.length + q.length + r.length ≤ cur.length) : (splice (splice cur (p.length + q.length) r) p.length q).take (p.length + q.length + r.length) = p ++ q ++ r := by
  have h1 : (splice cur (p.length + q.length) r).take p.length = p := by
    unfold splice
    rw [List.take_append_of_le_length (by simp; omega), List.take_take, Nat.min_eq_left (by omega), hp]
  have h2 : (splice cur (p.length + q.length) r).drop (p.length + q.length) = r ++ cur.drop (p.length + q.length + r.length) := by
    unfold splice
    rw [List.drop_left' (by simp; omega)]
  generalize splice cur (p.length + q.length) r = c at *
  unfold splice
  rw [h1, h2, ← List.append_assoc, ← List.append_assoc, List.take_left' (by simp; omega)]
section
variable {α : Type} {enc : α → List Value} {e : TypeId} {sz B g cap : Nat} {cur : Array Value} {l : List α} {f : α} {k : Nat}
theorem ins_flat (hen : Enc enc sz) (hk : k ≤ l.length) : ((l.take k).flatMap enc).length = k * sz ∧ (enc f).length = sz ∧ ((l.drop k).flatMap enc).length = (l.length - k) * sz ∧ (l.take k ++ f :: l.drop k).length = l.length + 1 ∧ (l.take k ++ f :: l.drop k).flatMap enc = (l.take k).flatMap enc ++ enc f ++ (l.drop k).flatMap enc ∧ k * sz + sz + (l.length - k) * sz = (l.length + 1) * sz := by
  refine ⟨by rw [flat_length hen, List.length_take, Nat.min_eq_left hk], (hen f).1, by rw [flat_length hen, List.length_drop], by rw [List.length_append, List.length_cons, List.length_take, List.length_drop]; omega, by simp, ?_⟩
  obtain ⟨d, hd⟩ : ∃ d, l.length = k + d := ⟨l.length - k, by omega⟩
  rw [hd, show k + d - k = d by omega, Nat.add_mul, Nat.add_mul]
  omega
/-- A row in which one more element was put: written anew. -/
theorem own_insNew (hen : Enc enc sz) (hB : B ≤ g) (hk : k ≤ l.length) (hc : l.length + 1 ≤ cap) (hm : cap ≤ maxLen) (hs : cur.size = cap * sz) (hp : cur.toList.take (k * sz) = (l.take k).flatMap enc) (w : World) (hg : w.heap[g]? = some (.cells (splice (splice cur.toList (k * sz) (enc f)) ((k + 1) * sz) ((l.drop k).flatMap enc)).toArray e (0, 0))) :
    Own enc e sz B w (.slice (some ⟨g, 0, none⟩) (l.length + 1) cap) (l.take k ++ f :: l.drop k) := by
  obtain ⟨h1, h2, h3, h4, h5, h6⟩ := ins_flat (f := f) hen hk
  have hle : (l.length + 1) * sz ≤ cap * sz := Nat.mul_le_mul_right _ hc
  have hsp := splice_new (cur := cur.toList) (p := (l.take k).flatMap enc) (q := enc f) (r := (l.drop k).flatMap enc) (by rw [h1]; exact hp)
  rw [h1, h2, h3, h6, ← h5, show k * sz + sz = (k + 1) * sz by rw [Nat.add_mul]; omega] at hsp
  refine Own.put hen h4 hB hg hc hm ?_ hsp
  have a1 : k * sz + (enc f).length ≤ cur.toList.length := by rw [h2, Array.length_toList (xs := cur), hs]; omega
  have a2 := length_splice cur.toList (k * sz) (enc f) a1
  rw [List.size_toArray, length_splice, a2, Array.length_toList (xs := cur), hs]
  rw [a2, h3, Array.length_toList (xs := cur), hs, Nat.add_mul]; omega
/-- A row in which one more element was put: shifted. -/
theorem own_insShift (hen : Enc enc sz) (hB : B ≤ g) (hk : k ≤ l.length) (hc : l.length + 1 ≤ cap) (hm : cap ≤ maxLen) (hs : cur.size = cap * sz) (hp : cur.toList.take (k * sz) = (l.take k).flatMap enc) (w : World) (hg : w.heap[g]? = some (.cells (splice (splice cur.toList ((k + 1) * sz) ((l.drop k).flatMap enc)) (k * sz) (enc f)).toArray e (0, 0))) :
    Own enc e sz B w (.slice (some ⟨g, 0, none⟩) (l.length + 1) cap) (l.take k ++ f :: l.drop k) := by
  obtain ⟨h1, h2, h3, h4, h5, h6⟩ := ins_flat (f := f) hen hk
  have hle : (l.length + 1) * sz ≤ cap * sz := Nat.mul_le_mul_right _ hc
  have hsp := splice_shift (cur := cur.toList) (p := (l.take k).flatMap enc) (q := enc f) (r := (l.drop k).flatMap enc) (by rw [h1]; exact hp) (by rw [h1, h2, h3, h6, Array.length_toList (xs := cur), hs]; exact hle)
  rw [h1, h2, h3, h6, ← h5, show k * sz + sz = (k + 1) * sz by rw [Nat.add_mul]; omega] at hsp
  refine Own.put hen h4 hB hg hc hm ?_ hsp
  have a1 : (k + 1) * sz + ((l.drop k).flatMap enc).length ≤ cur.toList.length := by rw [h3, Array.length_toList (xs := cur), hs, Nat.add_mul]; omega
  have a2 := length_splice cur.toList ((k + 1) * sz) ((l.drop k).flatMap enc) a1
  rw [List.size_toArray, length_splice, a2, Array.length_toList (xs := cur), hs]
  rw [a2, h2, Array.length_toList (xs := cur), hs]; omega
end
end Go.Proofs.YtpicofkmeijioaaGreatDoor
