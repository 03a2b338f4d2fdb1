/- append, whatever is appended (an empty slice or nil, too), to a slice that the call owns: one law for the walks. Of no program. -/
import Derived.Test.YtpicofkmeijioaaGreatDoorMem
import Derived.Maps.AppendAt
import Derived.Deep.AppendSrc
import Derived.OwnWalk
namespace Go.Proofs.YtpicofkmeijioaaGreatDoor
open Go.RowKit

/-- What a slice's element is: the row of the program's table. -/
def ElemInfo (P : Program) (t e : TypeId) (size bytes : Nat) : Prop :=
  ∃ i z, P.underlying t = some (.slice e) ∧ P.info? e = some i ∧ i.zero = some z ∧ i.size = size ∧ i.bytes = bytes ∧ z.cells.size = size ∧ 0 < size

theorem elemInfo_of {P : Program} {t e : TypeId} {z : Value} {size bytes : Nat} (ht : P.underlying t = some (.slice e)) (h : (P.info? e).map (fun i => (i.zero, i.size, i.bytes)) = some (some z, size, bytes)) (hz : z.cells.size = size) (hs : 0 < size) : ElemInfo P t e size bytes := by
  obtain ⟨i, hi, h0, h1, h2⟩ := info_parts h
  exact ⟨i, z, ht, hi, h0, h1, h2, hz, hs⟩

theorem ElemInfo.sizeOf {P : Program} {t e : TypeId} {size bytes : Nat} (h : ElemInfo P t e size bytes) (w : World) : (Go.sizeOf e).run P w = .ok size w := by
  obtain ⟨i, z, _, hi, _, h1, _⟩ := h
  simp [Go.sizeOf, typeInfo, hi, h1]

/-- The value x is a slice of m elements of size cells each, that are these. -/
def SrcAt (w : World) (size : Nat) (x : Value) (m : Nat) (news : List Value) : Prop :=
  ∃ a c, x = .slice a m c ∧ news.length = m * size ∧ (∀ u ∈ news, u.oneCell' = true) ∧ (0 < m → ∃ b o, a = some ⟨b, o, none⟩ ∧ ∀ j u, news[j]? = some u → w.cell? ⟨b, o + j, none⟩ = some u)

theorem add_lit (b o j : Nat) : (⟨b, o, none⟩ : Addr).add j = ⟨b, o + j, none⟩ := by
  unfold Addr.add; split <;> simp_all

theorem run_app {P : Program} (w : World) (base : Nat) (t ty e : TypeId) (size bytes : Nat) (hE : ElemInfo P t e size bytes) (v : Value) (n : Nat) (xs : List Value) (hown : w.ownsRow base e size v n xs)
    (x : Value) (m : Nat) (news : List Value) (hx : SrcAt w size x m news) (h63 : n + m ≤ maxLen) (hbytes : (n + m) * bytes ≤ 140737488355328) (hbase : base ≤ w.heap.size) :
    ∃ v' w', (Builtin.append_ #[t, t] ty #[v, x]).run P w = .ok v' w' ∧ w'.ownsRow base e size v' (n + m) (xs ++ news) ∧ w.grownBy w' v.ownBlock ∧ (v'.ownBlock = v.ownBlock ∨ v'.ownBlock = some w.heap.size) := by
  obtain ⟨i, z, ht, hi, hz, hsize, hby, hzs, hsz⟩ := hE
  obtain ⟨a, c, rfl, hl, h1, hc⟩ := hx
  cases a with
  | some ad =>
    have hnews : ∀ j u, news[j]? = some u → w.cell? (ad.add j) = some u := by
      intro j u hu
      rcases Nat.eq_zero_or_pos m with rfl | hm
      · rw [List.getElem?_eq_none (by omega)] at hu; cases hu
      · obtain ⟨b, o, e1, hcell⟩ := hc hm
        cases e1
        rw [add_lit]; exact hcell j u hu
    obtain ⟨v', w', h2, h3, h4, _, h5⟩ := run_append_own_at w base t ty e i z size bytes ht hi hz hsize hby hzs hsz v n xs hown ad m c news hl hnews h1 h63 hbytes hbase
    exact ⟨v', w', h2, h3, h4, h5⟩
  | none =>
    obtain rfl : m = 0 := by
      rcases Nat.eq_zero_or_pos m with h | h
      · exact h
      · obtain ⟨b, o, e1, _⟩ := hc h; cases e1
    obtain rfl : news = [] := by
      cases news with
      | nil => rfl
      | cons y r => simp at hl
    refine ⟨v, w, ?_, by simpa using hown, ⟨rfl, rfl, rfl, Nat.le_refl _, fun _ _ _ => rfl⟩, .inl rfl⟩
    have hf := run_firstCells_none (P := P) w size 0 0 c
    rcases hown.2 with ⟨rfl, rfl⟩ | ⟨g, cap, cur, rfl, _, _, hle, _⟩
    · simp [Builtin.append_, run_underlying ht, Go.sizeOf, typeInfo, hi, hsize, Builtin.lenOf, hf]
    · simp [Builtin.append_, run_underlying ht, Go.sizeOf, typeInfo, hi, hsize, Builtin.lenOf, hf, hle, storeCells]

theorem wpList_app {P : Program} {w : World} {ops : Array Oper} {rest : List Oper} {o : Oper} {a : Act} {Q : Exit → Act → World → Prop} (hgd : o.guard = none) (s x : Operand) (t : TypeId)
    (ho : o.op = .call { callee := .builtin .append, args := #[s, x], argTypes := #[t, t] }) (base : Nat) {e : TypeId} {size bytes : Nat} (hE : ElemInfo P t e size bytes)
    (v : Value) (n : Nat) (xs : List Value) (hs : a.eval s = v) (hown : w.ownsRow base e size v n xs) (xv : Value) (m : Nat) (news : List Value) (hx : a.eval x = xv) (hsrc : SrcAt w size xv m news)
    (h63 : n + m ≤ maxLen) (hbytes : (n + m) * bytes ≤ 140737488355328) (hbase : base ≤ w.heap.size)
    (h : ∀ v' w', w'.ownsRow base e size v' (n + m) (xs ++ news) → w.grownBy w' v.ownBlock → (v'.ownBlock = v.ownBlock ∨ v'.ownBlock = some w.heap.size) → wpList P ops Q rest (a.put o.dst v') w') : wpList P ops Q (o :: rest) a w :=
  wpList_plain hgd fun _ hK => by
    obtain ⟨v', w', hr, h2, h3, h4⟩ := run_app (P := P) w base t o.type e size bytes hE v n xs hown xv m news hsrc h63 hbytes hbase
    unfold Oper.wp execOp
    simp only [ho, resolve, invoke, builtin, Sem.run_bind, Sem.run_pure, Result.andThen_ok, List.map_toArray, List.map_cons, List.map_nil, hs, hx, hr]
    exact hK _ _ (h v' w' h2 h3 h4)

/-- The value v is a slice in a row that the call owns from block B on. -/
def Own {α : Type} (enc : α → List Value) (e : TypeId) (sz B : Nat) (w : World) (v : Value) (l : List α) : Prop := w.ownsRow B e sz v l.length (l.flatMap enc)

/-- Each element takes sz cells, none of them an aggregate. -/
def Enc {α : Type} (enc : α → List Value) (sz : Nat) : Prop := ∀ x, (enc x).length = sz ∧ ∀ u ∈ enc x, u.oneCell' = true

theorem encI_enc : Enc encI 1 := fun x => ⟨rfl, by simp [Value.oneCell']⟩
theorem encS_enc : Enc encS 1 := fun x => ⟨rfl, by simp [Value.oneCell']⟩

theorem flat_length {α : Type} {enc : α → List Value} {sz : Nat} (h : Enc enc sz) (l : List α) : (l.flatMap enc).length = l.length * sz := by
  induction l with
  | nil => simp
  | cons x r ih => simp [List.flatMap_cons, ih, (h x).1, Nat.add_mul]; omega

theorem flat_get {α : Type} {enc : α → List Value} {sz : Nat} (h : Enc enc sz) : ∀ (l : List α) (k : Nat) (x : α), l[k]? = some x → ∀ j u, (enc x)[j]? = some u → (l.flatMap enc)[k * sz + j]? = some u
  | [], k, x, hk, _, _, _ => by simp at hk
  | y :: r, 0, x, hk, j, u, hu => by
    obtain rfl : y = x := by simpa using hk
    rw [List.flatMap_cons, Nat.zero_mul, Nat.zero_add, List.getElem?_append_left]
    · exact hu
    · rcases Nat.lt_or_ge j (enc y).length with h' | h'
      · exact h'
      · rw [List.getElem?_eq_none h'] at hu; cases hu
  | y :: r, k + 1, x, hk, j, u, hu => by
    have ih := flat_get h r k x (by simpa using hk) j u hu
    rw [List.flatMap_cons, List.getElem?_append_right (by rw [(h y).1, Nat.add_mul]; omega), (h y).1, show (k + 1) * sz + j - sz = k * sz + j by rw [Nat.add_mul]; omega]
    exact ih

/-- The other way: whatever stands in the flat list is a cell of some element. -/
theorem flat_get_inv {α : Type} {enc : α → List Value} {sz : Nat} (h : Enc enc sz) (hz : 0 < sz) : ∀ (l : List α) (i : Nat) (u : Value), (l.flatMap enc)[i]? = some u → ∃ x, l[i / sz]? = some x ∧ (enc x)[i % sz]? = some u
  | [], i, u, hu => by simp at hu
  | y :: r, i, u, hu => by
    rw [List.flatMap_cons] at hu
    rcases Nat.lt_or_ge i sz with h' | h'
    · rw [List.getElem?_append_left (by rw [(h y).1]; exact h')] at hu
      exact ⟨y, by simp [Nat.div_eq_of_lt h'], by rw [Nat.mod_eq_of_lt h']; exact hu⟩
    · rw [List.getElem?_append_right (by rw [(h y).1]; exact h'), (h y).1] at hu
      obtain ⟨x, h1, h2⟩ := flat_get_inv h hz r (i - sz) u hu
      obtain ⟨d, rfl⟩ : ∃ d, i = d + sz := ⟨i - sz, by omega⟩
      refine ⟨x, ?_, ?_⟩
      · rw [Nat.add_div_right _ hz]; simpa using h1
      · rw [Nat.add_mod_right]; simpa using h2

theorem Own.nil {α : Type} (enc : α → List Value) (e : TypeId) (sz B : Nat) (w : World) : Own enc e sz B w (.slice none 0 0) [] := World.ownsRow_nil w B e sz

theorem Own.at {α : Type} {enc : α → List Value} {e : TypeId} {sz B : Nat} {w : World} {v : Value} {l : List α} (hen : Enc enc sz) (h : Own enc e sz B w v l) : At enc sz w v l := by
  obtain ⟨hl, h2⟩ := h
  rcases h2 with ⟨rfl, h0⟩ | ⟨g, cap, cur, rfl, hb, hg, hn, hcm, hcs, htake⟩
  · have : l = [] := List.eq_nil_of_length_eq_zero h0
    subst this
    exact At.nil enc sz w
  · refine ⟨_, cap, g, 0, rfl, fun _ => rfl, hn, hcm, fun k x hk j u hu => ?_⟩
    have h1 := flat_get hen l k x hk j u hu
    rw [cell_of_row w g _ cur e (0, 0) hg]
    rw [← htake, List.getElem?_take] at h1
    split at h1
    · simpa using h1
    · cases h1

theorem At.src {α : Type} {enc : α → List Value} {sz : Nat} {w : World} {v : Value} {l : List α} (hen : Enc enc sz) (hz : 0 < sz) (h : At enc sz w v l) : SrcAt w sz v l.length (l.flatMap enc) := by
  obtain ⟨a, c, b, o, rfl, ha, hc, hcm, hx⟩ := h
  refine ⟨a, c, rfl, flat_length hen l, ?_, fun hm => ⟨b, o, ha hm, fun j u hu => ?_⟩⟩
  · intro u hu
    obtain ⟨x, _, hux⟩ := List.mem_flatMap.1 hu
    exact (hen x).2 u hux
  · obtain ⟨x, h1, h2⟩ := flat_get_inv hen hz l j u hu
    have := hx _ x h1 _ u h2
    rwa [show o + j / sz * sz + j % sz = o + j by have := Nat.div_add_mod j sz; rw [Nat.mul_comm] at this; omega] at this

/-- One element in a new block of its own, as the translation lays what is appended. -/
theorem src_one {w : World} {sz : Nat} {cs : List Value} {t : TypeId} {H : Nat} (hH : w.heap.size = H) (hl : cs.length = sz) (h1 : ∀ u ∈ cs, u.oneCell' = true) : SrcAt (w.alloc (.cells cs.toArray t)) sz (.slice (some ⟨H, 0, none⟩) 1 1) 1 cs := by
  subst hH
  refine ⟨_, 1, rfl, by omega, h1, fun _ => ⟨w.heap.size, 0, rfl, fun j u hu => ?_⟩⟩
  rw [cell_of_row (w.alloc _) w.heap.size _ cs.toArray t (0, 0) (heap_alloc_new w _)]
  simpa using hu

theorem Own.alloc {α : Type} {enc : α → List Value} {e : TypeId} {sz B : Nat} {w : World} {v : Value} {l : List α} (h : Own enc e sz B w v l) (o : Obj) : Own enc e sz B (w.alloc o) v l := World.ownsRow.alloc h o
theorem Own.drewN {α : Type} {enc : α → List Value} {e : TypeId} {sz B : Nat} {w : World} {v : Value} {l : List α} (h : Own enc e sz B w v l) (n : Nat) : Own enc e sz B (w.drewN n) v l := h
theorem Own.below {α : Type} {enc : α → List Value} {e : TypeId} {sz B : Nat} {w w' : World} {v : Value} {l : List α} (h : Own enc e sz B w v l) (hb : Below w.heap.size w w') : Own enc e sz B w' v l :=
  World.ownsRow.kept h (row := none) ⟨hb.os, hb.tape, hb.output, hb.size, fun k hk _ => hb.block k hk⟩ (by cases v.ownBlock <;> simp)
theorem Own.snoc {α : Type} {enc : α → List Value} {e : TypeId} {sz B : Nat} {w : World} {v : Value} {l : List α} {x : α} (h : w.ownsRow B e sz v (l.length + 1) (l.flatMap enc ++ enc x)) : Own enc e sz B w v (l ++ [x]) := by
  unfold Own; simpa using h
theorem Own.app {α : Type} {enc : α → List Value} {e : TypeId} {sz B : Nat} {w : World} {v : Value} {l m : List α} (h : w.ownsRow B e sz v (l.length + m.length) (l.flatMap enc ++ m.flatMap enc)) : Own enc e sz B w v (l ++ m) := by
  unfold Own; simpa using h
/-- Behind an append to a row of the call's own. -/
theorem Bapp {α : Type} {enc : α → List Value} {e : TypeId} {sz B B' : Nat} {a w w' : World} {v : Value} {l : List α} (h : Below B a w) (ho : Own enc e sz B' w v l) (hg : w.grownBy w' v.ownBlock) (hB : B ≤ B') (hs : B ≤ w.heap.size) : Below B a w' :=
  h.grown hg hs (fun k hk => Nat.le_trans hB (World.ownsRow.lt ho k hk).1)
end Go.Proofs.YtpicofkmeijioaaGreatDoor
