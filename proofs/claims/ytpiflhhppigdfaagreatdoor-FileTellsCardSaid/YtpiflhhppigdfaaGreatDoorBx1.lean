/- How slices of plain data lie in memory: words, and the laws by which the walks read them. Of no program. Package store in plain words: objects by names, rising; a map's datum of them. Of no program. Rising lists of texts without doubles: a text more; sorted and compacted. Of no program. errors.As at the target **api.Fault, and errors.Is at a sentinel, by contracts over this seat's program. Turned from the worked texts ToyasAs and SentryIs. errors.As and errors.Is: the contracts at what this program hands them: nil, a sentinel, a Fault around a sentinel. The program's sentinel errors in memory, and the contract of plain.Code: the number and the place of nil, of a sentinel, of a Fault around a sentinel, and of another error of errors.New's make. -/
import Derived.WalkKit
import Derived.WalkSpells
import Derived.WalkLawsBesides
import Derived.Lib.Hide
import Derived.Deep.QuietTactic
import Derived.BigQuiet
import Derived.LoopTactic
import Derived.Maps.OwnSet
import Derived.Maps.Ext
import Derived.Sort.KeysCollected
import Derived.Lib.SlicesCompact
import Derived.Test.YtpiflhhppigdfaaGreatDoorProg
import Derived.LaidEql
import Derived.Stop.Asserts
import Derived.RowKitTokens
import Derived.Stop.IfaceNil
import Derived.Outline
namespace Go.Proofs.YtpiflhhppigdfaaGreatDoor
open Go.RowKit

/-- The value v is a slice of l.length elements, each of sz cells, that read as enc says. -/
def At {α : Type} (enc : α → List Value) (sz : Nat) (w : World) (v : Value) (l : List α) : Prop :=
  ∃ a c b o, v = .slice a l.length c ∧ (0 < l.length → a = some ⟨b, o, none⟩) ∧ l.length ≤ c ∧ c ≤ maxLen ∧ ∀ k x, l[k]? = some x → ∀ j u, (enc x)[j]? = some u → w.cell? ⟨b, o + k * sz + j, none⟩ = some u

theorem At.nil {α : Type} (enc : α → List Value) (sz : Nat) (w : World) : At enc sz w (.slice none 0 0) [] :=
  ⟨none, 0, 0, 0, rfl, fun h => absurd h (by simp), Nat.le_refl _, by decide, fun k x h => by simp at h⟩

theorem At.below {α : Type} {enc : α → List Value} {sz : Nat} {w w' : World} {v : Value} {l : List α} (h : At enc sz w v l) (hb : Below w.heap.size w w') : At enc sz w' v l := by
  obtain ⟨a, c, b, o, hv, ha, hc, hm, hx⟩ := h
  refine ⟨a, c, b, o, hv, ha, hc, hm, fun k x hk j u hu => ?_⟩
  have h1 := hx k x hk j u hu
  exact (hb.cell (World.block_lt_of_cell? w _ h1)).trans h1

/-- Cells of one cell an element. -/
abbrev encI (n : Int) : List Value := [.int .i64 n]
abbrev Str := List UInt8
abbrev S (s : Str) : Value := .string ⟨s.toArray⟩
abbrev encS (s : Str) : List Value := [.string ⟨s.toArray⟩]
abbrev IntsAt (w : World) (v : Value) (l : List Int) : Prop := At encI 1 w v l
abbrev StrsAt (w : World) (v : Value) (l : List Str) : Prop := At encS 1 w v l

/-- The address of an element, in the walk's own form. -/
theorem idx_at {P : Program} {t e : TypeId} {a : Option Addr} {n c b o : Nat} (sz : Nat) (ht : P.underlying t = some (.slice e)) (hs : ∀ w, (sizeOf e).run P w = .ok sz w) (ha : 0 < n → a = some ⟨b, o, none⟩)
    (k : Nat) (hk : k < n) (w : World) : (Instr.indexAt t (.slice a n c) (.int .i64 (k : Int))).run P w = .ok (.pointer (some ⟨b, o + k * sz, none⟩)) w := by
  obtain rfl := ha (by omega)
  simp only [Instr.indexAt, asIntOf]
  have hadd : (⟨b, o, none⟩ : Addr).add (k * sz) = ⟨b, o + k * sz, none⟩ := by
    unfold Addr.add; split <;> simp_all
  simp [run_underlying ht, hs, hadd]
  intro h; omega

theorem Bdn {B : Nat} {a w : World} (h : Below B a w) (n : Nat) : Below B a (w.drewN n) := ⟨h.os, h.tape, h.output, h.size, h.block⟩
theorem bapp (a b : Str) : (⟨a.toArray⟩ : ByteArray) ++ ⟨b.toArray⟩ = ⟨(a ++ b).toArray⟩ := by
  apply ByteArray.ext
  simp
theorem get_ex {α : Type} {l : List α} {k : Nat} (h : k < l.length) : ∃ x, l[k]? = some x := ⟨l[k], by simp [h]⟩
end Go.Proofs.YtpiflhhppigdfaaGreatDoor
namespace Go.Proofs.YtpiflhhppigdfaaGreatDoor
open Go.RowKit Go.Maps Go.Sort

/-- An object: its name, its text, its day. -/
structure Ob where
  name : Str
  text : Str
  day : Int
  deriving DecidableEq

abbrev bef (a b : Str) : Bool := bytesBefore a b

/-- What a map of objects reads as. -/
abbrev obT (t : Str) (d : Int) : DataW Unit := .agg [.lit (.string t), .lit (.int .i64 d)]
abbrev obD (o : Ob) : Lit × DataW Unit := (.string o.name, obT o.text o.day)
def mapD (l : List Ob) : DataW Unit := .map (l.map obD)

def getO (l : List Ob) (n : Str) : Option Ob := l.find? (fun o => o.name == n)
def putO (x : Ob) : List Ob → List Ob
  | [] => [x]
  | a :: r => if bef x.name a.name then x :: a :: r else a :: putO x r
def dropO (l : List Ob) (n : Str) : List Ob := l.filter (fun o => !(o.name == n))
def Rising (l : List Ob) : Prop := l.Pairwise (fun a b => bef a.name b.name = true)
def total (l : List Ob) : Nat := (l.map (·.text.length)).sum

theorem mapD_nil : mapD [] = .map [] := rfl
theorem has_mapD (l : List Ob) (n : Str) : has (mapD l) (.string n) = (getO l n).isSome := by
  unfold mapD getO
  rw [has_eq]
  induction l with
  | nil => rfl
  | cons a r ih =>
    rw [List.map_cons, List.any_cons, ih, List.find?_cons]
    cases h : a.name == n with
    | true => simp [Lit.sameKey, h]
    | false => simp [Lit.sameKey, h]
theorem atKey_map (es : List (Lit × DataW Unit)) (k : Lit) (z : DataW Unit) : (DataW.map es).atKey k z = ((es.find? (fun p => p.1.sameKey k)).map (·.2)).getD z := by
  unfold DataW.atKey
  simp only
  cases es.find? (fun p => p.1.sameKey k) <;> rfl
theorem at_mapD (l : List Ob) (n : Str) (z : DataW Unit) : (mapD l).atKey (.string n) z = ((getO l n).map fun o => obT o.text o.day).getD z := by
  unfold mapD
  rw [atKey_map]
  unfold getO
  congr 1
  induction l with
  | nil => rfl
  | cons a r ih =>
    rw [List.map_cons, List.find?_cons, List.find?_cons]
    have : (obD a).1.sameKey (.string n) = (a.name == n) := rfl
    rw [this]
    cases h : a.name == n with
    | true => rfl
    | false => exact ih
theorem size_mapD (l : List Ob) : size (mapD l) = l.length := by unfold mapD; rw [size_eq, List.length_map]
theorem keys_mapD (l : List Ob) : strKeys (mapD l) = l.map (·.name) := by
  unfold mapD strKeys
  simp [strOf]
theorem insert_mapD (x : Ob) : ∀ l : List Ob, DataW.insert (obD x) (l.map obD) = (putO x l).map obD
  | [] => rfl
  | a :: r => by
    rw [List.map_cons, DataW.insert, putO]
    have : (obD x).1.before (obD a).1 = bef x.name a.name := rfl
    rw [this]
    cases bef x.name a.name with
    | true => rfl
    | false => simp only [Bool.false_eq_true, if_false, List.map_cons]; rw [insert_mapD x r]
theorem getO_none {l : List Ob} {n : Str} : getO l n = none ↔ ∀ o ∈ l, o.name ≠ n := by
  unfold getO; rw [List.find?_eq_none]; simp
theorem put_mapD {l : List Ob} {x : Ob} (h : getO l x.name = none) : (mapD l).put (.string x.name) (obT x.text x.day) = mapD (putO x l) := by
  unfold mapD DataW.put
  have : (l.map obD).filter (fun p => !p.1.sameKey (.string x.name)) = l.map obD := by
    rw [List.filter_eq_self]
    intro p hp
    obtain ⟨o, ho, rfl⟩ := List.mem_map.1 hp
    have := getO_none.1 h o ho
    simpa [obD, Lit.sameKey] using this
  simp only [this]
  exact congrArg DataW.map (insert_mapD x l)
theorem del_mapD (l : List Ob) (n : Str) : (mapD l).del (.string n) = mapD (dropO l n) := by
  unfold mapD DataW.del dropO
  simp only
  rw [List.filter_map]
  rfl

theorem putO_perm (x : Ob) : ∀ l : List Ob, (putO x l).Perm (x :: l)
  | [] => .refl _
  | a :: r => by
    unfold putO
    split
    · exact .refl _
    · exact ((putO_perm x r).cons a).trans (.swap _ _ _)
theorem putO_length (x : Ob) (l : List Ob) : (putO x l).length = l.length + 1 := by rw [(putO_perm x l).length_eq]; rfl
theorem mem_putO {x o : Ob} {l : List Ob} : o ∈ putO x l ↔ o = x ∨ o ∈ l := by rw [(putO_perm x l).mem_iff, List.mem_cons]
theorem total_putO (x : Ob) (l : List Ob) : total (putO x l) = total l + x.text.length := by
  unfold total
  rw [((putO_perm x l).map _).sum_nat, List.map_cons, List.sum_cons]; omega
theorem bef_irr (a : Str) : bef a a = false := WideAt.bytes_irrefl a
theorem bef_tri {a b : Str} (h : a ≠ b) (h2 : bef a b = false) : bef b a = true := by
  rcases WideAt.bytes_total a b h with h' | h'
  · have h2 : bytesBefore a b = false := h2
    rw [h2] at h'; cases h'
  · exact h'
theorem bef_trans {a b c : Str} (h : bef a b = true) (h2 : bef b c = true) : bef a c = true := WideShapes.bytes_trans a b c h h2
theorem putO_rising {x : Ob} : ∀ {l : List Ob}, Rising l → getO l x.name = none → Rising (putO x l)
  | [], _, _ => by simp [putO, Rising]
  | a :: r, h, hn => by
    have hn' := getO_none.1 hn
    have hr : Rising r := (List.pairwise_cons.1 h).2
    have ha := (List.pairwise_cons.1 h).1
    unfold putO
    split
    · rename_i hb
      exact List.pairwise_cons.2 ⟨fun o ho => by
        rcases List.mem_cons.1 ho with rfl | ho
        · exact hb
        · exact bef_trans hb (ha o ho), h⟩
    · rename_i hb
      refine List.pairwise_cons.2 ⟨fun o ho => ?_, putO_rising hr (getO_none.2 fun o ho => hn' o (List.mem_cons_of_mem _ ho))⟩
      rcases mem_putO.1 ho with rfl | ho
      · exact bef_tri (fun e => hn' a (List.mem_cons_self ..) e.symm) (by simpa using hb)
      · exact ha o ho
theorem dropO_rising {l : List Ob} (h : Rising l) (n : Str) : Rising (dropO l n) := h.filter _
theorem getO_mem {l : List Ob} {n : Str} {o : Ob} (h : getO l n = some o) : o ∈ l ∧ o.name = n := by
  unfold getO at h
  exact ⟨List.mem_of_find?_eq_some h, by simpa using List.find?_some h⟩
theorem Rising.apart {l : List Ob} (h : Rising l) : l.Pairwise (fun a b => a.name ≠ b.name) := h.imp fun {a b} hb e => by rw [e, bef_irr] at hb; cases hb
theorem getO_of_mem {l : List Ob} (h : Rising l) {o : Ob} (ho : o ∈ l) : getO l o.name = some o := by
  induction l with
  | nil => cases ho
  | cons a r ih =>
    have ha := (List.pairwise_cons.1 h.apart).1
    unfold getO
    rw [List.find?_cons]
    rcases List.mem_cons.1 ho with rfl | ho
    · simp
    · have : (a.name == o.name) = false := beq_eq_false_iff_ne.2 (ha o ho)
      rw [this]
      exact ih (List.pairwise_cons.1 h).2 ho
theorem getO_put_same {l : List Ob} (h : Rising l) {x : Ob} (hn : getO l x.name = none) : getO (putO x l) x.name = some x := getO_of_mem (putO_rising h hn) (mem_putO.2 (.inl rfl))
theorem getO_put_other {l : List Ob} (h : Rising l) {x : Ob} (hn : getO l x.name = none) {n : Str} (hne : n ≠ x.name) : getO (putO x l) n = getO l n := by
  cases hg : getO l n with
  | none =>
    refine getO_none.2 fun o ho => ?_
    rcases mem_putO.1 ho with rfl | ho
    · exact hne.symm
    · exact getO_none.1 hg o ho
  | some o =>
    obtain ⟨ho, rfl⟩ := getO_mem hg
    exact getO_of_mem (putO_rising h hn) (mem_putO.2 (.inr ho))
theorem getO_drop_same (l : List Ob) (n : Str) : getO (dropO l n) n = none := getO_none.2 fun o ho => by
  have := (List.mem_filter.1 ho).2; simpa using this
theorem getO_drop_other {l : List Ob} (h : Rising l) {n m : Str} (hne : m ≠ n) : getO (dropO l n) m = getO l m := by
  cases hg : getO l m with
  | none => exact getO_none.2 fun o ho => getO_none.1 hg o (List.mem_filter.1 ho).1
  | some o =>
    obtain ⟨ho, rfl⟩ := getO_mem hg
    exact getO_of_mem (dropO_rising h n) (List.mem_filter.2 ⟨ho, by simpa using hne⟩)
end Go.Proofs.YtpiflhhppigdfaaGreatDoor
namespace Go.Proofs.YtpiflhhppigdfaaGreatDoor
open Go.RowKit

/-- A text more, in a rising list without doubles. -/
def withL : List Str → Str → List Str
  | [], s => [s]
  | x :: r, s => if bef x s then x :: withL r s else if x = s then x :: r else s :: x :: r
theorem withL_at : ∀ {l : List Str} {s : Str} {k : Nat}, k ≤ l.length → (∀ j < k, ∀ x, l[j]? = some x → bef x s = true) → (∀ x, l[k]? = some x → bef x s = false) → withL l s = if l[k]? = some s then l else l.take k ++ s :: l.drop k
  | [], s, 0, _, _, _ => by simp [withL]
  | [], _, _ + 1, h, _, _ => by simp at h
  | x :: r, s, 0, _, _, h2 => by
    have hx := h2 x rfl
    unfold withL
    rw [if_neg (by rw [hx]; decide)]
    by_cases he : x = s
    · rw [if_pos he, if_pos (by simp [he])]
    · rw [if_neg he, if_neg (by simpa using he)]; rfl
  | x :: r, s, k + 1, h, h1, h2 => by
    have hx := h1 0 (by omega) x rfl
    unfold withL
    rw [if_pos hx, withL_at (k := k) (by simpa using h) (fun j hj y hy => h1 (j + 1) (by omega) y (by simpa using hy)) (fun y hy => h2 y (by simpa using hy))]
    rw [List.getElem?_cons_succ]
    split <;> rfl
theorem withL_len (l : List Str) (s : Str) : (withL l s).length ≤ l.length + 1 := by
  induction l with
  | nil => simp [withL]
  | cons x r ih =>
    unfold withL
    split
    · simpa using ih
    · split <;> simp
theorem mem_withL {x s : Str} {l : List Str} : x ∈ withL l s ↔ x = s ∨ x ∈ l := by
  induction l with
  | nil => simp [withL]
  | cons y r ih =>
    unfold withL
    split
    · rw [List.mem_cons, ih, List.mem_cons]
      exact ⟨fun h => by rcases h with h | h | h <;> simp [h], fun h => by rcases h with h | h | h <;> simp [h]⟩
    · split
      · rename_i h; subst h; simp
      · rw [List.mem_cons]
def upS (l : List Str) : Prop := l.Pairwise (fun a b => bef a b = true)
theorem up_withL {s : Str} : ∀ {l : List Str}, upS l → upS (withL l s)
  | [], _ => by simp [withL, upS]
  | x :: r, h => by
    obtain ⟨h1, h2⟩ := List.pairwise_cons.1 h
    unfold withL
    split
    · rename_i hb
      refine List.pairwise_cons.2 ⟨fun y hy => ?_, up_withL h2⟩
      rcases mem_withL.1 hy with rfl | hy
      · exact hb
      · exact h1 y hy
    · rename_i hb
      split
      · exact h
      · rename_i hne
        have hsx : bef s x = true := bef_tri hne (by simpa using hb)
        refine List.pairwise_cons.2 ⟨fun y hy => ?_, h⟩
        rcases List.mem_cons.1 hy with rfl | hy
        · exact hsx
        · exact bef_trans hsx (h1 y hy)
theorem up_asym {a b : Str} (h : bef a b = true) : bef b a = false := by
  cases hb : bef b a with
  | false => rfl
  | true =>
    have := bef_trans h hb
    rw [bef_irr] at this; cases this
theorem up_ext : ∀ {a b : List Str}, upS a → upS b → (∀ x, x ∈ a ↔ x ∈ b) → a = b
  | [], [], _, _, _ => rfl
  | [], y :: t, _, _, h => absurd ((h y).2 (by simp)) (by simp)
  | x :: r, [], _, _, h => absurd ((h x).1 (by simp)) (by simp)
  | x :: r, y :: t, ha, hb, h => by
    obtain ⟨ha1, ha2⟩ := List.pairwise_cons.1 ha
    obtain ⟨hb1, hb2⟩ := List.pairwise_cons.1 hb
    have hxy : x = y := by
      rcases List.mem_cons.1 ((h x).1 (by simp)) with e | e
      · exact e
      · rcases List.mem_cons.1 ((h y).2 (by simp)) with e' | e'
        · exact e'.symm
        · have k1 := hb1 x e
          have k2 := up_asym (ha1 y e')
          rw [k1] at k2; cases k2
    subst hxy
    congr 1
    refine up_ext ha2 hb2 fun z => ?_
    have hz := h z
    simp only [List.mem_cons] at hz
    constructor
    · intro m
      rcases hz.1 (.inr m) with e | e
      · have := ha1 z m
        rw [e, bef_irr] at this; cases this
      · exact e
    · intro m
      rcases hz.2 (.inr m) with e | e
      · have := hb1 z m
        rw [e, bef_irr] at this; cases this
      · exact e

theorem lt_of_bef : ∀ {a b : Str}, bef a b = true → a < b
  | [], [], h => by cases h
  | [], _ :: _, _ => List.nil_lt_cons _ _
  | _ :: _, [], h => by cases h
  | a :: r, b :: s, h => by
    have h : (decide (a < b) || (a == b && bytesBefore r s)) = true := h
    rw [List.cons_lt_cons_iff]
    simp only [Bool.or_eq_true, Bool.and_eq_true, decide_eq_true_eq, beq_iff_eq] at h
    rcases h with h | ⟨h1, h2⟩
    · exact .inl h
    · exact .inr ⟨h1, lt_of_bef h2⟩
theorem bef_of_le {a b : Str} (h : a ≤ b) (hne : a ≠ b) : bef a b = true := by
  cases hb : bef a b with
  | true => rfl
  | false => exact absurd (lt_of_bef (bef_tri hne hb)) (List.not_lt.2 h)
theorem mem_compactUpTo {d : Array Str} {x : Str} : ∀ {m : Nat}, x ∈ Lib.compactUpTo d m ↔ ∃ j < m, d[j]! = x
  | 0 => by simp [Lib.compactUpTo]
  | m + 1 => by
    rw [Lib.compactUpTo_succ, List.mem_append, mem_compactUpTo (m := m)]
    constructor
    · rintro (⟨j, h1, h2⟩ | h)
      · exact ⟨j, by omega, h2⟩
      · split at h
        · exact ⟨m, by omega, (List.mem_singleton.1 h).symm⟩
        · cases h
    · rintro ⟨j, h1, h2⟩
      rcases Nat.lt_or_ge j m with h | h
      · exact .inl ⟨j, h, h2⟩
      · obtain rfl : j = m := by omega
        cases hk : Lib.keeps d j with
        | true => exact .inr (by simp [h2])
        | false =>
          unfold Lib.keeps at hk
          have hk := of_decide_eq_false hk
          have h0 : j ≠ 0 := fun e => hk (.inl e)
          have h3 : d[j]! = d[j - 1]! := Decidable.byContradiction fun e => hk (.inr e)
          exact .inl ⟨j - 1, by omega, by rw [← h3, h2]⟩
theorem mem_compactS {l : List Str} {x : Str} : x ∈ Lib.compact l ↔ x ∈ l := by
  unfold Lib.compact
  rw [mem_compactUpTo]
  constructor
  · rintro ⟨j, h1, h2⟩
    rw [← h2]
    simp [h1]
  · intro h
    obtain ⟨j, h1, h2⟩ := List.getElem_of_mem h
    exact ⟨j, h1, by simp [h1, h2]⟩
theorem up_compact {l : List Str} (h : l.Pairwise (fun a b => a ≤ b)) : upS (Lib.compact l) := by
  have hi := List.pairwise_iff_getElem.1 h
  unfold Lib.compact Lib.compactUpTo upS
  refine List.pairwise_map.2 (List.pairwise_filter.2 ?_)
  refine List.Pairwise.imp_of_mem (fun {a b} ha hb hab => ?_) List.pairwise_lt_range
  intro _ hkb
  have ha' : a < l.length := List.mem_range.1 ha
  have hb' : b < l.length := List.mem_range.1 hb
  unfold Lib.keeps at hkb
  have hk := (of_decide_eq_true hkb).resolve_left (by omega)
  have e1 : ∀ j, j < l.length → l.toArray[j]! = l[j]! := fun j hj => by simp
  have g : ∀ j (hj : j < l.length), l.toArray[j]! = l[j] := fun j hj => by simp [hj]
  rw [g b hb', g (b - 1) (by omega)] at hk
  show bef l.toArray[a]! l.toArray[b]! = true
  rw [g a ha', g b hb']
  have k1 : bef (l[b - 1]'(by omega)) l[b] = true := bef_of_le (hi (b - 1) b (by omega) hb' (by omega)) (fun e => hk e.symm)
  rcases Nat.lt_or_ge a (b - 1) with hlt | hge
  · by_cases he : l[a] = l[b - 1]'(by omega)
    · rw [he]; exact k1
    · exact bef_trans (bef_of_le (hi a (b - 1) ha' (by omega) hlt) he) k1
  · have : a = b - 1 := by omega
    subst this
    exact k1

theorem foldW_up : ∀ (xs l : List Str), upS l → upS (xs.foldl withL l)
  | [], _, h => h
  | _ :: xs, _, h => foldW_up xs _ (up_withL h)
theorem mem_foldW {x : Str} : ∀ (xs l : List Str), x ∈ xs.foldl withL l ↔ x ∈ l ∨ x ∈ xs
  | [], l => by simp
  | y :: xs, l => by
    rw [List.foldl_cons, mem_foldW xs, mem_withL, List.mem_cons]
    exact ⟨fun h => by rcases h with (h | h) | h <;> simp [h], fun h => by rcases h with h | h | h <;> simp [h]⟩
theorem foldW_len : ∀ (xs l : List Str), (xs.foldl withL l).length ≤ l.length + xs.length
  | [], _ => Nat.le_refl _
  | x :: xs, l => by
    have h1 := foldW_len xs (withL l x)
    have h2 := withL_len l x
    rw [List.foldl_cons, List.length_cons]; omega
theorem mem_sortS {x : Str} {l : List Str} : x ∈ l.mergeSort (fun x y => decide (x ≤ y)) ↔ x ∈ l := (List.mergeSort_perm l _).mem_iff
theorem sorted_le (l : List Str) : (l.mergeSort fun x y => decide (x ≤ y)).Pairwise (fun a b => a ≤ b) := by
  have := List.pairwise_mergeSort (le := fun (x y : Str) => decide (x ≤ y)) (fun a b c h1 h2 => by simp only [decide_eq_true_eq] at *; exact List.le_trans h1 h2) (fun a b => by
    simp only [Bool.or_eq_true, decide_eq_true_eq]
    exact List.le_total a b) l
  exact this.imp fun {a b} h => of_decide_eq_true h
end Go.Proofs.YtpiflhhppigdfaaGreatDoor
namespace Go.Proofs.YtpiflhhppigdfaaGreatDoor
open Go.RowKit Go.Extern.Stop Go.Stop Go.Extern

/-- How many package-level variables there are: the block of the handles of types. -/
theorem as_nil (t : Value) (w : World) :
    Calls Tryz.prog 158 #[.nilIface, t] w fun e w' => e = .returned (.bool false) ∧ w = w' := by
  go_enter Tryz.func158, Tryz.ntmps158
  go_wp2
  go_ret
  exact ⟨rfl, rfl⟩

theorem Eas.valueOfPP (t : Addr) (w : World) : (ReflectliteValue.unpack (.iface 213 (.pointer (some t)))).run Tryz.prog w
    = .ok (.agg #[.pointer (some ⟨21, 213, none⟩), .pointer (some ⟨w.heap.size, 0, none⟩), .int .u64 150]) (w.alloc (.cells #[.pointer (some t)] 213)) := by kernel_rfl
theorem Eas.typePP (a : Addr) (w : World) : (ReflectliteValue.methodAny (ReflectliteValue.valueError "reflectlite.Value.Type" 0) (fun t _ _ _ => ReflectliteType.toType t) #[.agg #[.pointer (some ⟨21, 213, none⟩), .pointer (some a), .int .u64 150]]).run Tryz.prog w
    = .ok (.iface 332 (.agg #[.pointer (some ⟨21, 213, none⟩)])) w := by kernel_rfl
theorem Eas.methodKind (h : Value) (w : World) : (Go.method 535 332 (.agg #[h]) "Kind").run Tryz.prog w = .ok (361, h) w := by kernel_rfl
theorem Eas.kindPP (w : World) : ((ReflectliteType.abiMethod fun t => (fun a : Nat => Value.int IntKind.u8 (a : Int)) <$> Rtype.kind t) #[.pointer (some ⟨21, 213, none⟩)]).run Tryz.prog w = .ok (.int .u8 22) w := by kernel_rfl
theorem Eas.kindP (w : World) : ((ReflectliteType.abiMethod fun t => (fun a : Nat => Value.int IntKind.u8 (a : Int)) <$> Rtype.kind t) #[.pointer (some ⟨21, 150, none⟩)]).run Tryz.prog w = .ok (.int .u8 22) w := by kernel_rfl
theorem rlm (z : Sem Value) (f : TypeId → Addr → Nat → Nat → Sem Value) (v : Value) :
    ReflectliteValue.method z f #[v] = (do match ← ReflectliteValue.parts v with | none => z | some (t, a, fl) => f t a fl (fl % 32)) := rfl
theorem Eas.partsPP (a : Addr) (w : World) : (ReflectliteValue.parts (.agg #[.pointer (some ⟨21, 213, none⟩), .pointer (some a), .int .u64 150])).run Tryz.prog w = .ok (some (213, a, 150)) w := by kernel_rfl
theorem Eas.isNilPP (a p : Addr) (W : World) (ha : W.cell? a = some (.pointer (some p))) :
    (ReflectliteValue.method (ReflectliteValue.valueError "reflectlite.Value.IsNil" 0) ReflectliteValue.isNil #[.agg #[.pointer (some ⟨21, 213, none⟩), .pointer (some a), .int .u64 150]]).run Tryz.prog W = .ok (.bool false) W := by
  rw [rlm]
  simp only [Sem.run_bind, Eas.partsPP, Result.andThen]
  simp [ReflectliteValue.isNil, loadVar, isAgg, underlying, Tryz.underlying213, ha, Result.andThen]
theorem Eas.methodElem (h : Value) (w : World) : (Go.method 535 332 (.agg #[h]) "Elem").run Tryz.prog w = .ok (378, .agg #[h]) w := by kernel_rfl
theorem Eas.methodImplements (h : Value) (w : World) : (Go.method 535 332 (.agg #[h]) "Implements").run Tryz.prog w = .ok (379, .agg #[h]) w := by kernel_rfl
theorem Eas.methodAssignableTo (h : Value) (w : World) : (Go.method 535 332 (.agg #[h]) "AssignableTo").run Tryz.prog w = .ok (376, .agg #[h]) w := by kernel_rfl
theorem Eas.elemPP (w : World) : (ReflectliteType.method ReflectliteType.elem #[.agg #[.pointer (some ⟨21, 213, none⟩)]]).run Tryz.prog w = .ok (.iface 332 (.agg #[.pointer (some ⟨21, 150, none⟩)])) w := by kernel_rfl
theorem Eas.implementsP (w : World) : (ReflectliteType.relation "Implements" ReflectliteType.implements_ #[.agg #[.pointer (some ⟨21, 150, none⟩)], .iface 332 (.agg #[.pointer (some ⟨21, 27, none⟩)])]).run Tryz.prog w = .ok (.bool true) w := by kernel_rfl
theorem Eas.typeOfP (v : Value) (w : World) : (ReflectliteType.typeOf #[.iface 150 v]).run Tryz.prog w = .ok (.iface 332 (.agg #[.pointer (some ⟨21, 150, none⟩)])) w := by kernel_rfl
theorem Eas.typeOfE (v : Value) (w : World) : (ReflectliteType.typeOf #[.iface 395 v]).run Tryz.prog w = .ok (.iface 332 (.agg #[.pointer (some ⟨21, 395, none⟩)])) w := by kernel_rfl
theorem Eas.assignableP (w : World) : (ReflectliteType.relation "AssignableTo" ReflectliteType.assignableTo #[.agg #[.pointer (some ⟨21, 150, none⟩)], .iface 332 (.agg #[.pointer (some ⟨21, 150, none⟩)])]).run Tryz.prog w = .ok (.bool true) w := by kernel_rfl
theorem Eas.assignableE (w : World) : (ReflectliteType.relation "AssignableTo" ReflectliteType.assignableTo #[.agg #[.pointer (some ⟨21, 395, none⟩)], .iface 332 (.agg #[.pointer (some ⟨21, 150, none⟩)])]).run Tryz.prog w = .ok (.bool false) w := by kernel_rfl
theorem Eas.valueOfP (e : Addr) (w : World) : (ReflectliteValue.unpack (.iface 150 (.pointer (some e)))).run Tryz.prog w
    = .ok (.agg #[.pointer (some ⟨21, 150, none⟩), .pointer (some ⟨w.heap.size, 0, none⟩), .int .u64 150]) (w.alloc (.cells #[.pointer (some e)] 150)) := by kernel_rfl
theorem Eas.elemOfPP (w : World) : (Rtype.elem? 213).run Tryz.prog w = .ok (some 150) w := by kernel_rfl
theorem Eas.mkP (p : Addr) (w : World) : (ReflectliteValue.mk 150 p ReflectliteValue.flagAddr).run Tryz.prog w = .ok (.agg #[.pointer (some ⟨21, 150, none⟩), .pointer (some p), .int .u64 406]) w := by kernel_rfl
theorem Eas.elemVPP (a p : Addr) (W : World) (ha : W.cell? a = some (.pointer (some p))) :
    (ReflectliteValue.method (ReflectliteValue.valueError "reflectlite.Value.Elem" 0) ReflectliteValue.elem #[.agg #[.pointer (some ⟨21, 213, none⟩), .pointer (some a), .int .u64 150]]).run Tryz.prog W
      = .ok (.agg #[.pointer (some ⟨21, 150, none⟩), .pointer (some p), .int .u64 406]) W := by
  rw [rlm]
  simp only [Sem.run_bind, Eas.partsPP, Result.andThen]
  simp [ReflectliteValue.elem, loadVar, isAgg, underlying, Tryz.underlying213, ha, Result.andThen, Eas.elemOfPP, Eas.mkP]
theorem rls (v x : Value) : ReflectliteValue.set #[v, x] = (do
    let (some (dst, a, fl), some (src, b, _)) := (← ReflectliteValue.parts v, ← ReflectliteValue.parts x)
      | unsupported (.noEntry "extern/(internal/reflectlite.Value).Set.zeroValue")
    if fl / ReflectliteValue.flagAddr % 2 == 0 then unsupported (.noEntry "extern/(internal/reflectlite.Value).Set.unaddressable")
    let val ← loadVar src b
    if ← Rtype.directlyAssignable dst src then storeVar dst a val
    else if ← Rtype.implements dst src then
      if (← Rtype.kind src) == 20 then
        match val with
        | .nilIface => unsupported (.noEntry "extern/reflectlite: a nil value of one interface type handed on as a value of another")
        | _ => storeVar dst a val
      else storeVar dst a (.iface src val)
    else panicString ("reflectlite.Set: value of type " ++ (← Rtype.spelt src) ++ " is not assignable to type " ++ (← Rtype.spelt dst))
    pure (.tuple #[])) := rfl
theorem Eas.partsPa (a : Addr) (w : World) : (ReflectliteValue.parts (.agg #[.pointer (some ⟨21, 150, none⟩), .pointer (some a), .int .u64 406])).run Tryz.prog w = .ok (some (150, a, 406)) w := by kernel_rfl
theorem Eas.partsP (a : Addr) (w : World) : (ReflectliteValue.parts (.agg #[.pointer (some ⟨21, 150, none⟩), .pointer (some a), .int .u64 150])).run Tryz.prog w = .ok (some (150, a, 150)) w := by kernel_rfl
theorem Eas.directP (w : World) : (Rtype.directlyAssignable 150 150).run Tryz.prog w = .ok true w := by kernel_rfl
theorem Eas.setP (ta b e : Addr) (old : Value) (W : World) (hb : W.cell? b = some (.pointer (some e))) (ht : W.cell? ta = some old) (hf : W.frozen? ta = false) :
    (ReflectliteValue.set #[.agg #[.pointer (some ⟨21, 150, none⟩), .pointer (some ta), .int .u64 406], .agg #[.pointer (some ⟨21, 150, none⟩), .pointer (some b), .int .u64 150]]).run Tryz.prog W
      = .ok (.tuple #[]) (W.setCell ta (.pointer (some e))) := by
  rw [rls]
  simp only [Sem.run_bind, Eas.partsPa, Eas.partsP, Result.andThen]
  simp [ReflectliteValue.flagAddr, loadVar, isAgg, underlying, Tryz.underlying150, hb, Result.andThen, Eas.directP, storeVar, Value.cells, storeCells, Addr.add]
  rw [run_store Tryz.prog W ta _ _ (by rfl)]
  simp [ht, hf]
theorem Eas.noAsE (v : Value) (xT : TypeId) (w : World) : (Instr.typeAssert (.iface 395 v) xT 336 true).run Tryz.prog w = .ok (.tuple #[.nilIface, .bool false]) w := run_typeAssert_lacksB Tryz.underlying336 (by kernel_rfl) (by kernel_rfl) v xT w
theorem Eas.noUnwrapE (v : Value) (xT : TypeId) (w : World) : (Instr.typeAssert (.iface 395 v) xT 339 true).run Tryz.prog w = .ok (.tuple #[.nilIface, .bool false]) w := run_typeAssert_lacksB Tryz.underlying339 (by kernel_rfl) (by kernel_rfl) v xT w
theorem Eas.noUnwrapsE (v : Value) (xT : TypeId) (w : World) : (Instr.typeAssert (.iface 395 v) xT 341 true).run Tryz.prog w = .ok (.tuple #[.nilIface, .bool false]) w := run_typeAssert_lacksB Tryz.underlying341 (by kernel_rfl) (by kernel_rfl) v xT w
theorem Eas.noIsE (v : Value) (xT : TypeId) (w : World) : (Instr.typeAssert (.iface 395 v) xT 343 true).run Tryz.prog w = .ok (.tuple #[.nilIface, .bool false]) w := run_typeAssert_lacksB Tryz.underlying343 (by kernel_rfl) (by kernel_rfl) v xT w
theorem Eas.noIsW (v : Value) (xT : TypeId) (w : World) : (Instr.typeAssert (.iface 150 v) xT 343 true).run Tryz.prog w = .ok (.tuple #[.nilIface, .bool false]) w := run_typeAssert_lacksB Tryz.underlying343 (by kernel_rfl) (by kernel_rfl) v xT w
theorem Eas.hasUnwrapW (v : Value) (xT : TypeId) (w : World) : (Instr.typeAssert (.iface 150 v) xT 339 true).run Tryz.prog w = .ok (.tuple #[.iface 150 v, .bool true]) w := run_typeAssert_hasB Tryz.underlying339 (by kernel_rfl) v xT w
theorem Eas.methodUnwrap (v : Value) (w : World) : (Go.method 535 150 v "Unwrap").run Tryz.prog w = .ok (367, v) w := by kernel_rfl
theorem Eas.isComparable (w : World) : (callFunc 377 #[.agg #[.pointer (some ⟨21, 395, none⟩)]]).run Tryz.prog w = .ok (.value (.bool true)) w := by kernel_rfl
theorem Eas.isMethodComparable (v : Value) (w : World) : (Go.method 535 332 v "Comparable").run Tryz.prog w = .ok (377, v) w := by kernel_rfl
theorem Eas.isComp : (Tryz.prog.info? 395).map (·.comparable) = some true := by kernel_rfl
theorem Eas.isSize : (Tryz.prog.info? 397).map (·.size) = some 1 := by kernel_rfl
end Go.Proofs.YtpiflhhppigdfaaGreatDoor
namespace Go.Proofs.YtpiflhhppigdfaaGreatDoor
open Go.RowKit Go.Extern.Stop Go.Stop Go.Extern

set_option maxHeartbeats 4000000 in
/-- errors.As where the error is a Fault: it is set. -/
theorem as_hit (e t : Addr) (old : Value) (w : World) (hg : w.cell? ⟨12, 0, none⟩ = some (.iface 332 (.agg #[.pointer (some ⟨21, 27, none⟩)]))) (ht0 : w.cell? t = some old) (hf0 : w.frozen? t = false) :
    Calls Tryz.prog 158 #[.iface 150 (.pointer (some e)), .iface 213 (.pointer (some t))] w fun ev w' => ev = .returned (.bool true) ∧ w.grownBy w' (some t.block) ∧ w'.cell? t = some (.pointer (some e)) := by
  have h6 := @run_callFunc_extern Tryz.prog 208 _ (fun args => ReflectliteValue.unpack (args.getD 0 (.tuple #[]))) Tryz.func208 (by kernel_rfl) (by kernel_rfl) (by kernel_rfl) (by kernel_rfl)
  have h7 := @run_callFunc_extern Tryz.prog 209 _ (ReflectliteValue.methodAny (ReflectliteValue.valueError "reflectlite.Value.Type" 0) (fun t _ _ _ => ReflectliteType.toType t)) Tryz.func209 (by kernel_rfl) (by kernel_rfl) (by kernel_rfl) (by kernel_rfl)
  have h8 := @run_callFunc_extern Tryz.prog 210 _ (ReflectliteValue.method (ReflectliteValue.valueError "reflectlite.Value.IsNil" 0) ReflectliteValue.isNil) Tryz.func210 (by kernel_rfl) (by kernel_rfl) (by kernel_rfl) (by kernel_rfl)
  have h27 := @run_callFunc_extern Tryz.prog 361 _ (ReflectliteType.abiMethod fun t => do pure (.int .u8 (← Rtype.kind t))) Tryz.func361 (by kernel_rfl) (by kernel_rfl) (by kernel_rfl) (by kernel_rfl)
  have h37 := @run_callFunc_extern Tryz.prog 378 _ (ReflectliteType.method ReflectliteType.elem) Tryz.func378 (by kernel_rfl) (by kernel_rfl) (by kernel_rfl) (by kernel_rfl)
  have h38 := @run_callFunc_extern Tryz.prog 379 _ (ReflectliteType.relation "Implements" ReflectliteType.implements_) Tryz.func379 (by kernel_rfl) (by kernel_rfl) (by kernel_rfl) (by kernel_rfl)
  have h10 := @run_callFunc_extern Tryz.prog 212 _ ReflectliteType.typeOf Tryz.func212 (by kernel_rfl) (by kernel_rfl) (by kernel_rfl) (by kernel_rfl)
  have h35 := @run_callFunc_extern Tryz.prog 376 _ (ReflectliteType.relation "AssignableTo" ReflectliteType.assignableTo) Tryz.func376 (by kernel_rfl) (by kernel_rfl) (by kernel_rfl) (by kernel_rfl)
  have h11 := @run_callFunc_extern Tryz.prog 273 _ (ReflectliteValue.method (ReflectliteValue.valueError "reflectlite.Value.Elem" 0) ReflectliteValue.elem) Tryz.func273 (by kernel_rfl) (by kernel_rfl) (by kernel_rfl) (by kernel_rfl)
  have h12 := @run_callFunc_extern Tryz.prog 274 _ ReflectliteValue.set Tryz.func274 (by kernel_rfl) (by kernel_rfl) (by kernel_rfl) (by kernel_rfl)
  have tO := Eas.typeOfP
  have mA := Eas.methodAssignableTo
  have a25 := Eas.assignableP
  have v25 := Eas.valueOfP
  have f6 := Eas.valueOfPP
  have f7 := Eas.typePP
  have mK := Eas.methodKind
  have mE := Eas.methodElem
  have mI := Eas.methodImplements
  have k27 := Eas.kindPP
  have k25 := Eas.kindP
  have e27 := Eas.elemPP
  have i25 := Eas.implementsP
  have n8 := Eas.isNilPP ⟨w.heap.size, 0, none⟩ t ((w.alloc (.cells #[.pointer (some t)] 213)).alloc (.cells #[.pointer (some ⟨21, 213, none⟩), .pointer (some ⟨w.heap.size, 0, none⟩), .int .u64 150] 269)) (by simp)
  have hlt : 12 < w.heap.size := by
    have := World.block_lt_of_cell? w ⟨12, 0, none⟩ hg
    exact this
  have hg2 : ((w.alloc (.cells #[.pointer (some t)] 213)).alloc (.cells #[.pointer (some ⟨21, 213, none⟩), .pointer (some ⟨w.heap.size, 0, none⟩), .int .u64 150] 269)).cell? ⟨12, 0, none⟩ = some (.iface 332 (.agg #[.pointer (some ⟨21, 27, none⟩)])) := by
    rw [World.cell?_alloc_lt _ _ ⟨12, 0, none⟩ (by simp; omega), World.cell?_alloc_lt _ _ ⟨12, 0, none⟩ hlt]; exact hg
  have htl : t.block < w.heap.size := World.block_lt_of_cell? w t ht0
  have el := Eas.elemVPP ⟨w.heap.size, 0, none⟩ t (((w.alloc (.cells #[.pointer (some t)] 213)).alloc (.cells #[.pointer (some ⟨21, 213, none⟩), .pointer (some ⟨w.heap.size, 0, none⟩), .int .u64 150] 269)).alloc (.cells #[.pointer (some ⟨21, 213, none⟩), .pointer (some ⟨w.heap.size, 0, none⟩), .int .u64 150] 269)) (by rw [World.cell?_alloc_lt _ _ ⟨w.heap.size, 0, none⟩ (by simp; omega)]; simp)
  have st := Eas.setP t ⟨w.heap.size + 1 + 1 + 1, 0, none⟩ e old ((((w.alloc (.cells #[.pointer (some t)] 213)).alloc (.cells #[.pointer (some ⟨21, 213, none⟩), .pointer (some ⟨w.heap.size, 0, none⟩), .int .u64 150] 269)).alloc (.cells #[.pointer (some ⟨21, 213, none⟩), .pointer (some ⟨w.heap.size, 0, none⟩), .int .u64 150] 269)).alloc (.cells #[.pointer (some e)] 150))
    (by rw [World.cell?_alloc_at _ _ _ _ (by simp)]; rfl)
    (by rw [World.cell?_alloc_lt _ _ t (by simp; omega), World.cell?_alloc_lt _ _ t (by simp; omega), World.cell?_alloc_lt _ _ t (by simp; omega), World.cell?_alloc_lt _ _ t htl]; exact ht0)
    (by rw [World.frozen?_alloc_old _ _ t (by simp; omega), World.frozen?_alloc_old _ _ t (by simp; omega), World.frozen?_alloc_old _ _ t (by simp; omega), World.frozen?_alloc_old _ _ t (Nat.ne_of_lt htl)]; exact hf0)
  go_enter Tryz.func158, Tryz.ntmps158
  go_wp2
  refine wp_loop_rounds 1 ?_
  rw [rounds_succ]
  go_wp2
  go_ret
  refine ⟨rfl, ?_, World.cell?_setCell_same' _ _ _ (by rw [World.cell?_alloc_lt _ _ t (by simp; omega), World.cell?_alloc_lt _ _ t (by simp; omega), World.cell?_alloc_lt _ _ t (by simp; omega), World.cell?_alloc_lt _ _ t htl, ht0]; rfl)⟩
  have hb : Below w.heap.size w ((((w.alloc (.cells #[.pointer (some t)] 213)).alloc (.cells #[.pointer (some ⟨21, 213, none⟩), .pointer (some ⟨w.heap.size, 0, none⟩), .int .u64 150] 269)).alloc (.cells #[.pointer (some ⟨21, 213, none⟩), .pointer (some ⟨w.heap.size, 0, none⟩), .int .u64 150] 269)).alloc (.cells #[.pointer (some e)] 150)) :=
    ((((Below.refl _ _).alloc (Nat.le_refl _) _).alloc (by simp) _).alloc (by simp; omega) _).alloc (by simp; omega) _
  exact ⟨hb.os, hb.tape, hb.output, by simpa [World.setCell] using hb.size, fun k hk hne => (Below.heap_setCell _ _ _ _ (fun h => hne (by rw [h]))).trans (hb.block k hk)⟩

set_option maxHeartbeats 4000000 in
/-- errors.As where the error is a plain one of errors.New's make: nothing is set. -/
theorem as_miss (e t : Addr) (w : World) (hg : w.cell? ⟨12, 0, none⟩ = some (.iface 332 (.agg #[.pointer (some ⟨21, 27, none⟩)]))) :
    Calls Tryz.prog 158 #[.iface 395 (.pointer (some e)), .iface 213 (.pointer (some t))] w fun ev w' => ev = .returned (.bool false) ∧ Below w.heap.size w w' := by
  have h6 := @run_callFunc_extern Tryz.prog 208 _ (fun args => ReflectliteValue.unpack (args.getD 0 (.tuple #[]))) Tryz.func208 (by kernel_rfl) (by kernel_rfl) (by kernel_rfl) (by kernel_rfl)
  have h7 := @run_callFunc_extern Tryz.prog 209 _ (ReflectliteValue.methodAny (ReflectliteValue.valueError "reflectlite.Value.Type" 0) (fun t _ _ _ => ReflectliteType.toType t)) Tryz.func209 (by kernel_rfl) (by kernel_rfl) (by kernel_rfl) (by kernel_rfl)
  have h8 := @run_callFunc_extern Tryz.prog 210 _ (ReflectliteValue.method (ReflectliteValue.valueError "reflectlite.Value.IsNil" 0) ReflectliteValue.isNil) Tryz.func210 (by kernel_rfl) (by kernel_rfl) (by kernel_rfl) (by kernel_rfl)
  have h27 := @run_callFunc_extern Tryz.prog 361 _ (ReflectliteType.abiMethod fun t => do pure (.int .u8 (← Rtype.kind t))) Tryz.func361 (by kernel_rfl) (by kernel_rfl) (by kernel_rfl) (by kernel_rfl)
  have h37 := @run_callFunc_extern Tryz.prog 378 _ (ReflectliteType.method ReflectliteType.elem) Tryz.func378 (by kernel_rfl) (by kernel_rfl) (by kernel_rfl) (by kernel_rfl)
  have h38 := @run_callFunc_extern Tryz.prog 379 _ (ReflectliteType.relation "Implements" ReflectliteType.implements_) Tryz.func379 (by kernel_rfl) (by kernel_rfl) (by kernel_rfl) (by kernel_rfl)
  have h10 := @run_callFunc_extern Tryz.prog 212 _ ReflectliteType.typeOf Tryz.func212 (by kernel_rfl) (by kernel_rfl) (by kernel_rfl) (by kernel_rfl)
  have h35 := @run_callFunc_extern Tryz.prog 376 _ (ReflectliteType.relation "AssignableTo" ReflectliteType.assignableTo) Tryz.func376 (by kernel_rfl) (by kernel_rfl) (by kernel_rfl) (by kernel_rfl)
  have tO := Eas.typeOfE
  have mA := Eas.methodAssignableTo
  have a25 := Eas.assignableE
  have f6 := Eas.valueOfPP
  have f7 := Eas.typePP
  have mK := Eas.methodKind
  have mE := Eas.methodElem
  have mI := Eas.methodImplements
  have k27 := Eas.kindPP
  have k25 := Eas.kindP
  have e27 := Eas.elemPP
  have i25 := Eas.implementsP
  have nA := Eas.noAsE
  have nU := Eas.noUnwrapE
  have nV := Eas.noUnwrapsE
  have n8 := Eas.isNilPP ⟨w.heap.size, 0, none⟩ t ((w.alloc (.cells #[.pointer (some t)] 213)).alloc (.cells #[.pointer (some ⟨21, 213, none⟩), .pointer (some ⟨w.heap.size, 0, none⟩), .int .u64 150] 269)) (by simp)
  have hlt : 12 < w.heap.size := by
    have := World.block_lt_of_cell? w ⟨12, 0, none⟩ hg
    exact this
  have hg2 : ((w.alloc (.cells #[.pointer (some t)] 213)).alloc (.cells #[.pointer (some ⟨21, 213, none⟩), .pointer (some ⟨w.heap.size, 0, none⟩), .int .u64 150] 269)).cell? ⟨12, 0, none⟩ = some (.iface 332 (.agg #[.pointer (some ⟨21, 27, none⟩)])) := by
    rw [World.cell?_alloc_lt _ _ ⟨12, 0, none⟩ (by simp; omega), World.cell?_alloc_lt _ _ ⟨12, 0, none⟩ hlt]; exact hg
  go_enter Tryz.func158, Tryz.ntmps158
  go_wp2
  refine wp_loop_rounds 1 ?_
  rw [rounds_succ]
  go_wp2
  go_ret
  exact ⟨rfl, by repeat (first | exact Below.refl _ _ | (refine Below.alloc ?_ (by simp; try omega) _))⟩

/-- errors.Is(x, x), x a pointer to an errors.errorString. -/
theorem is_same (a : Addr) (w : World) :
    Calls Tryz.prog 159 #[.iface 395 (.pointer (some a)), .iface 395 (.pointer (some a))] w fun e w' => e = .returned (.bool true) ∧ w = w' := by
  obtain ⟨i, hi, hcmp⟩ := Option.map_eq_some_iff.1 Eas.isComp
  obtain ⟨j, hj, hjs⟩ := Option.map_eq_some_iff.1 Eas.isSize
  have h8 := @run_callFunc_extern Tryz.prog 212 _ Extern.ReflectliteType.typeOf Tryz.func212 (by kernel_rfl) (by kernel_rfl) (by kernel_rfl) (by kernel_rfl)
  have tT := Eas.typeOfE
  have cT := Eas.isComparable
  have mR := Eas.isMethodComparable
  have heq := run_eql_iface_ptr_same (P := Tryz.prog) w a Tryz.underlying27 Tryz.underlying395 hi hcmp hj
  go_enter Tryz.func159, Tryz.ntmps159
  go_wp2
  refine wp_loop_rounds 1 ?_
  rw [rounds_succ]
  go_wp2
  go_ret
  exact ⟨rfl, rfl⟩

/-- errors.Is(x, y), two different pointers to errors.errorString: neither has Is nor Unwrap: false. -/
theorem is_other (a b : Addr) (ca cb : Array Value) (ta tb : TypeId) (w : World) (hne : a ≠ b) (ha : w.heap[a.block]? = some (.cells ca ta (0, 0))) (hb : w.heap[b.block]? = some (.cells cb tb (0, 0))) :
    Calls Tryz.prog 159 #[.iface 395 (.pointer (some a)), .iface 395 (.pointer (some b))] w fun e w' => e = .returned (.bool false) ∧ w = w' := by
  obtain ⟨i, hi, hcmp⟩ := Option.map_eq_some_iff.1 Eas.isComp
  obtain ⟨j, hj, hjs⟩ := Option.map_eq_some_iff.1 Eas.isSize
  have h8 := @run_callFunc_extern Tryz.prog 212 _ Extern.ReflectliteType.typeOf Tryz.func212 (by kernel_rfl) (by kernel_rfl) (by kernel_rfl) (by kernel_rfl)
  have tT := Eas.typeOfE
  have cT := Eas.isComparable
  have mR := Eas.isMethodComparable
  have nE := Eas.noIsE
  have uE := Eas.noUnwrapE
  have vE := Eas.noUnwrapsE
  have heq := run_eql_iface_ptr_other (P := Tryz.prog) w Tryz.underlying27 Tryz.underlying395 hi hcmp hj (by rw [hjs]; decide) hne ha hb
  go_enter Tryz.func159, Tryz.ntmps159
  go_wp2
  refine wp_loop_rounds 1 ?_
  rw [rounds_succ]
  go_wp2
  go_ret
  exact ⟨rfl, rfl⟩

/-- errors.Is(e, x), e a Fault around x itself: one Unwrap, then equal. -/
theorem is_wrap_same (pb po : Nat) (b : Addr) (w : World) (h1 : w.cell? ⟨pb, po + 1, none⟩ = some (.iface 395 (.pointer (some b)))) :
    Calls Tryz.prog 159 #[.iface 150 (.pointer (some ⟨pb, po, none⟩)), .iface 395 (.pointer (some b))] w fun e w' => e = .returned (.bool true) ∧ w = w' := by
  obtain ⟨i, hi, hcmp⟩ := Option.map_eq_some_iff.1 Eas.isComp
  obtain ⟨j, hj, hjs⟩ := Option.map_eq_some_iff.1 Eas.isSize
  have h8 := @run_callFunc_extern Tryz.prog 212 _ Extern.ReflectliteType.typeOf Tryz.func212 (by kernel_rfl) (by kernel_rfl) (by kernel_rfl) (by kernel_rfl)
  have tT := Eas.typeOfE
  have cT := Eas.isComparable
  have mR := Eas.isMethodComparable
  have nW := Eas.noIsW
  have uW := Eas.hasUnwrapW
  have mU := Eas.methodUnwrap
  have heq := run_eql_iface_ptr_same (P := Tryz.prog) w b Tryz.underlying27 Tryz.underlying395 hi hcmp hj
  have hty := run_eql_iface_types (P := Tryz.prog) 150 395 (.pointer (some ⟨pb, po, none⟩)) (.pointer (some b)) Tryz.underlying27 (by decide) w
  go_enter Tryz.func159, Tryz.ntmps159
  go_wp2
  refine wp_loop_rounds 2 ?_
  rw [rounds_succ]
  go_wp2
  rw [rounds_succ]
  go_wp2
  go_ret
  exact ⟨rfl, rfl⟩

/-- errors.Is(e, x), e a Fault around another error of errors.New's make. -/
theorem is_wrap_other (pb po : Nat) (b a : Addr) (ca cb : Array Value) (ta tb : TypeId) (w : World) (h1 : w.cell? ⟨pb, po + 1, none⟩ = some (.iface 395 (.pointer (some a)))) (hne : a ≠ b) (ha : w.heap[a.block]? = some (.cells ca ta (0, 0))) (hb : w.heap[b.block]? = some (.cells cb tb (0, 0))) :
    Calls Tryz.prog 159 #[.iface 150 (.pointer (some ⟨pb, po, none⟩)), .iface 395 (.pointer (some b))] w fun e w' => e = .returned (.bool false) ∧ w = w' := by
  obtain ⟨i, hi, hcmp⟩ := Option.map_eq_some_iff.1 Eas.isComp
  obtain ⟨j, hj, hjs⟩ := Option.map_eq_some_iff.1 Eas.isSize
  have h8 := @run_callFunc_extern Tryz.prog 212 _ Extern.ReflectliteType.typeOf Tryz.func212 (by kernel_rfl) (by kernel_rfl) (by kernel_rfl) (by kernel_rfl)
  have tT := Eas.typeOfE
  have cT := Eas.isComparable
  have mR := Eas.isMethodComparable
  have nE := Eas.noIsE
  have uE := Eas.noUnwrapE
  have vE := Eas.noUnwrapsE
  have nW := Eas.noIsW
  have uW := Eas.hasUnwrapW
  have mU := Eas.methodUnwrap
  have heq := run_eql_iface_ptr_other (P := Tryz.prog) w Tryz.underlying27 Tryz.underlying395 hi hcmp hj (by rw [hjs]; decide) hne ha hb
  have hty := run_eql_iface_types (P := Tryz.prog) 150 395 (.pointer (some ⟨pb, po, none⟩)) (.pointer (some b)) Tryz.underlying27 (by decide) w
  go_enter Tryz.func159, Tryz.ntmps159
  go_wp2
  refine wp_loop_rounds 2 ?_
  rw [rounds_succ]
  go_wp2
  rw [rounds_succ]
  go_wp2
  go_ret
  exact ⟨rfl, rfl⟩
end Go.Proofs.YtpiflhhppigdfaaGreatDoor
namespace Go.Proofs.YtpiflhhppigdfaaGreatDoor
open Go.RowKit

theorem isIfaceE : Tryz.prog.isIface 27 = true := by kernel_rfl

/-- The global's number of an error's number. -/
def errG : Nat → Nat
  | 1 => 3 | 2 => 2 | 3 => 9 | 4 => 1 | 5 => 0 | 6 => 6
  | 7 => 5 | 8 => 4 | 9 => 8 | 10 => 10 | 11 => 7 | _ => 11

/-- The sentinels of the numbers D lie in the world w below block B, each behind the address E says. -/
structure Errs (D : List Nat) (E : Nat → Addr) (B : Nat) (w : World) : Prop where
  var : ∀ c ∈ D, w.cell? ⟨errG c, 0, none⟩ = some (.iface 395 (.pointer (some (E c))))
  row : ∀ c ∈ D, ∃ cs t, w.heap[(E c).block]? = some (.cells cs t (0, 0))
  lt : ∀ c ∈ D, (E c).block < B ∧ errG c < B
  inj : ∀ c ∈ D, ∀ d ∈ D, E c = E d → c = d
  le : B ≤ w.heap.size

theorem Errs.sub {D D' : List Nat} {E B w} (h : Errs D E B w) (hs : ∀ c ∈ D', c ∈ D) : Errs D' E B w :=
  ⟨fun c hc => h.var c (hs c hc), fun c hc => h.row c (hs c hc), fun c hc => h.lt c (hs c hc), fun c hc d hd => h.inj c (hs c hc) d (hs d hd), h.le⟩
theorem Errs.below {D : List Nat} {E B w w'} (h : Errs D E B w) (hb : Below B w w') : Errs D E B w' :=
  ⟨fun c hc => (hb.cell (p := ⟨errG c, 0, none⟩) (h.lt c hc).2).trans (h.var c hc), fun c hc => let ⟨cs, t, e⟩ := h.row c hc; ⟨cs, t, (hb.block _ (h.lt c hc).1).trans e⟩, h.lt, h.inj, Nat.le_trans h.le hb.size⟩
theorem Errs.below' {D : List Nat} {E B w w' B'} (h : Errs D E B w) (hb : Below B' w w') (hB : B ≤ B') : Errs D E B w' := h.below (hb.mono hB)

/-- The numbers of all errors. -/
abbrev allE : List Nat := [1, 2, 3, 4, 5, 6, 7, 8, 9, 10, 11, 12]
theorem mem_allE {c : Nat} : c ∈ allE ↔ 1 ≤ c ∧ c ≤ 12 := by
  simp only [allE, List.mem_cons, List.mem_nil_iff, or_false]; omega

/-- What errors.As reads. -/
def AsVar (w : World) : Prop := w.cell? ⟨12, 0, none⟩ = some (.iface 332 (.agg #[.pointer (some ⟨21, 27, none⟩)]))
theorem AsVar.below {B w w'} (h : AsVar w) (hb : Below B w w') (hB : 12 < B) : AsVar w' := (hb.cell (p := ⟨12, 0, none⟩) hB).trans h

theorem code_nil (w : World) : Calls Tryz.prog 79 #[.nilIface] w fun e w' => e = .returned (.tuple #[.int .i64 0, .int .i64 (-1)]) ∧ w = w' := by
  have hn : (binOp .eql 27 .nilIface .nilIface).run Tryz.prog w = .ok (.bool true) w := by kernel_rfl
  go_enter Tryz.func79, Tryz.ntmps79
  go_wp2
  go_ret2
  exact ⟨rfl, rfl⟩

/-- The slice of all sentinels, cell by cell. -/
theorem sent_cells (E : Nat → Addr) (k : Nat) (hk : k < 12) (w : World) (t : TypeId) :
    (w.alloc (.cells #[.iface 395 (.pointer (some (E 1))), .iface 395 (.pointer (some (E 2))), .iface 395 (.pointer (some (E 3))), .iface 395 (.pointer (some (E 4))), .iface 395 (.pointer (some (E 5))), .iface 395 (.pointer (some (E 6))), .iface 395 (.pointer (some (E 7))), .iface 395 (.pointer (some (E 8))), .iface 395 (.pointer (some (E 9))), .iface 395 (.pointer (some (E 10))), .iface 395 (.pointer (some (E 11))), .iface 395 (.pointer (some (E 12)))] t)).cell? ⟨w.heap.size, k, none⟩
      = some (.iface 395 (.pointer (some (E (k + 1))))) := by
  have : k = 0 ∨ k = 1 ∨ k = 2 ∨ k = 3 ∨ k = 4 ∨ k = 5 ∨ k = 6 ∨ k = 7 ∨ k = 8 ∨ k = 9 ∨ k = 10 ∨ k = 11 := by omega
  rcases this with rfl | rfl | rfl | rfl | rfl | rfl | rfl | rfl | rfl | rfl | rfl | rfl <;> simp

set_option maxHeartbeats 1000000 in
theorem code_sent (E : Nat → Addr) (B : Nat) (c : Nat) (h1 : 1 ≤ c) (h12 : c ≤ 12) (w : World) (hE : Errs allE E B w) (hA : AsVar w) :
    Calls Tryz.prog 79 #[.iface 395 (.pointer (some (E c)))] w fun e w' => e = .returned (.tuple #[.int .i64 c, .int .i64 (-1)]) ∧ Below w.heap.size w w' := by
  have hif := isIfaceE
  have hA1 : ∀ o, AsVar (w.alloc o) := fun o => hA.below (B := w.heap.size) ((Below.refl _ _).alloc (Nat.le_refl _) _) (World.block_lt_of_cell? w ⟨12, 0, none⟩ hA)
  go_enter Tryz.func79, Tryz.ntmps79
  go_wp2_with fail
  refine (as_miss _ _ _ (hA1 _)).mono ?_
  rintro e w1 ⟨rfl, hb⟩
  have hb1 : Below w.heap.size w w1 := ((Below.refl _ _).alloc (Nat.le_refl _) _).trans (hb.mono (by simp))
  have hE1 := hE.below' hb1 hE.le
  have v1 := hE1.var 1 (by decide)
  have v2 := hE1.var 2 (by decide)
  have v3 := hE1.var 3 (by decide)
  have v4 := hE1.var 4 (by decide)
  have v5 := hE1.var 5 (by decide)
  have v6 := hE1.var 6 (by decide)
  have v7 := hE1.var 7 (by decide)
  have v8 := hE1.var 8 (by decide)
  have v9 := hE1.var 9 (by decide)
  have v10 := hE1.var 10 (by decide)
  have v11 := hE1.var 11 (by decide)
  have v12 := hE1.var 12 (by decide)
  simp only [errG] at v1 v2 v3 v4 v5 v6 v7 v8 v9 v10 v11 v12
  go_wp2_with fail
  have hcell := fun k hk => sent_cells E k hk w1 27
  have hb2 : Below w.heap.size w (w1.alloc _) := hb1.alloc hb1.size (.cells #[.iface 395 (.pointer (some (E 1))), .iface 395 (.pointer (some (E 2))), .iface 395 (.pointer (some (E 3))), .iface 395 (.pointer (some (E 4))), .iface 395 (.pointer (some (E 5))), .iface 395 (.pointer (some (E 6))), .iface 395 (.pointer (some (E 7))), .iface 395 (.pointer (some (E 8))), .iface 395 (.pointer (some (E 9))), .iface 395 (.pointer (some (E 10))), .iface 395 (.pointer (some (E 11))), .iface 395 (.pointer (some (E 12)))] 27)
  clear v1 v2 v3 v4 v5 v6 v7 v8 v9 v10 v11 v12
  generalize hW2 : w1.alloc (.cells _ _) = W2 at hcell hb2 ⊢
  clear hW2
  have hE2 := hE.below' hb2 hE.le
  go_loop [3, 30] (fun a i => ∃ k : Nat, k < c ∧ i = .int .i64 k ∧ a = .int .i64 (-1)) (fun _ i => 12 - (intOf i).toNat)
  case atStart => exact ⟨0, by omega, rfl, rfl⟩
  case round =>
    obtain ⟨k, hk, rfl, rfl⟩ := hrel
    have hc := hcell k (by omega)
    have hlt : (k : Int) < 12 := by omega
    clear hcell
    obtain ⟨ca, ta', ha⟩ := hE2.row c (mem_allE.2 ⟨h1, h12⟩)
    obtain ⟨cb, tb', hb'⟩ := hE2.row (k + 1) (mem_allE.2 ⟨by omega, by omega⟩)
    have H2 := Lib.hid ha; clear ha
    have H3 := Lib.hid hb'; clear hb'
    by_cases he : k + 1 = c
    · subst he
      go_wp2_with (go_at_call 159; refine (is_same _ _).mono ?_; rintro e w' ⟨rfl, rfl⟩)
      go_ret2
      exact ⟨by simp, hb2⟩
    · have hne : E c ≠ E (k + 1) := fun h => he (hE2.inj _ (mem_allE.2 ⟨h1, h12⟩) _ (mem_allE.2 ⟨by omega, by omega⟩) h).symm
      go_wp2_with (go_at_call 159; refine (is_other _ _ _ _ _ _ _ hne H2.out H3.out).mono ?_; rintro e w' ⟨rfl, rfl⟩)
      go_round
      case rel => exact ⟨k + 1, by omega, by go_num, rfl⟩
      case measure => simp [intOf]; omega

set_option maxHeartbeats 1000000 in
/-- Another error of errors.New's make. -/
theorem code_else (E : Nat → Addr) (B : Nat) (a : Addr) (ca : Array Value) (ta : TypeId) (w : World) (hE : Errs allE E B w) (hA : AsVar w) (ha : w.heap[a.block]? = some (.cells ca ta (0, 0))) (hlt : B ≤ a.block) :
    Calls Tryz.prog 79 #[.iface 395 (.pointer (some a))] w fun e w' => e = .returned (.tuple #[.int .i64 (-1), .int .i64 (-1)]) ∧ Below w.heap.size w w' := by
  have hif := isIfaceE
  have hA1 : ∀ o, AsVar (w.alloc o) := fun o => hA.below (B := w.heap.size) ((Below.refl _ _).alloc (Nat.le_refl _) _) (World.block_lt_of_cell? w ⟨12, 0, none⟩ hA)
  have hal : a.block < w.heap.size := by
    rcases Nat.lt_or_ge a.block w.heap.size with h | h
    · exact h
    · simp [Array.getElem?_eq_none h] at ha
  have Ha := Lib.hid ha; clear ha
  go_enter Tryz.func79, Tryz.ntmps79
  go_wp2_with fail
  refine (as_miss _ _ _ (hA1 _)).mono ?_
  rintro e w1 ⟨rfl, hb⟩
  have hb1 : Below w.heap.size w w1 := ((Below.refl _ _).alloc (Nat.le_refl _) _).trans (hb.mono (by simp))
  have hE1 := hE.below' hb1 hE.le
  have v1 := hE1.var 1 (by decide)
  have v2 := hE1.var 2 (by decide)
  have v3 := hE1.var 3 (by decide)
  have v4 := hE1.var 4 (by decide)
  have v5 := hE1.var 5 (by decide)
  have v6 := hE1.var 6 (by decide)
  have v7 := hE1.var 7 (by decide)
  have v8 := hE1.var 8 (by decide)
  have v9 := hE1.var 9 (by decide)
  have v10 := hE1.var 10 (by decide)
  have v11 := hE1.var 11 (by decide)
  have v12 := hE1.var 12 (by decide)
  simp only [errG] at v1 v2 v3 v4 v5 v6 v7 v8 v9 v10 v11 v12
  go_wp2_with fail
  have hcell := fun k hk => sent_cells E k hk w1 27
  have hb2 : Below w.heap.size w (w1.alloc _) := hb1.alloc hb1.size (.cells #[.iface 395 (.pointer (some (E 1))), .iface 395 (.pointer (some (E 2))), .iface 395 (.pointer (some (E 3))), .iface 395 (.pointer (some (E 4))), .iface 395 (.pointer (some (E 5))), .iface 395 (.pointer (some (E 6))), .iface 395 (.pointer (some (E 7))), .iface 395 (.pointer (some (E 8))), .iface 395 (.pointer (some (E 9))), .iface 395 (.pointer (some (E 10))), .iface 395 (.pointer (some (E 11))), .iface 395 (.pointer (some (E 12)))] 27)
  clear v1 v2 v3 v4 v5 v6 v7 v8 v9 v10 v11 v12
  generalize hW2 : w1.alloc (.cells _ _) = W2 at hcell hb2 ⊢
  clear hW2
  have hE2 := hE.below' hb2 hE.le
  have Ha2 : Hid (W2.heap[a.block]? = some (.cells ca ta (0, 0))) := (hb2.block _ hal).trans Ha.out
  go_loop [3, 30] (fun a i => ∃ k : Nat, k ≤ 12 ∧ i = .int .i64 k ∧ a = .int .i64 (-1)) (fun _ i => 12 - (intOf i).toNat)
  case atStart => exact ⟨0, by omega, rfl, rfl⟩
  case round =>
    obtain ⟨k, hk, rfl, rfl⟩ := hrel
    by_cases hlt' : k < 12
    · have hc := hcell k (by omega)
      have hlt2 : (k : Int) < 12 := by omega
      clear hcell
      obtain ⟨cb, tb', hb'⟩ := hE2.row (k + 1) (mem_allE.2 ⟨by omega, by omega⟩)
      have H3 := Lib.hid hb'; clear hb'
      have hne : a ≠ E (k + 1) := fun h => by have := (hE2.lt (k + 1) (mem_allE.2 ⟨by omega, by omega⟩)).1; rw [← h] at this; omega
      go_wp2_with (go_at_call 159; refine (is_other _ _ _ _ _ _ _ hne Ha2.out H3.out).mono ?_; rintro e w' ⟨rfl, rfl⟩)
      go_round
      case rel => exact ⟨k + 1, by omega, by go_num, rfl⟩
      case measure => simp [intOf]; omega
    · obtain rfl : k = 12 := by omega
      clear hcell
      go_wp2
      go_ret2
      exact ⟨rfl, hb2⟩

set_option maxHeartbeats 1000000 in
/-- A Fault around a sentinel. -/
theorem code_fault (E : Nat → Addr) (B : Nat) (c : Nat) (h1 : 1 ≤ c) (h12 : c ≤ 12) (at_ : Int) (fb : Nat) (w : World) (hE : Errs allE E B w) (hA : AsVar w) (hat : w.cell? ⟨fb, 0, none⟩ = some (.int .i64 at_)) (her : w.cell? ⟨fb, 1, none⟩ = some (.iface 395 (.pointer (some (E c))))) :
    Calls Tryz.prog 79 #[.iface 150 (.pointer (some ⟨fb, 0, none⟩))] w fun e w' => e = .returned (.tuple #[.int .i64 c, .int .i64 at_]) ∧ Below w.heap.size w w' := by
  have hif := isIfaceE
  have hA1 : ∀ o, AsVar (w.alloc o) := fun o => hA.below (B := w.heap.size) ((Below.refl _ _).alloc (Nat.le_refl _) _) (World.block_lt_of_cell? w ⟨12, 0, none⟩ hA)
  have hfb : fb < w.heap.size := World.block_lt_of_cell? w ⟨fb, 0, none⟩ hat
  go_enter Tryz.func79, Tryz.ntmps79
  go_wp2_with fail
  refine (as_hit _ _ (.pointer none) _ (hA1 _) (by simp) (by simp)).mono ?_
  rintro e w1 ⟨rfl, hg, hf⟩
  have hb1 : Below w.heap.size w w1 := ((Below.refl _ _).alloc (Nat.le_refl _) _).grown hg (by simp) (fun k hk => by cases hk; exact Nat.le_refl _)
  have hf : w1.cell? ⟨w.heap.size, 0, none⟩ = some (.pointer (some ⟨fb, 0, none⟩)) := hf
  have hat1 := (hb1.cell (p := ⟨fb, 0, none⟩) hfb).trans hat
  have her1 := (hb1.cell (p := ⟨fb, 1, none⟩) hfb).trans her
  have hE1 := hE.below' hb1 hE.le
  have v1 := hE1.var 1 (by decide)
  have v2 := hE1.var 2 (by decide)
  have v3 := hE1.var 3 (by decide)
  have v4 := hE1.var 4 (by decide)
  have v5 := hE1.var 5 (by decide)
  have v6 := hE1.var 6 (by decide)
  have v7 := hE1.var 7 (by decide)
  have v8 := hE1.var 8 (by decide)
  have v9 := hE1.var 9 (by decide)
  have v10 := hE1.var 10 (by decide)
  have v11 := hE1.var 11 (by decide)
  have v12 := hE1.var 12 (by decide)
  simp only [errG] at v1 v2 v3 v4 v5 v6 v7 v8 v9 v10 v11 v12
  go_wp2_with fail
  have hcell := fun k hk => sent_cells E k hk w1 27
  have hb2 : Below w.heap.size w (w1.alloc _) := hb1.alloc hb1.size (.cells #[.iface 395 (.pointer (some (E 1))), .iface 395 (.pointer (some (E 2))), .iface 395 (.pointer (some (E 3))), .iface 395 (.pointer (some (E 4))), .iface 395 (.pointer (some (E 5))), .iface 395 (.pointer (some (E 6))), .iface 395 (.pointer (some (E 7))), .iface 395 (.pointer (some (E 8))), .iface 395 (.pointer (some (E 9))), .iface 395 (.pointer (some (E 10))), .iface 395 (.pointer (some (E 11))), .iface 395 (.pointer (some (E 12)))] 27)
  clear v1 v2 v3 v4 v5 v6 v7 v8 v9 v10 v11 v12 hat1 hf
  generalize hW2 : w1.alloc (.cells _ _) = W2 at hcell hb2 ⊢
  clear hW2
  have hE2 := hE.below' hb2 hE.le
  have her2 := (hb2.cell (p := ⟨fb, 1, none⟩) hfb).trans her
  have H4 := Lib.hid her2; clear her2 her her1 hat
  go_loop [3, 30] (fun a i => ∃ k : Nat, k < c ∧ i = .int .i64 k ∧ a = .int .i64 at_) (fun _ i => 12 - (intOf i).toNat)
  case atStart => exact ⟨0, by omega, rfl, rfl⟩
  case round =>
    obtain ⟨k, hk, rfl, rfl⟩ := hrel
    have hc := hcell k (by omega)
    have hlt : (k : Int) < 12 := by omega
    clear hcell
    obtain ⟨ca, ta', ha⟩ := hE2.row c (mem_allE.2 ⟨h1, h12⟩)
    obtain ⟨cb, tb', hb'⟩ := hE2.row (k + 1) (mem_allE.2 ⟨by omega, by omega⟩)
    have H2 := Lib.hid ha; clear ha
    have H3 := Lib.hid hb'; clear hb'
    by_cases he : k + 1 = c
    · subst he
      go_wp2_with (go_at_call 159; refine (is_wrap_same _ _ _ _ H4.out).mono ?_; rintro e w' ⟨rfl, rfl⟩)
      go_ret2
      exact ⟨by simp, hb2⟩
    · have hne : E c ≠ E (k + 1) := fun h => he (hE2.inj _ (mem_allE.2 ⟨h1, h12⟩) _ (mem_allE.2 ⟨by omega, by omega⟩) h).symm
      go_wp2_with (go_at_call 159; refine (is_wrap_other _ _ _ _ _ _ _ _ _ H4.out hne H2.out H3.out).mono ?_; rintro e w' ⟨rfl, rfl⟩)
      go_round
      case rel => exact ⟨k + 1, by omega, by go_num, rfl⟩
      case measure => simp [intOf]; omega
end Go.Proofs.YtpiflhhppigdfaaGreatDoor
