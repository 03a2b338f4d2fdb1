/- Package store in plain words: objects by names, rising; a map's datum of them. Of no program. -/
import Derived.Test.YtepdedfmdafnkaaGreatDoorMem
import Derived.Maps.OwnSet
import Derived.Maps.Ext
import Derived.Sort.KeysCollected
namespace Go.Proofs.YtepdedfmdafnkaaGreatDoor
open Go.RowKit Go.Maps Go.Sort

/-- An object: its name, its text, its day. -/
structure Ob where
  name : Str
  text : Str
  day : Int
  deriving DecidableEq

abbrev bef (a b : Str) : Bool := bytesBefore a b

/-- What a map of objects reads as. -/
abbrev obT (t : Str) (d : Int) : DataW Unit := .agg [.lit (.string t), .lit (.int .i64 d)]
abbrev obD (o : Ob) : Lit × DataW Unit := (.string o.name, obT o.text o.day)
def mapD (l : List Ob) : DataW Unit := .map (l.map obD)

def getO (l : List Ob) (n : Str) : Option Ob := l.find? (fun o => o.name == n)
def putO (x : Ob) : List Ob → List Ob
  | [] => [x]
  | a :: r => if bef x.name a.name then x :: a :: r else a :: putO x r
def dropO (l : List Ob) (n : Str) : List Ob := l.filter (fun o => !(o.name == n))
def Rising (l : List Ob) : Prop := l.Pairwise (fun a b => bef a.name b.name = true)
def total (l : List Ob) : Nat := (l.map (·.text.length)).sum

theorem mapD_nil : mapD [] = .map [] := rfl
theorem has_mapD (l : List Ob) (n : Str) : has (mapD l) (.string n) = (getO l n).isSome := by
  unfold mapD getO
  rw [has_eq]
  induction l with
  | nil => rfl
  | cons a r ih =>
    rw [List.map_cons, List.any_cons, ih, List.find?_cons]
    cases h : a.name == n with
    | true => simp [Lit.sameKey, h]
    | false => simp [Lit.sameKey, h]
theorem atKey_map (es : List (Lit × DataW Unit)) (k : Lit) (z : DataW Unit) : (DataW.map es).atKey k z = ((es.find? (fun p => p.1.sameKey k)).map (·.2)).getD z := by
  unfold DataW.atKey
  simp only
  cases es.find? (fun p => p.1.sameKey k) <;> rfl
theorem at_mapD (l : List Ob) (n : Str) (z : DataW Unit) : (mapD l).atKey (.string n) z = ((getO l n).map fun o => obT o.text o.day).getD z := by
  unfold mapD
  rw [atKey_map]
  unfold getO
  congr 1
  induction l with
  | nil => rfl
  | cons a r ih =>
    rw [List.map_cons, List.find?_cons, List.find?_cons]
    have : (obD a).1.sameKey (.string n) = (a.name == n) := rfl
    rw [this]
    cases h : a.name == n with
    | true => rfl
    | false => exact ih
theorem size_mapD (l : List Ob) : size (mapD l) = l.length := by unfold mapD; rw [size_eq, List.length_map]
theorem keys_mapD (l : List Ob) : strKeys (mapD l) = l.map (·.name) := by
  unfold mapD strKeys
  simp [strOf]
theorem insert_mapD (x : Ob) : ∀ l : List Ob, DataW.insert (obD x) (l.map obD) = (putO x l).map obD
  | [] => rfl
  | a :: r => by
    rw [List.map_cons, DataW.insert, putO]
    have : (obD x).1.before (obD a).1 = bef x.name a.name := rfl
    rw [this]
    cases bef x.name a.name with
    | true => rfl
    | false => simp only [Bool.false_eq_true, if_false, List.map_cons]; rw [insert_mapD x r]
theorem getO_none {l : List Ob} {n : Str} : getO l n = none ↔ ∀ o ∈ l, o.name ≠ n := by
  unfold getO; rw [List.find?_eq_none]; simp
theorem put_mapD {l : List Ob} {x : Ob} (h : getO l x.name = none) : (mapD l).put (.string x.name) (obT x.text x.day) = mapD (putO x l) := by
  unfold mapD DataW.put
  have : (l.map obD).filter (fun p => !p.1.sameKey (.string x.name)) = l.map obD := by
    rw [List.filter_eq_self]
    intro p hp
    obtain ⟨o, ho, rfl⟩ := List.mem_map.1 hp
    have := getO_none.1 h o ho
    simpa [obD, Lit.sameKey] using this
  simp only [this]
  exact congrArg DataW.map (insert_mapD x l)
theorem del_mapD (l : List Ob) (n : Str) : (mapD l).del (.string n) = mapD (dropO l n) := by
  unfold mapD DataW.del dropO
  simp only
  rw [List.filter_map]
  rfl

theorem putO_perm (x : Ob) : ∀ l : List Ob, (putO x l).Perm (x :: l)
  | [] => .refl _
  | a :: r => by
    unfold putO
    split
    · exact .refl _
    · exact ((putO_perm x r).cons a).trans (.swap _ _ _)
theorem putO_length (x : Ob) (l : List Ob) : (putO x l).length = l.length + 1 := by rw [(putO_perm x l).length_eq]; rfl
theorem mem_putO {x o : Ob} {l : List Ob} : o ∈ putO x l ↔ o = x ∨ o ∈ l := by rw [(putO_perm x l).mem_iff, List.mem_cons]
theorem total_putO (x : Ob) (l : List Ob) : total (putO x l) = total l + x.text.length := by
  unfold total
  rw [((putO_perm x l).map _).sum_nat, List.map_cons, List.sum_cons]; omega
theorem bef_irr (a : Str) : bef a a = false := WideAt.bytes_irrefl a
theorem bef_tri {a b : Str} (h : a ≠ b) (h2 : bef a b = false) : bef b a = true := by
  rcases WideAt.bytes_total a b h with h' | h'
  · have h2 : bytesBefore a b = false := h2
    rw [h2] at h'; cases h'
  · exact h'
theorem bef_trans {a b c : Str} (h : bef a b = true) (h2 : bef b c = true) : bef a c = true := WideShapes.bytes_trans a b c h h2
theorem putO_rising {x : Ob} : ∀ {l : List Ob}, Rising l → getO l x.name = none → Rising (putO x l)
  | [], _, _ => by simp [putO, Rising]
  | a :: r, h, hn => by
    have hn' := getO_none.1 hn
    have hr : Rising r := (List.pairwise_cons.1 h).2
    have ha := (List.pairwise_cons.1 h).1
    unfold putO
    split
    · rename_i hb
      exact List.pairwise_cons.2 ⟨fun o ho => by
        rcases List.mem_cons.1 ho with rfl | ho
        · exact hb
        · exact bef_trans hb (ha o ho), h⟩
    · rename_i hb
      refine List.pairwise_cons.2 ⟨fun o ho => ?_, putO_rising hr (getO_none.2 fun o ho => hn' o (List.mem_cons_of_mem _ ho))⟩
      rcases mem_putO.1 ho with rfl | ho
      · exact bef_tri (fun e => hn' a (List.mem_cons_self ..) e.symm) (by simpa using hb)
      · exact ha o ho
theorem dropO_rising {l : List Ob} (h : Rising l) (n : Str) : Rising (dropO l n) := h.filter _
theorem getO_mem {l : List Ob} {n : Str} {o : Ob} (h : getO l n = some o) : o ∈ l ∧ o.name = n := by
  unfold getO at h
  exact ⟨List.mem_of_find?_eq_some h, by simpa using List.find?_some h⟩
theorem Rising.apart {l : List Ob} (h : Rising l) : l.Pairwise (fun a b => a.name ≠ b.name) := h.imp fun {a b} hb e => by rw [e, bef_irr] at hb; cases hb
theorem getO_of_mem {l : List Ob} (h : Rising l) {o : Ob} (ho : o ∈ l) : getO l o.name = some o := by
  induction l with
  | nil => cases ho
  | cons a r ih =>
    have ha := (List.pairwise_cons.1 h.apart).1
    unfold getO
    rw [List.find?_cons]
    rcases List.mem_cons.1 ho with rfl | ho
    · simp
    · have : (a.name == o.name) = false := beq_eq_false_iff_ne.2 (ha o ho)
      rw [this]
      exact ih (List.pairwise_cons.1 h).2 ho
theorem getO_put_same {l : List Ob} (h : Rising l) {x : Ob} (hn : getO l x.name = none) : getO (putO x l) x.name = some x := getO_of_mem (putO_rising h hn) (mem_putO.2 (.inl rfl))
theorem getO_put_other {l : List Ob} (h : Rising l) {x : Ob} (hn : getO l x.name = none) {n : Str} (hne : n ≠ x.name) : getO (putO x l) n = getO l n := by
  cases hg : getO l n with
  | none =>
    refine getO_none.2 fun o ho => ?_
    rcases mem_putO.1 ho with rfl | ho
    · exact hne.symm
    · exact getO_none.1 hg o ho
  | some o =>
    obtain ⟨ho, rfl⟩ := getO_mem hg
    exact getO_of_mem (putO_rising h hn) (mem_putO.2 (.inr ho))
theorem getO_drop_same (l : List Ob) (n : Str) : getO (dropO l n) n = none := getO_none.2 fun o ho => by
  have := (List.mem_filter.1 ho).2; simpa using this
theorem getO_drop_other {l : List Ob} (h : Rising l) {n m : Str} (hne : m ≠ n) : getO (dropO l n) m = getO l m := by
  cases hg : getO l m with
  | none => exact getO_none.2 fun o ho => getO_none.1 hg o (List.mem_filter.1 ho).1
  | some o =>
    obtain ⟨ho, rfl⟩ := getO_mem hg
    exact getO_of_mem (dropO_rising h n) (List.mem_filter.2 ⟨ho, by simpa using hne⟩)
end Go.Proofs.YtepdedfmdafnkaaGreatDoor
