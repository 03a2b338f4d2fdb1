/- Lists of named things, rising by name; rows split in groups: in plain words. Where a name is put in a rising list. In plain words. row.Compare, row.Less: the walks; what they call of package cmp. slices.Values, AppendSeq, Collect at []api.Row: a range over a function. Slices of rows, held by names, each in a block of its own. part.Split: its map, its groups: what the walk stands on. DERIVED: THE SHELF's CONTRACTS AT THIS DUMP, IN PLAIN WORDS (tools/lay-plain.mjs out of 'TryzSortF.lean', which tools/lay-shelf.mjs wrote): THE SAME DECLARATIONS UNDER THE SAME NAMES: 'import', 'namespace', 'open', 'def', 'theorem' AND NOTHING ELSE: no command of the shelf's: FOR A HAND-IN. Each laying: the table of numbers ('.._ren') and one theorem, a field a fact of the dump's own or the kernel's comparison; each contract: ONE APPLICATION. -/
import Derived.Test.YtlfkjbdkbdcdnaaGreatDoorBx3
import Derived.Test.YtlfkjbdkbdcdnaaGreatDoorBx4
import Derived.Test.YtlfkjbdkbdcdnaaGreatDoorBx6
import Derived.Deep.RegionHeld3
import Derived.Deep.CutBlock
import Derived.Deep.DeepCutAuto
import Derived.RangeFuncBox
import Derived.RangeFuncNested
import Derived.RangeFuncLeaves
import Derived.Shelf.Abstract
import Derived.WalkKit
import Derived.OwnWalkIn
import Derived.TacticsInMore
import Derived.LoopNIn
import Derived.LoopIn
import Derived.Maps.AppendAt
import Derived.Test.YtlfkjbdkbdcdnaaGreatDoorBx5
import Derived.Maps.OwnOps
import Derived.Shelf.SlSortCmp.WholeK
import Derived.Test.YtlfkjbdkbdcdnaaGreatDoorProg
namespace Go.Proofs.YtlfkjbdkbdcdnaaGreatDoor
open Go.RowKit Go.Maps

variable {α β : Type}
def insP (k : Str) (x : α) : List (Str × α) → List (Str × α)
  | [] => [(k, x)]
  | a :: r => if bef k a.1 then (k, x) :: a :: r else a :: insP k x r
def dropP (k : Str) (l : List (Str × α)) : List (Str × α) := l.filter (fun a => !(a.1 == k))
def putP (k : Str) (x : α) (l : List (Str × α)) : List (Str × α) := insP k x (dropP k l)
def getP (k : Str) (l : List (Str × α)) : Option α := (l.find? (fun a => a.1 == k)).map (·.2)
def RisP (l : List (Str × α)) : Prop := l.Pairwise (fun a b => bef a.1 b.1 = true)

theorem insP_perm (k : Str) (x : α) : ∀ l : List (Str × α), (insP k x l).Perm ((k, x) :: l)
  | [] => .refl _
  | a :: r => by
    unfold insP
    split
    · exact .refl _
    · exact ((insP_perm k x r).cons a).trans (.swap _ _ _)
theorem mem_putP {k : Str} {x : α} {l : List (Str × α)} {a : Str × α} : a ∈ putP k x l ↔ a = (k, x) ∨ (a ∈ l ∧ a.1 ≠ k) := by
  unfold putP
  rw [(insP_perm k x _).mem_iff, List.mem_cons]
  unfold dropP
  simp [List.mem_filter]
theorem insP_rising {k : Str} {x : α} : ∀ {l : List (Str × α)}, RisP l → (∀ a ∈ l, a.1 ≠ k) → RisP (insP k x l)
  | [], _, _ => by simp [insP, RisP]
  | a :: r, h, hn => by
    have hr : RisP r := (List.pairwise_cons.1 h).2
    have ha := (List.pairwise_cons.1 h).1
    unfold insP
    split
    · rename_i hb
      refine List.pairwise_cons.2 ⟨fun o ho => ?_, h⟩
      rcases List.mem_cons.1 ho with rfl | ho
      · exact hb
      · exact bef_trans hb (ha o ho)
    · rename_i hb
      have hba : bef a.1 k = true := bef_tri (fun e => hn a (by simp) e.symm) (by simpa using hb)
      refine List.pairwise_cons.2 ⟨fun o ho => ?_, insP_rising hr (fun o ho => hn o (List.mem_cons_of_mem _ ho))⟩
      rcases List.mem_cons.1 ((insP_perm k x r).mem_iff.1 ho) with rfl | ho
      · exact hba
      · exact ha o ho
theorem putP_rising {k : Str} {x : α} {l : List (Str × α)} (h : RisP l) : RisP (putP k x l) :=
  insP_rising (h.filter _) (fun a ha => by simpa using (List.mem_filter.1 ha).2)
theorem RisP.apart {l : List (Str × α)} (h : RisP l) : l.Pairwise (fun a b => a.1 ≠ b.1) := h.imp fun {a b} hb e => by rw [e, bef_irr] at hb; cases hb
theorem getP_none {k : Str} {l : List (Str × α)} : getP k l = none ↔ ∀ a ∈ l, a.1 ≠ k := by
  unfold getP; rw [Option.map_eq_none_iff, List.find?_eq_none]; simp
theorem getP_mem {k : Str} {x : α} {l : List (Str × α)} (h : getP k l = some x) : (k, x) ∈ l := by
  unfold getP at h
  obtain ⟨a, ha, rfl⟩ := Option.map_eq_some_iff.1 h
  have h1 := List.mem_of_find?_eq_some ha
  have h2 := List.find?_some ha
  have : a.1 = k := by simpa using h2
  rw [← this]; exact h1
theorem getP_of_mem {k : Str} {x : α} : ∀ {l : List (Str × α)}, RisP l → (k, x) ∈ l → getP k l = some x
  | a :: r, h, hm => by
    unfold getP
    rw [List.find?_cons]
    rcases List.mem_cons.1 hm with rfl | hm
    · simp
    · have hne : a.1 ≠ k := (List.pairwise_cons.1 h.apart).1 _ hm
      have : (a.1 == k) = false := by simpa using hne
      rw [this]
      exact getP_of_mem (List.pairwise_cons.1 h).2 hm
theorem getP_iff {k : Str} {x : α} {l : List (Str × α)} (h : RisP l) : getP k l = some x ↔ (k, x) ∈ l := ⟨getP_mem, getP_of_mem h⟩
theorem getP_put_same {k : Str} {x : α} {l : List (Str × α)} (h : RisP l) : getP k (putP k x l) = some x := getP_of_mem (putP_rising h) (mem_putP.2 (.inl rfl))
theorem getP_put_other {k j : Str} {x : α} {l : List (Str × α)} (h : RisP l) (hne : j ≠ k) : getP j (putP k x l) = getP j l := by
  apply Option.ext
  intro y
  rw [getP_iff (putP_rising h), getP_iff h, mem_putP]
  constructor
  · rintro (e | e)
    · exact absurd (congrArg Prod.fst e) hne
    · exact e.1
  · exact fun e => .inr ⟨e, hne⟩
theorem insP_keys (k : Str) (x : α) (y : β) : ∀ {l : List (Str × α)} {m : List (Str × β)}, l.map (·.1) = m.map (·.1) → (insP k x l).map (·.1) = (insP k y m).map (·.1)
  | [], [], _ => rfl
  | a :: r, b :: s, h => by
    simp only [List.map_cons, List.cons.injEq] at h
    unfold insP
    rw [h.1]
    split
    · simp [h.1, h.2]
    · simp only [List.map_cons, List.cons.injEq]; exact ⟨h.1, insP_keys k x y h.2⟩
theorem dropP_keys (k : Str) : ∀ {l : List (Str × α)} {m : List (Str × β)}, l.map (·.1) = m.map (·.1) → (dropP k l).map (·.1) = (dropP k m).map (·.1)
  | [], [], _ => rfl
  | a :: r, b :: s, h => by
    simp only [List.map_cons, List.cons.injEq] at h
    have ih := dropP_keys k h.2
    unfold dropP at ih ⊢
    rw [List.filter_cons, List.filter_cons, h.1]
    split
    · simp [h.1, ih]
    · exact ih
theorem putP_keys (k : Str) (x : α) (y : β) {l : List (Str × α)} {m : List (Str × β)} (h : l.map (·.1) = m.map (·.1)) : (putP k x l).map (·.1) = (putP k y m).map (·.1) :=
  insP_keys k x y (dropP_keys k h)
theorem getP_keys {k : Str} : ∀ {l : List (Str × α)} {m : List (Str × β)}, l.map (·.1) = m.map (·.1) → (getP k l = none ↔ getP k m = none) := fun {l m} h => by
  rw [getP_none, getP_none]
  have e : ∀ {γ : Type} (q : List (Str × γ)), (∀ a ∈ q, a.1 ≠ k) ↔ k ∉ q.map (·.1) := fun q => by
    simp only [List.mem_map, not_exists, not_and]
  rw [e, e, h]
theorem dropP_none {k : Str} {l : List (Str × α)} (h : getP k l = none) : dropP k l = l := by
  unfold dropP; rw [List.filter_eq_self]
  intro a ha
  simpa using getP_none.1 h a ha
theorem perm_drop {k : Str} {x : α} : ∀ {l : List (Str × α)}, RisP l → (k, x) ∈ l → l.Perm ((k, x) :: dropP k l)
  | a :: r, h, hm => by
    have hr : RisP r := (List.pairwise_cons.1 h).2
    unfold dropP
    rw [List.filter_cons]
    by_cases hk : a.1 = k
    · have hd : dropP k r = r := dropP_none (getP_none.2 fun b hb e => (List.pairwise_cons.1 h.apart).1 b hb (hk.trans e.symm))
      have hax : a = (k, x) := by
        rcases List.mem_cons.1 hm with e | e
        · exact e.symm
        · exact absurd hk ((List.pairwise_cons.1 h.apart).1 _ e)
      have : (!(a.1 == k)) = false := by simpa using hk
      rw [this]
      simp only [Bool.false_eq_true, if_false]
      unfold dropP at hd
      rw [hd, hax]
    · have : (!(a.1 == k)) = true := by simpa using hk
      rw [this, if_pos rfl]
      have hm' : (k, x) ∈ r := by
        rcases List.mem_cons.1 hm with e | e
        · exact absurd (congrArg Prod.fst e).symm hk
        · exact e
      exact ((perm_drop hr hm').cons a).trans (.swap _ _ _)

/-- Rows split by the names of their groups. -/
def splitG (f : Rw → Str) (l : List Rw) : List (Str × List Rw) := l.foldl (fun gs r => putP (f r) ((getP (f r) gs).getD [] ++ [r]) gs) []
theorem splitG_snoc (f : Rw → Str) (l : List Rw) (r : Rw) : splitG f (l ++ [r]) = putP (f r) ((getP (f r) (splitG f l)).getD [] ++ [r]) (splitG f l) := by
  unfold splitG; rw [List.foldl_append]; rfl
theorem snoc_ind {p : List Rw → Prop} (h0 : p []) (h1 : ∀ l r, p l → p (l ++ [r])) (l : List Rw) : p l := by
  rw [← List.reverse_reverse l]
  induction l.reverse with
  | nil => exact h0
  | cons a r ih => rw [List.reverse_cons]; exact h1 _ _ ih
theorem splitG_rising (f : Rw → Str) (l : List Rw) : RisP (splitG f l) :=
  snoc_ind (p := fun l => RisP (splitG f l)) List.Pairwise.nil (fun l r ih => by rw [splitG_snoc]; exact putP_rising ih) l
theorem splitG_mem (f : Rw → Str) (l : List Rw) : ∀ a ∈ splitG f l, a.2 ≠ [] ∧ ∀ r ∈ a.2, f r = a.1 := by
  refine snoc_ind (p := fun l => ∀ a ∈ splitG f l, a.2 ≠ [] ∧ ∀ r ∈ a.2, f r = a.1) (fun a h => by cases h) (fun l r ih a ha => ?_) l
  rw [splitG_snoc] at ha
  rcases mem_putP.1 ha with rfl | ⟨ha, -⟩
  · refine ⟨by simp, fun q hq => ?_⟩
    rcases List.mem_append.1 hq with hq | hq
    · cases hg : getP (f r) (splitG f l) with
      | none => rw [hg] at hq; cases hq
      | some m => rw [hg] at hq; exact (ih _ (getP_mem hg)).2 q hq
    · rw [List.mem_singleton.1 hq]
  · exact ih a ha
theorem splitG_perm (f : Rw → Str) (l : List Rw) : ((splitG f l).flatMap (·.2)).Perm l := by
  refine snoc_ind (p := fun l => ((splitG f l).flatMap (·.2)).Perm l) .nil (fun l r ih => ?_) l
  rw [splitG_snoc]
  have h1 : (putP (f r) ((getP (f r) (splitG f l)).getD [] ++ [r]) (splitG f l)).Perm ((f r, (getP (f r) (splitG f l)).getD [] ++ [r]) :: dropP (f r) (splitG f l)) := insP_perm _ _ _
  refine (h1.flatMap_right _).trans ?_
  rw [List.flatMap_cons]
  cases hg : getP (f r) (splitG f l) with
  | none =>
    rw [dropP_none hg]
    exact (List.perm_append_comm).trans (ih.append_right [r])
  | some m =>
    have h2 := (perm_drop (splitG_rising f l) (getP_mem hg)).flatMap_right (fun a : Str × List Rw => a.2)
    rw [List.flatMap_cons] at h2
    have h3 := h2.symm.trans ih
    show ((m ++ [r]) ++ (dropP (f r) (splitG f l)).flatMap (·.2)).Perm (l ++ [r])
    rw [List.append_assoc]
    refine (List.Perm.append_left m List.perm_append_comm).trans ?_
    rw [← List.append_assoc]
    exact h3.append_right [r]
theorem splitG_len (f : Rw → Str) (l : List Rw) : (splitG f l).length ≤ l.length ∧ ∀ a ∈ splitG f l, a.2.length ≤ l.length := by
  have h1 := (splitG_perm f l).length_eq
  rw [List.length_flatMap] at h1
  constructor
  · rw [← h1]
    have : ∀ q : List (Str × List Rw), (∀ a ∈ q, a.2 ≠ []) → q.length ≤ (q.map fun a => a.2.length).sum := fun q => by
      induction q with
      | nil => intro _; simp
      | cons a r ih =>
        intro h
        have h0 := h a (by simp)
        have := ih fun b hb => h b (List.mem_cons_of_mem _ hb)
        have h2 : 0 < a.2.length := List.length_pos_iff.2 h0
        simp only [List.length_cons, List.map_cons, List.sum_cons]
        omega
    exact this _ fun a ha => (splitG_mem f l a ha).1
  · intro a ha
    rw [← h1]
    have : ∀ q : List (Str × List Rw), a ∈ q → a.2.length ≤ (q.map fun a => a.2.length).sum := fun q => by
      induction q with
      | nil => intro h; cases h
      | cons b r ih =>
        intro h
        simp only [List.map_cons, List.sum_cons]
        rcases List.mem_cons.1 h with rfl | h
        · omega
        · have := ih h; omega
    exact this _ ha

/-- What a map of values reads as. -/
def heldR (v : Value) : Option (DataW Value × List MemPlace) := some (.held v, [])
def mapV (xs : List (Str × Value)) : DataW Value := .map (xs.map fun a => (.string a.1, .held a.2))
theorem insert_mapV (k : Str) (v : Value) : ∀ xs : List (Str × Value), DataW.insert (.string k, .held v) (xs.map fun a => (Lit.string a.1, DataW.held a.2)) = (insP k v xs).map fun a => (Lit.string a.1, DataW.held a.2)
  | [] => rfl
  | a :: r => by
    rw [List.map_cons, DataW.insert, insP]
    have : (Lit.string k).before (Lit.string a.1) = bef k a.1 := rfl
    rw [this]
    cases bef k a.1 with
    | true => rfl
    | false => simp only [Bool.false_eq_true, if_false, List.map_cons]; rw [insert_mapV k v r]
theorem put_mapV (k : Str) (v : Value) (xs : List (Str × Value)) : (mapV xs).put (.string k) (.held v) = mapV (putP k v xs) := by
  unfold mapV DataW.put putP
  simp only
  rw [← insert_mapV, List.filter_map]
  rfl
theorem at_mapV (k : Str) (z : Value) (xs : List (Str × Value)) : (mapV xs).atKey (.string k) (.held z) = .held ((getP k xs).getD z) := by
  unfold mapV DataW.atKey getP
  simp only
  rw [List.find?_map]
  have : ((fun p : Lit × DataW Value => p.1.sameKey (.string k)) ∘ fun a : Str × Value => (Lit.string a.1, DataW.held a.2)) = fun a : Str × Value => a.1 == k := by
    funext a; rfl
  rw [this]
  cases xs.find? (fun a => a.1 == k) <;> rfl
theorem size_mapV (xs : List (Str × Value)) : size (mapV xs) = xs.length := by unfold mapV; rw [size_eq, List.length_map]
theorem keys_mapV (xs : List (Str × Value)) : strKeys (mapV xs) = xs.map (·.1) := by
  unfold mapV strKeys
  simp [strOf]
end Go.Proofs.YtlfkjbdkbdcdnaaGreatDoor
namespace Go.Proofs.YtlfkjbdkbdcdnaaGreatDoor
open Go.RowKit

variable {α : Type}
theorem bef_asym {a b : Str} (h : bef a b = true) : bef b a = false := by
  cases hb : bef b a with
  | false => rfl
  | true =>
    have := bef_trans h hb
    rw [bef_irr] at this; cases this
theorem insP_mid {k : Str} {v : α} : ∀ {p q : List (Str × α)}, (∀ a ∈ p, bef a.1 k = true) → (∀ a ∈ q, bef k a.1 = true) → insP k v (p ++ q) = p ++ (k, v) :: q
  | [], [], _, _ => rfl
  | [], b :: q, _, h2 => by
    show insP k v (b :: q) = (k, v) :: b :: q
    unfold insP
    rw [if_pos (h2 b (by simp))]
  | a :: p, q, h1, h2 => by
    show insP k v (a :: (p ++ q)) = a :: (p ++ (k, v) :: q)
    unfold insP
    rw [if_neg (by rw [bef_asym (h1 a (by simp))]; decide), insP_mid (fun x hx => h1 x (by simp [hx])) h2]
theorem putP_mid {k : Str} {v : α} {p q : List (Str × α)} (h1 : ∀ a ∈ p, bef a.1 k = true) (h2 : ∀ a ∈ q, bef k a.1 = true) : getP k (p ++ q) = none ∧ putP k v (p ++ q) = p ++ (k, v) :: q := by
  have hn : getP k (p ++ q) = none := getP_none.2 fun a ha e => by
    rcases List.mem_append.1 ha with h | h
    · have := h1 a h; rw [e, bef_irr] at this; cases this
    · have := h2 a h; rw [e, bef_irr] at this; cases this
  refine ⟨hn, ?_⟩
  unfold putP
  rw [dropP_none hn, insP_mid h1 h2]
theorem RisP.mid {a : Str × α} {p q : List (Str × α)} (h : RisP (p ++ a :: q)) : (∀ x ∈ p, bef x.1 a.1 = true) ∧ (∀ x ∈ q, bef a.1 x.1 = true) := by
  obtain ⟨-, h2, h3⟩ := List.pairwise_append.1 h
  exact ⟨fun x hx => h3 x hx a (by simp), (List.pairwise_cons.1 h2).1⟩
theorem putP_same {a : Str × α} {v : α} {p q : List (Str × α)} (h : RisP (p ++ a :: q)) : getP a.1 (p ++ a :: q) = some a.2 ∧ putP a.1 v (p ++ a :: q) = p ++ (a.1, v) :: q := by
  obtain ⟨h1, h2⟩ := h.mid
  refine ⟨getP_of_mem h (by simp), ?_⟩
  have hd : dropP a.1 (p ++ a :: q) = p ++ q := by
    unfold dropP
    rw [List.filter_append, List.filter_cons]
    have e1 : p.filter (fun x => !(x.1 == a.1)) = p := List.filter_eq_self.2 fun x hx => by
      have := h1 x hx
      simp only [Bool.not_eq_true', beq_eq_false_iff_ne, ne_eq]
      intro e; rw [e, bef_irr] at this; cases this
    have e2 : q.filter (fun x => !(x.1 == a.1)) = q := List.filter_eq_self.2 fun x hx => by
      have := h2 x hx
      simp only [Bool.not_eq_true', beq_eq_false_iff_ne, ne_eq]
      intro e; rw [e, bef_irr] at this; cases this
    rw [e1, e2]; simp
  unfold putP
  rw [hd, insP_mid h1 h2]
/-- Where the walk stands that seeks a name's place. -/
theorem place_low {xs : List (Str × α)} {k : Str} {p : Nat} (h1 : ∀ j < p, ∀ a, xs[j]? = some a → bef a.1 k = true) : ∀ a ∈ xs.take p, bef a.1 k = true := fun a ha => by
  obtain ⟨j, hj, e⟩ := List.getElem_of_mem ha
  have hj' : j < p := by rw [List.length_take] at hj; omega
  have : xs[j]? = some a := by rw [← e, List.getElem_take, List.getElem?_eq_getElem]
  exact h1 j hj' a this
theorem place_high {xs : List (Str × α)} {k : Str} {p : Nat} (h : RisP xs) (h2 : ∀ a, xs[p]? = some a → bef k a.1 = true) : ∀ a ∈ xs.drop p, bef k a.1 = true := fun a ha => by
  obtain ⟨j, hj, e⟩ := List.getElem_of_mem ha
  rw [List.getElem_drop] at e
  rw [List.length_drop] at hj
  rcases Nat.eq_zero_or_pos j with h0 | h0
  · subst h0
    exact h2 a (by rw [← e]; simp)
  · have hp : xs[p]? = some (xs[p]'(by omega)) := List.getElem?_eq_getElem (by omega)
    have := List.pairwise_iff_getElem.1 h p (p + j) (by omega) (by omega) (by omega)
    rw [e] at this
    exact bef_trans (h2 _ hp) this
end Go.Proofs.YtlfkjbdkbdcdnaaGreatDoor
namespace Go.Proofs.YtlfkjbdkbdcdnaaGreatDoor
open Go.RowKit

theorem isNaNI_any (n : Int) (w : World) : Calls Tryz.prog 156 #[.int .i64 n] w fun e w' => e = .returned (.bool false) ∧ w = w' := by
  have g : (n != n) = false := by simp
  go_enter Tryz.func156, Tryz.ntmps156
  go_wp2_with fail
  go_ret
  exact ⟨rfl, rfl⟩
theorem isNaNS_any (s : Str) (w : World) : Calls Tryz.prog 166 #[S s] w fun e w' => e = .returned (.bool false) ∧ w = w' := by
  have g : (s != s) = false := by simp
  go_enter Tryz.func166, Tryz.ntmps166
  go_wp2_with fail
  go_ret
  exact ⟨rfl, rfl⟩
theorem cmpI_ways (a b : Int) : (a < b ∧ cmpI a b = -1) ∨ (decide (a < b) = false ∧ ((b < a ∧ cmpI a b = 1) ∨ (decide (b < a) = false ∧ cmpI a b = 0))) := by
  unfold cmpI
  by_cases h1 : a < b
  · exact .inl ⟨h1, if_pos h1⟩
  · refine .inr ⟨decide_eq_false h1, ?_⟩
    rw [if_neg h1]
    by_cases h2 : b < a
    · exact .inl ⟨h2, if_pos h2⟩
    · exact .inr ⟨decide_eq_false h2, if_neg h2⟩
theorem cmpS_ways (a b : Str) : (Op.bytesLess a b = true ∧ cmpS a b = -1) ∨ (Op.bytesLess a b = false ∧ (((a == b) = false ∧ cmpS a b = 1) ∨ ((a == b) = true ∧ cmpS a b = 0))) := by
  unfold cmpS
  rw [less_befR]
  cases h1 : bef a b with
  | true => exact .inl ⟨rfl, if_pos rfl⟩
  | false =>
    refine .inr ⟨rfl, ?_⟩
    rw [if_neg (by decide)]
    by_cases he : a = b
    · refine .inr ⟨by simpa using he, ?_⟩
      rw [if_neg (by rw [he, bef_irrefl]; decide)]
    · refine .inl ⟨by simpa using he, ?_⟩
      rcases bef_or he with h2 | h2
      · rw [h1] at h2; cases h2
      · exact if_pos h2
theorem cmpInt_any (a b : Int) (w : World) : Calls Tryz.prog 130 #[.int .i64 a, .int .i64 b] w fun e w' => e = .returned (.int .i64 (cmpI a b)) ∧ w = w' := by
  rcases cmpI_ways a b with ⟨h1, hc⟩ | ⟨h1, ⟨h2, hc⟩ | ⟨h2, hc⟩⟩
  all_goals
    rw [hc]
    clear hc
    go_enter Tryz.func130, Tryz.ntmps130
    go_wp2_with (go_at_call 156; refine (isNaNI_any _ _).mono ?_; rintro e w' ⟨rfl, rfl⟩)
    go_ret
    exact ⟨rfl, rfl⟩
theorem cmpStr_any (a b : Str) (w : World) : Calls Tryz.prog 129 #[S a, S b] w fun e w' => e = .returned (.int .i64 (cmpS a b)) ∧ w = w' := by
  rcases cmpS_ways a b with ⟨h1, hc⟩ | ⟨h1, ⟨h2, hc⟩ | ⟨h2, hc⟩⟩
  all_goals
    rw [hc]
    clear hc
    go_enter Tryz.func129, Tryz.ntmps129
    go_wp2_with (go_at_call 166; refine (isNaNS_any _ _).mono ?_; rintro e w' ⟨rfl, rfl⟩)
    go_ret
    exact ⟨rfl, rfl⟩
def orL : List Int → Int
  | [] => 0
  | x :: r => if x ≠ 0 then x else orL r
theorem orL_at : ∀ {l : List Int} {k : Nat} {x : Int}, (∀ j < k, l[j]? = some 0) → l[k]? = some x → x ≠ 0 → orL l = x
  | [], k, x, _, h, _ => by simp at h
  | y :: r, 0, x, _, h, hx => by
    obtain rfl : y = x := by simpa using h
    exact if_pos hx
  | y :: r, k + 1, x, h0, h, hx => by
    obtain rfl : y = 0 := by simpa using h0 0 (by omega)
    show (if (0 : Int) ≠ 0 then 0 else orL r) = x
    rw [if_neg (by simp)]
    exact orL_at (k := k) (fun j hj => by simpa using h0 (j + 1) (by omega)) (by simpa using h) hx
theorem orL_all : ∀ {l : List Int}, (∀ j < l.length, l[j]? = some 0) → orL l = 0
  | [], _ => rfl
  | y :: r, h0 => by
    obtain rfl : y = 0 := by simpa using h0 0 (by simp)
    show (if (0 : Int) ≠ 0 then 0 else orL r) = 0
    rw [if_neg (by simp)]
    exact orL_all (fun j hj => by simpa using h0 (j + 1) (by simpa using hj))
theorem orI_any (v : Value) (l : List Int) (w : World) (hl : IntsAt w v l) :
    Calls Tryz.prog 128 #[v] w fun e w' => e = .returned (.int .i64 (orL l)) ∧ w = w' := by
  obtain ⟨a, c, b, o, rfl, ha, hc, hcm, hx⟩ := hl
  unfold maxLen at hcm
  go_enter Tryz.func128, Tryz.ntmps128
  go_wp2_with fail
  go_loop [8] (fun i => ∃ k : Nat, k ≤ l.length ∧ i = .int .i64 k ∧ Hid (∀ j < k, l[j]? = some 0)) (fun i => l.length - (intOf i).toNat)
  case atStart => exact ⟨0, by omega, rfl, Lib.hid fun j hj => absurd hj (by omega)⟩
  case round =>
    obtain ⟨k, hk, rfl, hj⟩ := hrel
    by_cases hlt : k < l.length
    case neg =>
      obtain rfl : k = l.length := by omega
      have f : decide ((l.length : Int) < (l.length : Int)) = false := by simp
      have HE := Lib.hid (orL_all hj.out)
      go_wp2_with fail
      go_ret
      exact ⟨by rw [HE.out]; rfl, rfl⟩
    obtain ⟨x, hxk⟩ := get_ex hlt
    have q0 := hx k x hxk 0 _ rfl
    have i1 := idx_at (c := c) 1 Tryz.underlying39 szInt ha k hlt
    simp only [Nat.add_zero, Nat.mul_one] at q0 i1
    have hk1 : (k : Int) < (l.length : Int) := by omega
    have HX := Lib.hid hxk
    clear hxk
    by_cases h0 : x = 0
    · have g : (x != 0) = false := by simp [h0]
      have H0 := Lib.hid h0
      clear h0
      go_wp2_with fail
      go_round
      case rel => exact ⟨k + 1, by omega, by go_num, Lib.hid fun j hj' => by
        rcases Nat.lt_or_ge j k with h | h
        · exact hj.out j h
        · obtain rfl : j = k := by omega
          rw [HX.out, H0.out]⟩
      case measure => simp [intOf]; omega
    · have g : (x != 0) = true := by simpa using h0
      have HE := Lib.hid (orL_at hj.out HX.out h0)
      clear h0
      go_wp2_with fail
      go_ret
      exact ⟨by rw [HE.out]; rfl, rfl⟩
theorem cmpR_or (a b : Rw) : cmpR a b = orL [cmpS a.part b.part, cmpI a.key b.key, cmpI a.val b.val] := by
  unfold cmpR
  show _ = (if cmpS a.part b.part ≠ 0 then cmpS a.part b.part else if cmpI a.key b.key ≠ 0 then cmpI a.key b.key else if cmpI a.val b.val ≠ 0 then cmpI a.val b.val else 0)
  split
  · rfl
  · split
    · rfl
    · split
      · rfl
      · rename_i h; simpa using h
theorem drewN_grow (w : World) (n : Nat) (os : Array Obj) : (Go.Sort.grow w os).drewN n = Go.Sort.grow (w.drewN n) os := rfl
theorem drew_drewN (w : World) : w.drew = w.drewN 1 := rfl
set_option maxHeartbeats 1000000 in
set_option maxRecDepth 20000 in
theorem rowCompareG_any (a b : Rw) (w : World) :
    Calls Tryz.prog 91 #[rowV a, rowV b] w fun e w' => e = .returned (.int .i64 (cmpR a b)) ∧ ∃ q os', w' = Go.Sort.grow (w.drewN q) os' := by
  obtain ⟨w0, hw0⟩ : ∃ w0, w0 = w.alloc (.cells #[S a.part, .int .i64 a.key, .int .i64 a.val] 36) := ⟨_, rfl⟩
  obtain ⟨w1, hw1⟩ : ∃ w1, w1 = w0.alloc (.cells #[S b.part, .int .i64 b.key, .int .i64 b.val] 36) := ⟨_, rfl⟩
  have hb1 : Below w0.heap.size w0 w1 := hw1 ▸ (Below.refl _ _).alloc (Nat.le_refl _) _
  have hsz : w0.heap.size = w.heap.size + 1 := by rw [hw0]; simp
  have KS := Lib.hid (fun W (h : Below w1.heap.size w1 W) => (⟨rowCells (r := a) hw0 (hb1.trans (h.mono hb1.size)), rowCells (r := b) hw1 h⟩ : _ ∧ _))
  rw [hsz] at KS
  have HW : Hid (w1 = (w.alloc (.cells #[S a.part, .int .i64 a.key, .int .i64 a.val] 36)).alloc (.cells #[S b.part, .int .i64 b.key, .int .i64 b.val] 36)) := Lib.hid (by rw [hw1, hw0])
  have hG : ∃ os, w1 = Go.Sort.grow w os := ⟨_, by rw [HW.out, Go.Sort.alloc_eq_grow, Go.Sort.alloc_eq_grow, Go.Sort.grow_grow]⟩
  have HG := Lib.hid hG
  have HOr := Lib.hid (cmpR_or a b)
  clear hw0 hw1 hb1 hsz hG
  obtain ⟨⟨c0, c1, c2⟩, ⟨d0, d1, d2⟩⟩ := KS.out _ (Bdn (Below.refl w1.heap.size w1) 1)
  obtain ⟨x, hx⟩ : ∃ x, cmpS a.part b.part = x := ⟨_, rfl⟩
  obtain ⟨y, hy⟩ : ∃ y, cmpI a.key b.key = y := ⟨_, rfl⟩
  obtain ⟨z, hz⟩ : ∃ z, cmpI a.val b.val = z := ⟨_, rfl⟩
  have h1 := fun W => cmpStr_any a.part b.part W
  have h2 := fun W => cmpInt_any a.key b.key W
  have h3 := fun W => cmpInt_any a.val b.val W
  rw [hx] at h1; rw [hy] at h2; rw [hz] at h3
  rw [hx, hy, hz] at HOr
  have H1 := Lib.hid h1; have H2 := Lib.hid h2; have H3 := Lib.hid h3
  clear h1 h2 h3 hx hy hz
  go_enter Tryz.func91, Tryz.ntmps91
  go_upto_region 1 with fail
  rw [← HW.out]
  clear w0 HW
  go_wp2_with fail
  go_region_held3 (fun w' => w'.cell? ⟨w.heap.size, 0, none⟩ = some (S a.part) ∧ w'.cell? ⟨w.heap.size, 1, none⟩ = some (.int .i64 a.key) ∧ w'.cell? ⟨w.heap.size, 2, none⟩ = some (.int .i64 a.val) ∧ w'.cell? ⟨w.heap.size + 1, 0, none⟩ = some (S b.part) ∧ w'.cell? ⟨w.heap.size + 1, 1, none⟩ = some (.int .i64 b.key) ∧ w'.cell? ⟨w.heap.size + 1, 2, none⟩ = some (.int .i64 b.val)) (first | exact ⟨c0, c1, c2, d0, d1, d2⟩ | (obtain ⟨⟨q0, q1, q2⟩, q3, q4, q5⟩ := KS.out _ (((Below.refl _ _).alloc (Nat.le_refl _) _).drew); exact ⟨q0, q1, q2, q3, q4, q5⟩) | (obtain ⟨⟨q0, q1, q2⟩, q3, q4, q5⟩ := KS.out _ ((Below.refl _ _).drew.alloc (Nat.le_refl _) _); exact ⟨q0, q1, q2, q3, q4, q5⟩)) (first
    | (go_at_call 129; (with_reducible refine (H1.out _).mono ?_); rintro e w' ⟨rfl, rfl⟩)
    | (go_at_call 130; (with_reducible refine (H2.out _).mono ?_); rintro e w' ⟨rfl, rfl⟩)
    | (go_at_call 130; (with_reducible refine (H3.out _).mono ?_); rintro e w' ⟨rfl, rfl⟩)
    | (go_at_call 128; (with_reducible refine (orI_any _ [x, y, z] _ (by first | exact ints_new [x, y, z] _ _ _ 3 _ rfl rfl rfl (by decide) | exact (ints_new [x, y, z] _ _ _ 3 _ rfl rfl rfl (by decide)).below (Bdn (Below.refl _ _) 1))).mono ?_); rintro e w' ⟨rfl, rfl⟩))
  all_goals
    go_wp2_with fail
    go_ret
    refine ⟨by rw [HOr.out]; rfl, ?_⟩
    obtain ⟨os, ho⟩ := HG.out
    refine ⟨1, os ++ #[.cells #[.int .i64 x, .int .i64 y, .int .i64 z] 3], ?_⟩
    rw [Go.Sort.alloc_eq_grow, ho, Go.Sort.grow_grow]
    rfl
theorem rowCompare_any (a b : Rw) (w : World) :
    Calls Tryz.prog 91 #[rowV a, rowV b] w fun e w' => e = .returned (.int .i64 (cmpR a b)) ∧ Below w.heap.size w w' :=
  (rowCompareG_any a b w).mono fun _ _ ⟨h, q, os, hw⟩ => ⟨h, hw ▸ Bgrow w q os⟩
set_option maxRecDepth 20000 in
theorem rowLess_any (a b : Rw) (w : World) :
    Calls Tryz.prog 88 #[rowV a, rowV b] w fun e w' => e = .returned (.bool (lessR a b)) ∧ Below w.heap.size w w' := by
  obtain ⟨w0, hw0⟩ : ∃ w0, w0 = w.alloc (.cells #[S a.part, .int .i64 a.key, .int .i64 a.val] 36) := ⟨_, rfl⟩
  have hb0 : Below w.heap.size w w0 := hw0 ▸ (Below.refl _ _).alloc (Nat.le_refl _) _
  have hb1 : Below w0.heap.size w0 (w0.alloc (.cells #[S b.part, .int .i64 b.key, .int .i64 b.val] 36)) := (Below.refl _ _).alloc (Nat.le_refl _) _
  obtain ⟨c0, c1, c2⟩ := rowCells (r := a) hw0 hb1
  obtain ⟨d0, d1, d2⟩ := rowCells (r := b) (w := w0) rfl (Below.refl _ _)
  have hsz : w0.heap.size = w.heap.size + 1 := by rw [hw0]; simp
  have hb2 := hb0.trans (hb1.mono hb0.size)
  rw [hsz] at d0 d1 d2
  rw [hw0] at c0 c1 c2 d0 d1 d2 hb2
  have HB2 := Lib.hid hb2
  have HL := Lib.hid (cmpR_less a b)
  have hC := fun W => rowCompare_any a b W
  generalize cmpR a b = k at *
  have HC := Lib.hid hC
  clear hb0 hb1 hb2 hsz hw0 w0 hC
  go_enter Tryz.func88, Tryz.ntmps88
  go_wp2_with fail
  refine (HC.out _).mono ?_
  rintro e w3 ⟨rfl, hb3⟩
  go_wp2_with fail
  go_ret
  exact ⟨ret_bool HL.out, HB2.out.trans (hb3.mono HB2.out.size)⟩
end Go.Proofs.YtlfkjbdkbdcdnaaGreatDoor
namespace Go.Proofs.YtlfkjbdkbdcdnaaGreatDoor
open Go.RowKit Go.Shelf
attribute [local go_sem] Oper.semAt_some

set_option maxRecDepth 100000 in
set_option maxHeartbeats 2000000 in
/-- slices.Values's closure, for every loop body that keeps what lay below n₀. -/
theorem values1R_in (F : Fence) (n : Nat) (h7 : F.fn 127) (hro : F.round = none) (hn : 1 ≤ n) (l Bs n₀ : Nat) (a : Option Addr) (c b o : Nat) (zs : List Rw) (ha : 0 < zs.length → a = some ⟨b, o, none⟩) (hb : 0 < zs.length → b < n₀) (J Jx : List Rw → World → Prop)
    (W : World) (hJ : AbidesFrom W.heap.size J) (hn₀ : n₀ ≤ W.heap.size) (hcm : zs.length ≤ 9223372036854775807)
    (hY : ∀ pre x W1, J pre W1 → pre.length < zs.length → YieldAt F (n - 1) Tryz.prog l #[rowV x] W1 fun e W' =>
      (e = .returned (.bool true) ∧ J (pre ++ [x]) W' ∧ Below n₀ W1 W') ∨ (e = .returned (.bool false) ∧ Jx (pre ++ [x]) W'))
    (hBs : W.cell? ⟨Bs, 0, none⟩ = some (.slice a zs.length c)) (hx : ∀ (k : Nat) (x : Rw), zs[k]? = some x → ∀ (j : Nat) (u : Value), (encR x)[j]? = some u → W.cell? ⟨b, o + k * 3 + j, none⟩ = some u) (h0 : J [] W) :
    CallsIn F n Tryz.prog 127 #[.func (.yield l) #[] #[], .pointer (some ⟨Bs, 0, none⟩)] W fun e W' => (∃ v, e = .returned v) ∧ ((∃ ys, ys = zs ∧ J ys W') ∨ (∃ pre, pre <+: zs ∧ Jx pre W')) := by
  refine callsIn_of_wp Tryz.func127 rfl h7 ?_ hro
  simp only [Tryz.ntmps127, List.size_toArray, List.length_cons, List.length_nil, Nat.reduceAdd, Nat.reduceSub, Array.replicate_succ, Array.replicate_zero, List.push_toArray, List.append_toArray, List.nil_append, List.cons_append]
  gi_wp2
  gi_loopw [7] (fun i wr => ∃ k : Nat, k ≤ zs.length ∧ i = .int .i64 k ∧ J (zs.take k) wr ∧ Below n₀ W wr) (fun i _ => zs.length - (intOf i).toNat)
  case atStart => exact ⟨0, Nat.zero_le _, rfl, h0, Below.refl _ _⟩
  case round =>
    obtain ⟨k, hk, rfl, hJs, hnx⟩ := hrel
    by_cases hlt : k < zs.length
    case neg =>
      obtain rfl : k = zs.length := by omega
      rw [List.take_length] at hJs
      gi_wp2
      go_end0
      exact ⟨⟨_, rfl⟩, .inl ⟨_, rfl, hJs⟩⟩
    obtain ⟨x, hxk⟩ := get_ex hlt
    have hbn := hb (by omega)
    have hcl := fun j u hu => (hnx.cell (p := ⟨b, o + k * 3 + j, none⟩) hbn).trans (hx k x hxk j u hu)
    have c0 := hcl 0 _ rfl
    have c1 := hcl 1 _ rfl
    have c2 := hcl 2 _ rfl
    have i1 := idx_at (c := c) 3 Tryz.underlying22 szRw ha k hlt
    have hk1 : (k : Int) < (zs.length : Int) := by omega
    simp only [Nat.add_zero] at c0 c1 c2
    obtain ⟨e0, e1, e2⟩ := rowCells (r := x) (w := wr) rfl (Below.refl _ _)
    have hJa : J (zs.take k) (wr.alloc (.cells #[S x.part, .int .i64 x.key, .int .i64 x.val] 36)) := hJ _ _ _ none hJs (World.grownBy_alloc wr _ none) (fun r e => by cases e)
    obtain ⟨fn, tmps, assign, body, hy, hR⟩ := hY _ x _ hJa (by rw [List.length_take]; omega)
    have hsn := take_snoc' hxk
    have HSn := Lib.hid hsn
    clear hsn hxk hcl
    gi_wp2
    refine hR.mono ?_
    rintro e W3 (⟨rfl, hJ3, hk3⟩ | ⟨rfl, hJx3⟩)
    · gi_wp2
      go_roundw
      case rel => exact ⟨k + 1, by omega, by simp, by rw [HSn.out]; exact hJ3, (hnx.alloc (Nat.le_trans hn₀ hnx.size) _).trans hk3⟩
      case measure => simp [intOf]; omega
    · gi_wp2
      refine bodyPost_ret (results_none rfl _ _ _) rfl ?_
      exact ⟨⟨_, rfl⟩, .inr ⟨_, by rw [← HSn.out]; exact List.take_prefix _ _, hJx3⟩⟩
theorem valuesR_in (F : Fence) (n : Nat) (h5 : F.fn 90) (hro : F.round = none) (a : Option Addr) (len cap : Nat) (w : World) :
    CallsIn F n Tryz.prog 90 #[.slice a len cap] w fun e w' => e = .returned (.func (.func 127) #[] #[.pointer (some ⟨w.heap.size, 0, none⟩)]) ∧ w' = w.alloc (.cells #[.slice a len cap] 22) := by
  refine callsIn_of_wp Tryz.func90 rfl h5 ?_ hro
  simp only [Tryz.ntmps90, List.size_toArray, List.length_cons, List.length_nil, Nat.reduceAdd, Nat.reduceSub, Array.replicate_succ, Array.replicate_zero, List.push_toArray, List.append_toArray, List.nil_append, List.cons_append]
  gi_wp2
  go_ret
  exact ⟨rfl, rfl⟩
/-- slices.Values(l) hands back a value that yields all of l, in order. -/
theorem valuesR_stops (F : Fence) (n : Nat) (h7 : F.fn 127) (hro : F.round = none) (hn : 1 ≤ n) (Bs n₀ : Nat) (v : Value) (zs : List Rw) (w0 w : World) (hBs : Bs < w.heap.size) (hn₀ : n₀ ≤ w.heap.size)
    (hc : w.cell? ⟨Bs, 0, none⟩ = some v) (hl : RowsAt w0 v zs) (hlow : w0.heap.size ≤ n₀) (hb0 : Below w0.heap.size w0 w) :
    SeqStopsK F n Tryz.prog 127 #[.pointer (some ⟨Bs, 0, none⟩)] (fun x : Rw => #[rowV x]) (Below n₀) (fun ys => ys = zs) (fun pre => pre <+: zs) zs.length w := fun l J Jx W hW hJ _ hY h0 => by
  obtain ⟨a, c, b, o, rfl, ha, hcc, hcm, hx⟩ := hl
  have hbn : 0 < zs.length → b < w0.heap.size := fun h => by
    obtain ⟨x, hxk⟩ := get_ex (l := zs) (k := 0) h
    exact World.block_lt_of_cell? w0 ⟨b, o + 0 * 3 + 0, none⟩ (hx 0 x hxk 0 _ rfl)
  have hbW := hb0.trans (hW.mono hb0.size)
  refine values1R_in F n h7 hro hn l Bs n₀ a c b o zs ha (fun h => Nat.lt_of_lt_of_le (hbn h) hlow) J Jx W hJ (Nat.le_trans hn₀ hW.size) (by unfold maxLen at hcm; omega) hY ((hW.cell (p := ⟨Bs, 0, none⟩) hBs).trans hc) (fun k x hk j u hu => ?_) h0
  have h1 := hx k x hk j u hu
  exact (hbW.cell (World.block_lt_of_cell? w0 _ h1)).trans h1

theorem cells_new3 (w : World) (cs : List Value) (t : TypeId) : ∀ j u, cs[j]? = some u → (w.alloc (.cells cs.toArray t)).cell? ((⟨w.heap.size, 0, none⟩ : Addr).add j) = some u := fun j u hu => by
  rw [add_lit, cell_of_row (w.alloc _) w.heap.size _ cs.toArray t (0, 0) (heap_alloc_new w _)]
  simpa using hu
theorem infoRw : (Tryz.prog.info? 36).map (fun i => (i.zero, i.size, i.bytes)) = some (some (.agg #[.string ByteArray.empty, .int .i64 0, .int .i64 0]), 3, 32) := by kernel_rfl
set_option maxRecDepth 100000 in
set_option maxHeartbeats 2000000 in
/-- slices.AppendSeq(nil, seq): all that seq yields. -/
theorem appendSeqR_in (F : Fence) (n : Nat) (h3 : F.fn 164) (hro : F.round = none) (hn : 3 ≤ n) (gf : Nat) (lb : Array Value) (hFg : F.fn gf) (eg : ∀ args w, (callFunc gf args).run Tryz.prog w = .ok (.enter gf args) w) (zs : List Rw) (hz : zs.length ≤ 100000) (n₀ : Nat) (w : World) (hn₀ : n₀ ≤ w.heap.size)
    (hseq : SeqStopsK F (n - 1) Tryz.prog gf lb (fun x : Rw => #[rowV x]) (Below n₀) (fun ys => ys = zs) (fun pre => pre <+: zs) zs.length w) :
    CallsIn F n Tryz.prog 164 #[.slice none 0 0, .func (.func gf) #[] lb] w fun e w' => ∃ v, e = .returned v ∧ Own encR 36 3 w.heap.size w' v zs ∧ Below w.heap.size w w' := by
  have h1 : 1 ≤ n := by omega
  obtain ⟨i0, hi, hz0, hz1, hz2⟩ := info_parts infoRw
  refine callsIn_of_wp_marks Tryz.func164 rfl h3 ?_ hro
  simp only [Tryz.ntmps164, List.size_toArray, List.length_cons, List.length_nil, Nat.reduceAdd, Nat.reduceSub, Array.replicate_succ, Array.replicate_zero, List.push_toArray, List.append_toArray, List.nil_append, List.cons_append]
  gi_wp2
  have bO := Boxed.new w 22 (.slice none 0 0)
  have hB0 : Below w.heap.size w (w.alloc (.cells #[.slice none 0 0] 22)) := (Below.refl _ w).alloc (Nat.le_refl _) _
  have hsz : (w.alloc (.cells #[.slice none 0 0] 22)).heap.size = w.heap.size + 1 := by simp
  have hseq' : SeqStopsK F (n - 1) Tryz.prog gf lb (fun x : Rw => #[rowV x]) (Below n₀) (fun ys => ys = zs) (fun pre => pre <+: zs) zs.length (w.alloc (.cells #[.slice none 0 0] 22)) := fun l J Jx W hW => hseq l J Jx W (hB0.trans (hW.mono hB0.size))
  obtain ⟨W0, hW0⟩ : ∃ W0, w.alloc (.cells #[.slice none 0 0] 22) = W0 := ⟨_, rfl⟩
  rw [hW0] at bO hB0 hsz hseq' ⊢
  clear hW0
  refine wpIn_rangeFunc_ownH hro h1 (gf := gf) (lb := lb) rfl hFg eg hseq' belowK_t (belowK_b (by omega)) (Below.refl _ _) (fun _ => rfl)
    (fun pre W => (∃ v, Boxed W w.heap.size 22 v ∧ W.ownsRow w.heap.size 36 3 v pre.length (pre.flatMap encR) ∧ True) ∧ Below w.heap.size w W)
    (fun _ _ _ => False)
    (OwnFrom.and (Go.Own.from (holdsRow_own w.heap.size w.heap.size 22 36 3 (fun pre : List Rw => pre.length) (fun pre => pre.flatMap encR) (fun _ _ => True)) _) (ownFrom_below (Nat.le_refl _) (by omega)))
    (fun _ _ _ _ _ hs _ _ => hs)
    ⟨⟨_, bO, World.ownsRow_nil _ _ _ _, trivial⟩, hB0⟩
    (fun x a' W => ∃ Bx, w.heap.size < Bx ∧ W.heap[Bx]? = some (.cells #[S x.part, .int .i64 x.key, .int .i64 x.val] 36 (0, 0)) ∧ a' = { tmps := #[.slice none 0 0, .func (.func gf) #[] lb, .pointer (some ⟨w.heap.size, 0, none⟩), undef, .slice none 0 0, .pointer (some ⟨Bx, 0, none⟩), .func (.func gf) #[] lb, rowV x, undef, undef, undef, undef, undef], defers := [] })
    (fun x a' _ X Y row hs hg hr => by
      obtain ⟨Bx, h1, h2, h3⟩ := hs
      refine ⟨Bx, h1, (hg.block Bx (Array.getElem?_eq_some_iff.1 h2).1 (fun e => ?_)).trans h2, h3⟩
      obtain ⟨_, o, ho, hc⟩ := hr _ e.symm
      rw [h2] at ho; cases ho; cases hc)
    ?assign ?body ?done ?stop
  case assign =>
    rintro l pre x W K ⟨⟨v, hv, hrow, -⟩, hB1⟩ hK
    gi_wp2
    exact hK _ _ ((KeepsOthers.alloc _ _).from _) ((Below.refl _ W).alloc (Nat.le_trans hn₀ hB1.size) _) ⟨⟨v, hv.alloc _, hrow.alloc _, trivial⟩, hB1.alloc hB1.size _⟩ ⟨W.heap.size, hv.lt, World.alloc_heap_new W _, rfl⟩
  case body =>
    rintro l pre x a' W hl ⟨r, hr⟩ ⟨⟨v, hv, hrow, -⟩, hB⟩ ⟨Bx, hBx, bX, rfl⟩ hlt
    have hc := hv.cell
    have c0 : W.cell? ⟨Bx, 0, none⟩ = some (S x.part) := by simp [World.cell?, bX]
    have c1 : W.cell? ⟨Bx, 1, none⟩ = some (.int .i64 x.key) := by simp [World.cell?, bX]
    have c2 : W.cell? ⟨Bx, 2, none⟩ = some (.int .i64 x.val) := by simp [World.cell?, bX]
    gi_wp2_with (gi_at_builtin; refine wpListIn_append_own _ rfl _ _ 22 rfl w.heap.size 36 i0 _ 3 32 Tryz.underlying22 hi hz0 hz1 hz2 rfl (by decide) _ _ _ rfl (hrow.alloc _) ⟨W.heap.size, 0, none⟩ 1 1 (encR x) rfl rfl (cells_new3 _ _ _) (by simp [Value.oneCell']) (by unfold maxLen; omega) (by omega) (by have := hB.size; simp; omega) ?_; intro v' w1 hown' hgrow _; obtain ⟨g', cap', rfl⟩ := ownsRow_succ hown'; obtain ⟨hv1, hv2, hr2, hk2, hb2⟩ := hv.appended (by decide) hrow hB.size (Nat.le_refl _) hown' hgrow; have hc1 := hv1.cell; have hf1 := hv1.frozen)
    exact ⟨hk2.from _, hb2.mono hn₀, ⟨_, hv2, by simpa using hr2, trivial⟩, hB.trans hb2⟩
  case done =>
    rintro D ys W hD rfl ⟨⟨v, hv, hrow, -⟩, hB⟩ hK
    have hc := hv.cell
    gi_wp2
    refine ⟨by simp, .inl ⟨_, _, rfl, run_takeDeferred hK, ?_⟩⟩
    exact ⟨_, results_tmp rfl _ _ _, v, rfl, ownsRow_putObj hrow _ hK rfl, hB.trans (belowK_b (w := w) (Nat.le_refl _) W D _ _ (by omega) hK rfl rfl)⟩
  case stop =>
    rintro D c pre W _ _ h _
    exact h.elim
theorem collectR_in (F : Fence) (n : Nat) (h3 : F.fn 164) (h4 : F.fn 125) (hro : F.round = none) (hn : 4 ≤ n) (gf : Nat) (lb : Array Value) (hFg : F.fn gf) (eg : ∀ args w, (callFunc gf args).run Tryz.prog w = .ok (.enter gf args) w) (zs : List Rw) (hz : zs.length ≤ 100000) (n₀ : Nat) (w : World) (hn₀ : n₀ ≤ w.heap.size)
    (hseq : SeqStopsK F (n - 1 - 1) Tryz.prog gf lb (fun x : Rw => #[rowV x]) (Below n₀) (fun ys => ys = zs) (fun pre => pre <+: zs) zs.length w) :
    CallsIn F n Tryz.prog 125 #[.func (.func gf) #[] lb] w fun e w' => ∃ v, e = .returned v ∧ Own encR 36 3 w.heap.size w' v zs ∧ Below w.heap.size w w' := by
  have h1 : 1 ≤ n := by omega
  refine callsIn_of_wp Tryz.func125 rfl h4 ?_ hro
  simp only [Tryz.ntmps125, List.size_toArray, List.length_cons, List.length_nil, Nat.reduceAdd, Nat.reduceSub, Array.replicate_succ, Array.replicate_zero, List.push_toArray, List.append_toArray, List.nil_append, List.cons_append]
  gi_wp2_with (gi_at_call 164; refine (appendSeqR_in F (n - 1) h3 hro (by omega) gf lb hFg eg zs hz n₀ _ hn₀ hseq).mono ?_; rintro e w' ⟨v, rfl, hown, hb⟩)
  go_ret
  exact ⟨_, rfl, hown, hb⟩
end Go.Proofs.YtlfkjbdkbdcdnaaGreatDoor
namespace Go.Proofs.YtlfkjbdkbdcdnaaGreatDoor
open Go.RowKit Go.Maps

/-- xs holds, by names, the slices of rows that gs tells: each in its own block, at B or behind it. -/
structure Held (B : Nat) (w : World) (xs : List (Str × Value)) (gs : List (Str × List Rw)) : Prop where
  keys : xs.map (·.1) = gs.map (·.1)
  own : ∀ k v, getP k xs = some v → ∃ l, getP k gs = some l ∧ Own encR 36 3 B w v l
  apart : ∀ j k u v b, j ≠ k → getP j xs = some u → getP k xs = some v → u.ownBlock = some b → v.ownBlock ≠ some b

theorem Held.nil (B : Nat) (w : World) : Held B w [] [] := ⟨rfl, fun _ _ h => (by cases h), fun _ _ _ _ _ _ h => (by cases h)⟩
theorem Held.kept {B : Nat} {w w' : World} {xs : List (Str × Value)} {gs : List (Str × List Rw)} {row : Option Nat} (h : Held B w xs gs) (hg : w.grownBy w' row) (hr : ∀ k v b, getP k xs = some v → v.ownBlock = some b → row ≠ some b) : Held B w' xs gs :=
  ⟨h.keys, fun k v hk => by
    obtain ⟨l, h1, h2⟩ := h.own k v hk
    refine ⟨l, h1, World.ownsRow.kept h2 hg ?_⟩
    cases hb : v.ownBlock with
    | none => exact .inl rfl
    | some b => exact .inr fun e => hr k v b hk hb e.symm, h.apart⟩
theorem Held.below {B : Nat} {w w' : World} {xs : List (Str × Value)} {gs : List (Str × List Rw)} (h : Held B w xs gs) (hb : Below w.heap.size w w') : Held B w' xs gs :=
  h.kept (row := none) ⟨hb.os, hb.tape, hb.output, hb.size, fun k hk _ => hb.block k hk⟩ (fun _ _ _ _ _ e => by cases e)
/-- The slice under a name: none is the nil slice. -/
theorem Held.at {B : Nat} {w : World} {xs : List (Str × Value)} {gs : List (Str × List Rw)} (h : Held B w xs gs) (k : Str) : Own encR 36 3 B w ((getP k xs).getD (.slice none 0 0)) ((getP k gs).getD []) := by
  cases hk : getP k xs with
  | none =>
    rw [(getP_keys h.keys).1 hk]
    exact Own.nil _ _ _ _ _
  | some v =>
    obtain ⟨l, h1, h2⟩ := h.own k v hk
    rw [h1]; exact h2
/-- What is put under a name anew, behind an append to what lay there. -/
theorem Held.put {B : Nat} {w w' : World} {xs : List (Str × Value)} {gs : List (Str × List Rw)} (h : Held B w xs gs) (hx : RisP xs) (hgs : RisP gs) (k : Str) {v' : Value} {l' : List Rw} (hg : w.grownBy w' ((getP k xs).getD (.slice none 0 0)).ownBlock)
    (ho : Own encR 36 3 B w' v' l') (hn : v'.ownBlock = ((getP k xs).getD (.slice none 0 0)).ownBlock ∨ v'.ownBlock = some w.heap.size) : Held B w' (putP k v' xs) (putP k l' gs) := by
  have hlt : ∀ j u b, getP j xs = some u → u.ownBlock = some b → b < w.heap.size := fun j u b hj hb => by
    obtain ⟨l, h1, h2⟩ := h.own j u hj
    exact (World.ownsRow.lt h2 b hb).2
  have hother : ∀ j u b, j ≠ k → getP j xs = some u → u.ownBlock = some b → v'.ownBlock ≠ some b := fun j u b hne hj hb e => by
    rcases hn with hn | hn
    · cases hk : getP k xs with
      | none => rw [hk] at hn; rw [hn] at e; cases e
      | some v =>
        rw [hk] at hn
        exact h.apart j k u v b hne hj hk hb (hn.symm.trans e)
    · rw [hn] at e; cases e
      exact absurd (hlt j u _ hj hb) (Nat.lt_irrefl _)
  refine ⟨putP_keys k v' l' h.keys, fun j u hj => ?_, fun i j u v b hij hi hj hb => ?_⟩
  · by_cases e : j = k
    · subst e
      rw [getP_put_same hx] at hj
      cases hj
      exact ⟨l', getP_put_same hgs, ho⟩
    · rw [getP_put_other hx e] at hj
      obtain ⟨l, h1, h2⟩ := h.own j u hj
      refine ⟨l, by rw [getP_put_other hgs e]; exact h1, World.ownsRow.kept h2 hg ?_⟩
      cases hb : u.ownBlock with
      | none => exact .inl rfl
      | some b =>
        refine .inr fun e' => ?_
        cases hk : getP k xs with
        | none => rw [hk] at e'; cases e'
        | some v => rw [hk] at e'; exact h.apart j k u v b e hj hk hb e'.symm
  · by_cases e : i = k
    · subst e
      rw [getP_put_same hx] at hi
      cases hi
      rw [getP_put_other hx (fun h => hij h.symm)] at hj
      intro hv
      exact hother j v b (fun h => hij h.symm) hj hv hb
    · rw [getP_put_other hx e] at hi
      by_cases e2 : j = k
      · subst e2
        rw [getP_put_same hx] at hj
        cases hj
        exact hother i u b e hi hb
      · rw [getP_put_other hx e2] at hj
        exact h.apart i j u v b hij hi hj hb
theorem Held.form {B : Nat} {w : World} {xs : List (Str × Value)} {gs : List (Str × List Rw)} (h : Held B w xs gs) (k : Str) : ∃ a c, (getP k xs).getD (.slice none 0 0) = .slice a ((getP k gs).getD []).length c := by
  obtain ⟨a, c, b, o, e, -⟩ := (h.at k).at encR_enc
  exact ⟨a, c, e⟩
end Go.Proofs.YtlfkjbdkbdcdnaaGreatDoor
namespace Go.Proofs.YtlfkjbdkbdcdnaaGreatDoor
open Go.RowKit Go.Maps

/-- A group, as it lies: its name, the slice of its rows. -/
structure Gv where
  name : Str
  a : Option Addr
  n : Nat
  c : Nat
  deriving Inhabited
abbrev Gv.sl (x : Gv) : Value := .slice x.a x.n x.c
abbrev encG (x : Gv) : List Value := [S x.name, x.sl]
theorem encG_enc : Enc encG 2 := fun x => ⟨rfl, by simp [Value.oneCell']⟩
/-- Groups lie in a slice. -/
def GroupsAt (w : World) (v : Value) (gs : List (Str × List Rw)) : Prop :=
  ∃ xs : List Gv, At encG 2 w v xs ∧ xs.map (·.name) = gs.map (·.1) ∧ ∀ (j : Nat) (x : Gv) (g : Str × List Rw), xs[j]? = some x → gs[j]? = some g → RowsAt w x.sl g.2
theorem szG (w : World) : (sizeOf 32).run Tryz.prog w = .ok 2 w := by kernel_rfl
theorem elG : ElemInfo Tryz.prog 25 32 2 40 := elemInfo_of Tryz.underlying25 (z := .agg #[.string ByteArray.empty, .slice none 0 0]) (by kernel_rfl) rfl (by decide)

theorem keyG {k : Str} (h : k.length ≤ 100000) : keyOf Tryz.prog 9 (S k) = some (.string k) := by
  have : (ByteArray.mk k.toArray).size ≤ maxLen := by simp [ByteArray.size]; unfold maxLen; omega
  unfold keyOf mapKey
  rw [Tryz.underlying9]
  simp [this]
theorem lookG {w : World} {b n : Nat} {xs : List (Str × Value)} (h : w.ownsMap Tryz.prog 9 heldR b n (mapV xs)) (k : Str) (hk : k.length ≤ 100000) :
    (Instr.lookup 93 (.map (some b)) (S k) false).run Tryz.prog w = .ok ((getP k xs).getD (.slice none 0 0)) w := by
  have hz : (zeroValue 22).run Tryz.prog w = .ok (.slice none 0 0) w := by kernel_rfl
  obtain ⟨v, ps, h1, h2⟩ := h.lookup (string_keyed Tryz.underlying9) Tryz.underlying93 hz (zd := .held (.slice none 0 0)) (zp := []) rfl (keyG hk)
  rw [at_mapV] at h2
  simp only [heldR, Option.some.injEq, Prod.mk.injEq, DataW.held.injEq] at h2
  rw [h1, h2.1]
theorem updG {w : World} {b n : Nat} {xs : List (Str × Value)} (h : w.ownsMap Tryz.prog 9 heldR b n (mapV xs)) (k : Str) (hk : k.length ≤ 100000) (hn : n < maxLen) (v : Value) :
    ∃ w', (Instr.mapUpdate 93 (.map (some b)) (S k) v).run Tryz.prog w = .ok () w' ∧ w'.ownsMap Tryz.prog 9 heldR b (n + 1) (mapV (putP k v xs)) ∧ w.grownBy w' (some b) := by
  obtain ⟨w', h1, h2, h3⟩ := h.update (string_keyed Tryz.underlying9) Tryz.underlying93 hn (keyG hk) (d := .held v) (ps := []) rfl
  rw [put_mapV] at h2
  exact ⟨w', h1, h2, h3⟩
def rowFault (l : List Rw) (j : Nat) : Nat := match l[j]? with | some x => rowCheck x | none => 0
/-- part.Split's error. -/
def splitEr (s : Str) (l : List Rw) : Er := if (specOf s).2.2 ≠ 0 then .bare (specOf s).2.2 else firstErr (rowFault l) l.length
end Go.Proofs.YtlfkjbdkbdcdnaaGreatDoor
namespace Go.Proofs
open Go.Shelf
def Tryz.sortR_ren : Go.Shelf.Ren := ⟨fun | 6 => 126 | 15 => 111 | 14 => 165 | 28 => 143 | 29 => 144 | 20 => 199 | 21 => 200 | 22 => 201 | 23 => 202 | 24 => 203 | 25 => 204 | 26 => 205 | 27 => 206 | 46 => 235 | 47 => 179 | 48 => 180 | 49 => 236 | 50 => 237 | 57 => 250 | n => n, fun | 22 => 22 | 24 => 36 | 25 => 136 | 3 => 3 | 39 => 139 | 0 => 0 | 53 => 72 | 55 => 184 | 4 => 4 | 46 => 177 | 45 => 176 | 50 => 113 | 5 => 5 | 9 => 9 | 66 => 219 | 70 => 223 | 76 => 264 | 77 => 118 | n => n, fun | n => n⟩
theorem Tryz.sortR : Go.Proofs.SlLaysF0.n6 Tryz.prog Tryz.sortR_ren := {
  mixed := by kernel_rfl
  f6 := ⟨Tryz.f126.name, by decide, Tryz.func126.trans (congrArg some (by kernel_rfl))⟩
  f14 := ⟨Tryz.f165.name, by decide, Tryz.func165.trans (congrArg some (by kernel_rfl))⟩
  f15 := Tryz.func111.trans (congrArg some (by kernel_rfl))
  f20 := ⟨Tryz.f199.name, by decide, Tryz.func199.trans (congrArg some (by kernel_rfl))⟩
  f21 := ⟨Tryz.f200.name, by decide, Tryz.func200.trans (congrArg some (by kernel_rfl))⟩
  f22 := ⟨Tryz.f201.name, by decide, Tryz.func201.trans (congrArg some (by kernel_rfl))⟩
  f23 := ⟨Tryz.f202.name, by decide, Tryz.func202.trans (congrArg some (by kernel_rfl))⟩
  f24 := ⟨Tryz.f203.name, by decide, Tryz.func203.trans (congrArg some (by kernel_rfl))⟩
  f25 := ⟨Tryz.f204.name, by decide, Tryz.func204.trans (congrArg some (by kernel_rfl))⟩
  f26 := ⟨Tryz.f205.name, by decide, Tryz.func205.trans (congrArg some (by kernel_rfl))⟩
  f27 := ⟨Tryz.f206.name, by decide, Tryz.func206.trans (congrArg some (by kernel_rfl))⟩
  f28 := Tryz.func143.trans (congrArg some (by kernel_rfl))
  f29 := Tryz.func144.trans (congrArg some (by kernel_rfl))
  f46 := ⟨Tryz.f235.name, by decide, Tryz.func235.trans (congrArg some (by kernel_rfl))⟩
  f47 := Tryz.func179.trans (congrArg some (by kernel_rfl))
  f48 := Tryz.func180.trans (congrArg some (by kernel_rfl))
  f49 := ⟨Tryz.f236.name, by decide, Tryz.func236.trans (congrArg some (by kernel_rfl))⟩
  f50 := ⟨Tryz.f237.name, by decide, Tryz.func237.trans (congrArg some (by kernel_rfl))⟩
  f57 := ⟨Tryz.f250.name, by decide, Tryz.func250.trans (congrArg some (by kernel_rfl))⟩
  t0 := Tryz.underlying0
  a0 := Tryz.isAgg0
  z0 := Tryz.sizeOf0
  v0 := Tryz.zeroValue0
  t3 := Tryz.underlying3
  a3 := Tryz.isAgg3
  z3 := Tryz.sizeOf3
  v3 := Tryz.zeroValue3
  t4 := Tryz.underlying4
  a4 := Tryz.isAgg4
  z4 := Tryz.sizeOf4
  v4 := Tryz.zeroValue4
  t5 := Tryz.underlying5
  a5 := Tryz.isAgg5
  z5 := Tryz.sizeOf5
  v5 := Tryz.zeroValue5
  t9 := Tryz.underlying9
  a9 := Tryz.isAgg9
  z9 := Tryz.sizeOf9
  v9 := Tryz.zeroValue9
  t22 := Tryz.underlying22
  a22 := Tryz.isAgg22
  z22 := Tryz.sizeOf22
  v22 := Tryz.zeroValue22
  t25 := Tryz.underlying136
  a25 := Tryz.isAgg136
  z25 := Tryz.sizeOf136
  v25 := Tryz.zeroValue136
  t39 := Tryz.underlying139
  a39 := Tryz.isAgg139
  z39 := Tryz.sizeOf139
  v39 := Tryz.zeroValue139
  t45 := Tryz.underlying176
  a45 := Tryz.isAgg176
  z45 := Tryz.sizeOf176
  v45 := Tryz.zeroValue176
  t46 := Tryz.underlying177
  a46 := Tryz.isAgg177
  z46 := Tryz.sizeOf177
  v46 := Tryz.zeroValue177
  t50 := Tryz.underlying113
  a50 := Tryz.isAgg113
  z50 := Tryz.sizeOf113
  v50 := Tryz.zeroValue113
  t53 := Tryz.underlying72
  a53 := Tryz.isAgg72
  z53 := Tryz.sizeOf72
  v53 := Tryz.zeroValue72
  t55 := Tryz.underlying184
  a55 := Tryz.isAgg184
  z55 := Tryz.sizeOf184
  v55 := Tryz.zeroValue184
  t66 := Tryz.underlying219
  a66 := Tryz.isAgg219
  z66 := Tryz.sizeOf219
  v66 := Tryz.zeroValue219
  t70 := Tryz.underlying223
  a70 := Tryz.isAgg223
  z70 := Tryz.sizeOf223
  v70 := Tryz.zeroValue223
  t76 := Tryz.underlying264
  a76 := Tryz.isAgg264
  z76 := Tryz.sizeOf264
  v76 := Tryz.zeroValue264
  t77 := Tryz.underlying118
  a77 := Tryz.isAgg118
  z77 := Tryz.sizeOf118
  v77 := Tryz.zeroValue118 }
def Tryz.sortG_ren : Go.Shelf.Ren := ⟨fun | 6 => 58 | 15 => 111 | 14 => 110 | 28 => 143 | 29 => 144 | 20 => 135 | 21 => 136 | 22 => 137 | 23 => 138 | 24 => 139 | 25 => 140 | 26 => 141 | 27 => 142 | 46 => 178 | 47 => 179 | 48 => 180 | 49 => 181 | 50 => 182 | 57 => 217 | n => n, fun | 22 => 25 | 24 => 32 | 25 => 104 | 3 => 3 | 39 => 139 | 0 => 0 | 53 => 72 | 55 => 184 | 4 => 4 | 46 => 177 | 45 => 176 | 50 => 113 | 5 => 5 | 9 => 9 | 66 => 219 | 70 => 223 | 76 => 264 | 77 => 118 | n => n, fun | n => n⟩
theorem Tryz.sortG : Go.Proofs.SlLaysF0.n6 Tryz.prog Tryz.sortG_ren := {
  mixed := by kernel_rfl
  f6 := ⟨Tryz.f58.name, by decide, Tryz.func58.trans (congrArg some (by kernel_rfl))⟩
  f14 := ⟨Tryz.f110.name, by decide, Tryz.func110.trans (congrArg some (by kernel_rfl))⟩
  f15 := Tryz.func111.trans (congrArg some (by kernel_rfl))
  f20 := ⟨Tryz.f135.name, by decide, Tryz.func135.trans (congrArg some (by kernel_rfl))⟩
  f21 := ⟨Tryz.f136.name, by decide, Tryz.func136.trans (congrArg some (by kernel_rfl))⟩
  f22 := ⟨Tryz.f137.name, by decide, Tryz.func137.trans (congrArg some (by kernel_rfl))⟩
  f23 := ⟨Tryz.f138.name, by decide, Tryz.func138.trans (congrArg some (by kernel_rfl))⟩
  f24 := ⟨Tryz.f139.name, by decide, Tryz.func139.trans (congrArg some (by kernel_rfl))⟩
  f25 := ⟨Tryz.f140.name, by decide, Tryz.func140.trans (congrArg some (by kernel_rfl))⟩
  f26 := ⟨Tryz.f141.name, by decide, Tryz.func141.trans (congrArg some (by kernel_rfl))⟩
  f27 := ⟨Tryz.f142.name, by decide, Tryz.func142.trans (congrArg some (by kernel_rfl))⟩
  f28 := Tryz.func143.trans (congrArg some (by kernel_rfl))
  f29 := Tryz.func144.trans (congrArg some (by kernel_rfl))
  f46 := ⟨Tryz.f178.name, by decide, Tryz.func178.trans (congrArg some (by kernel_rfl))⟩
  f47 := Tryz.func179.trans (congrArg some (by kernel_rfl))
  f48 := Tryz.func180.trans (congrArg some (by kernel_rfl))
  f49 := ⟨Tryz.f181.name, by decide, Tryz.func181.trans (congrArg some (by kernel_rfl))⟩
  f50 := ⟨Tryz.f182.name, by decide, Tryz.func182.trans (congrArg some (by kernel_rfl))⟩
  f57 := ⟨Tryz.f217.name, by decide, Tryz.func217.trans (congrArg some (by kernel_rfl))⟩
  t0 := Tryz.underlying0
  a0 := Tryz.isAgg0
  z0 := Tryz.sizeOf0
  v0 := Tryz.zeroValue0
  t3 := Tryz.underlying3
  a3 := Tryz.isAgg3
  z3 := Tryz.sizeOf3
  v3 := Tryz.zeroValue3
  t4 := Tryz.underlying4
  a4 := Tryz.isAgg4
  z4 := Tryz.sizeOf4
  v4 := Tryz.zeroValue4
  t5 := Tryz.underlying5
  a5 := Tryz.isAgg5
  z5 := Tryz.sizeOf5
  v5 := Tryz.zeroValue5
  t9 := Tryz.underlying9
  a9 := Tryz.isAgg9
  z9 := Tryz.sizeOf9
  v9 := Tryz.zeroValue9
  t22 := Tryz.underlying25
  a22 := Tryz.isAgg25
  z22 := Tryz.sizeOf25
  v22 := Tryz.zeroValue25
  t25 := Tryz.underlying104
  a25 := Tryz.isAgg104
  z25 := Tryz.sizeOf104
  v25 := Tryz.zeroValue104
  t39 := Tryz.underlying139
  a39 := Tryz.isAgg139
  z39 := Tryz.sizeOf139
  v39 := Tryz.zeroValue139
  t45 := Tryz.underlying176
  a45 := Tryz.isAgg176
  z45 := Tryz.sizeOf176
  v45 := Tryz.zeroValue176
  t46 := Tryz.underlying177
  a46 := Tryz.isAgg177
  z46 := Tryz.sizeOf177
  v46 := Tryz.zeroValue177
  t50 := Tryz.underlying113
  a50 := Tryz.isAgg113
  z50 := Tryz.sizeOf113
  v50 := Tryz.zeroValue113
  t53 := Tryz.underlying72
  a53 := Tryz.isAgg72
  z53 := Tryz.sizeOf72
  v53 := Tryz.zeroValue72
  t55 := Tryz.underlying184
  a55 := Tryz.isAgg184
  z55 := Tryz.sizeOf184
  v55 := Tryz.zeroValue184
  t66 := Tryz.underlying219
  a66 := Tryz.isAgg219
  z66 := Tryz.sizeOf219
  v66 := Tryz.zeroValue219
  t70 := Tryz.underlying223
  a70 := Tryz.isAgg223
  z70 := Tryz.sizeOf223
  v70 := Tryz.zeroValue223
  t76 := Tryz.underlying264
  a76 := Tryz.isAgg264
  z76 := Tryz.sizeOf264
  v76 := Tryz.zeroValue264
  t77 := Tryz.underlying118
  a77 := Tryz.isAgg118
  z77 := Tryz.sizeOf118
  v77 := Tryz.zeroValue118 }
end Go.Proofs
