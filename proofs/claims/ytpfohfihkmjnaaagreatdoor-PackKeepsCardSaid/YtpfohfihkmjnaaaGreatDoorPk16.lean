/- Fewer files: groups of files, in plain words. Of no program. Groups of files in memory: each in a block of its own, its paths in a row of its own. pack.Plan's closures; slices.IndexFunc at groups. The library's insertion sort is stable: plain. Of no program. DERIVED: THE SHELF's CONTRACTS AT THIS DUMP, IN PLAIN WORDS (tools/lay-plain.mjs out of 'TryzInsG.lean', which tools/lay-shelf.mjs wrote): THE SAME DECLARATIONS UNDER THE SAME NAMES: 'import', 'namespace', 'open', 'def', 'theorem' AND NOTHING ELSE: no command of the shelf's: FOR A HAND-IN. Each laying: the table of numbers ('.._ren') and one theorem, a field a fact of the dump's own or the kernel's comparison; each contract: ONE APPLICATION. What slices' insertion sort leaves in memory, at groups. Stretches that are changed for one another, a rotation by them, a merge in place. Of no program. slices.swapRange and rotate at groups: the walks. -/
import Derived.Test.YtpfohfihkmjnaaaGreatDoorPk10
import Derived.Test.YtpfohfihkmjnaaaGreatDoorPk4
import Derived.Test.YtpfohfihkmjnaaaGreatDoorPk15
import Derived.Test.YtpfohfihkmjnaaaGreatDoorPk14
import Derived.Test.YtpfohfihkmjnaaaGreatDoorPk6
import Derived.Test.YtpfohfihkmjnaaaGreatDoorPk9
import Derived.Deep.RegionHeld3
import Derived.BigQuiet
import Derived.Sort.Defs
import Derived.Shelf.SlSortCmp.Insertion1
import Derived.Test.YtpfohfihkmjnaaaGreatDoorProg
import Derived.OwnWalk
import Derived.Shelf.RegionOpenPlain
import Derived.Deep.LoopGhost
namespace Go.Proofs.YtpfohfihkmjnaaaGreatDoor
open Go.RowKit
/-- A group of files. -/
structure Gp where
  part : Str
  n : Int
  paths : List Str
def fitsG (f : Fl) (g : Gp) : Bool := g.part == f.part && decide (g.n + f.n ≤ 40)
def growG (f : Fl) (g : Gp) : Gp := ⟨g.part, g.n + f.n, g.paths ++ [f.path]⟩
def putG (f : Fl) : List Gp → List Gp
  | [] => [growG f ⟨f.part, 0, []⟩]
  | g :: r => if fitsG f g then growG f g :: r else g :: putG f r
def smallF (least : Int) (f : Fl) : Bool := !isG f && decide (f.n < least)
def groupsG (least : Int) (l : List Fl) : List Gp := (l.filter (smallF least)).foldl (fun gs f => putG f gs) []
def partsF (l : List Fl) : List Str := (l.filter fun f => !isG f).foldl (fun ps f => withL ps f.part) []
def manyG (g : Gp) : Bool := decide (1 < g.paths.length)
def ofPart (p : Str) (gs : List Gp) : List Gp := gs.filter fun g => g.part == p
def planE (l : List Fl) (least : Int) : Er := if listCheck l ≠ .nil then listCheck l else if least < 0 ∨ 41 < least then .bare 2 else .nil
def planAll (l : List Fl) (least : Int) : List (List Str) := (partsF l).flatMap fun p => ((ofPart p (groupsG least l)).filter manyG).map (·.paths)
def planL (l : List Fl) (least : Int) : List (List Str) := if planE l least = .nil then planAll l least else []
theorem putG_hit {f : Fl} : ∀ {gs : List Gp} {k : Nat} {g : Gp}, gs[k]? = some g → fitsG f g = true → (∀ j < k, ∀ x, gs[j]? = some x → fitsG f x = false) → putG f gs = gs.take k ++ growG f g :: gs.drop (k + 1)
  | [], k, g, h, _, _ => by simp at h
  | x :: r, 0, g, h, h1, _ => by
    obtain rfl : x = g := by simpa using h
    unfold putG
    rw [if_pos h1]; rfl
  | x :: r, k + 1, g, h, h1, h2 => by
    have hx := h2 0 (by omega) x rfl
    unfold putG
    rw [if_neg (by rw [hx]; decide), putG_hit (k := k) (by simpa using h) h1 (fun j hj y hy => h2 (j + 1) (by omega) y (by simpa using hy))]
    rfl
theorem putG_miss {f : Fl} : ∀ {gs : List Gp}, (∀ x ∈ gs, fitsG f x = false) → putG f gs = gs ++ [growG f ⟨f.part, 0, []⟩]
  | [], _ => rfl
  | x :: r, h => by
    unfold putG
    rw [if_neg (by rw [h x (by simp)]; decide), putG_miss fun y hy => h y (by simp [hy])]
    rfl
theorem mem_putG {f : Fl} {g : Gp} : ∀ {gs : List Gp}, g ∈ putG f gs → g ∈ gs ∨ ∃ h : Gp, (h ∈ gs ∨ h = ⟨f.part, 0, []⟩) ∧ h.part = f.part ∧ h.n + f.n ≤ max 40 f.n ∧ g = growG f h
  | [], h => by
    obtain rfl : g = _ := by simpa [putG] using h
    exact .inr ⟨_, .inr rfl, rfl, by simp; omega, rfl⟩
  | x :: r, h => by
    unfold putG at h
    split at h
    · rename_i hf
      unfold fitsG at hf
      simp only [Bool.and_eq_true, beq_iff_eq, decide_eq_true_eq] at hf
      rcases List.mem_cons.1 h with rfl | h
      · exact .inr ⟨x, .inl (by simp), hf.1, by omega, rfl⟩
      · exact .inl (by simp [h])
    · rcases List.mem_cons.1 h with rfl | h
      · exact .inl (by simp)
      · rcases mem_putG h with h | ⟨y, h1, h2, h3, h4⟩
        · exact .inl (by simp [h])
        · exact .inr ⟨y, h1.imp (fun h => by simp [h]) id, h2, h3, h4⟩
theorem putG_parts {f : Fl} {gs : List Gp} {ps : List Str} (h : ∀ g ∈ gs, g.part ∈ ps) (hf : f.part ∈ ps) : ∀ g ∈ putG f gs, g.part ∈ ps := fun g hg => by
  rcases mem_putG hg with hg | ⟨y, -, h2, -, rfl⟩
  · exact h g hg
  · show y.part ∈ ps
    rw [h2]; exact hf
theorem mem_fold_with : ∀ (l : List Fl) (ps : List Str) (p : Str), p ∈ l.foldl (fun ps f => withL ps f.part) ps ↔ p ∈ ps ∨ ∃ f ∈ l, f.part = p
  | [], ps, p => by simp
  | f :: l, ps, p => by
    rw [List.foldl_cons, mem_fold_with l, mem_withL]
    constructor
    · rintro ((rfl | h) | ⟨g, hg, e⟩)
      · exact .inr ⟨f, by simp, rfl⟩
      · exact .inl h
      · exact .inr ⟨g, by simp [hg], e⟩
    · rintro (h | ⟨g, hg, e⟩)
      · exact .inl (.inr h)
      · rcases List.mem_cons.1 hg with rfl | hg
        · exact .inl (.inl e.symm)
        · exact .inr ⟨g, hg, e⟩
theorem up_fold_with : ∀ (l : List Fl) (ps : List Str), upS ps → upS (l.foldl (fun ps f => withL ps f.part) ps)
  | [], _, h => h
  | _ :: l, _, h => up_fold_with l _ (up_withL h)
theorem mem_partsF {l : List Fl} {p : Str} : p ∈ partsF l ↔ ∃ f ∈ l, isG f = false ∧ f.part = p := by
  unfold partsF
  rw [mem_fold_with]
  simp only [List.mem_filter, Bool.not_eq_true', List.not_mem_nil, false_or]
  constructor
  · rintro ⟨f, ⟨h1, h2⟩, h3⟩; exact ⟨f, h1, h2, h3⟩
  · rintro ⟨f, h1, h2, h3⟩; exact ⟨f, ⟨h1, h2⟩, h3⟩
theorem partsF_up (l : List Fl) : upS (partsF l) := up_fold_with _ _ List.Pairwise.nil
theorem fold_parts : ∀ (l : List Fl) (gs : List Gp) (ps : List Str), (∀ g ∈ gs, g.part ∈ ps) → (∀ f ∈ l, f.part ∈ ps) → ∀ g ∈ l.foldl (fun gs f => putG f gs) gs, g.part ∈ ps
  | [], _, _, h, _ => h
  | f :: l, gs, ps, h, hl => fold_parts l _ ps (putG_parts h (hl f (by simp))) fun x hx => hl x (by simp [hx])
theorem groups_parts (least : Int) (l : List Fl) : ∀ g ∈ groupsG least l, g.part ∈ partsF l := by
  refine fold_parts _ _ _ (fun _ h => (by cases h)) fun f hf => ?_
  obtain ⟨h1, h2⟩ := List.mem_filter.1 hf
  unfold smallF at h2
  simp only [Bool.and_eq_true, Bool.not_eq_true'] at h2
  exact mem_partsF.2 ⟨f, h1, h2.1, rfl⟩
/-- A strict order's sorted list is one. -/
theorem strict_unique {α : Type} {r : α → α → Prop} (irr : ∀ x, ¬ r x x) (asy : ∀ x y, r x y → ¬ r y x) : ∀ {a b : List α}, a.Perm b → a.Pairwise r → b.Pairwise r → a = b
  | [], b, h, _, _ => h.nil_eq.symm ▸ rfl
  | x :: a, [], h, _, _ => absurd h.length_eq (by simp)
  | x :: a, y :: b, h, ha, hb => by
    obtain ⟨a1, a2⟩ := List.pairwise_cons.1 ha
    obtain ⟨b1, b2⟩ := List.pairwise_cons.1 hb
    have hx : x ∈ y :: b := h.mem_iff.1 (by simp)
    have hy : y ∈ x :: a := h.mem_iff.2 (by simp)
    have e : x = y := by
      rcases List.mem_cons.1 hx with e | hx
      · exact e
      · rcases List.mem_cons.1 hy with e | hy
        · exact e.symm
        · exact absurd (a1 y hy) (asy _ _ (b1 x hx))
    subst e
    rw [strict_unique irr asy (List.Perm.cons_inv h) a2 b2]
/-- What is sorted by parts, and among equals as it stood, is part by part. -/
theorem by_parts {α : Type} {part : α → Str} {ix : α → Nat} {gl m : List α} {ps : List Str} (hup : upS ps) (hin : ∀ g ∈ gl, part g ∈ ps) (hix : gl.Pairwise (fun a b => ix a < ix b)) (hp : m.Perm gl)
    (hm : m.Pairwise (Stb.R (fun a b => bef (part a) (part b)) ix)) : m = ps.flatMap fun p => gl.filter fun g => part g == p := by
  have hnd : ∀ {l : List α}, l.Pairwise (fun a b => ix a < ix b) → l.Nodup := fun h => h.imp fun hlt e => by rw [e] at hlt; omega
  refine strict_unique (r := Stb.R (fun a b => bef (part a) (part b)) ix) (fun x h => ?_) (fun x y h k => ?_) (hp.trans ?_) hm ?_
  · rcases h with h | h
    · simp only [bef_irr] at h; cases h
    · omega
  · rcases h with h | h <;> rcases k with k | k
    · simp only at h k
      have := bef_trans h k
      rw [bef_irr] at this; cases this
    · simp only at h k; rw [h] at k; cases k.1
    · simp only at h k; rw [k] at h; cases h.1
    · omega
  · refine (List.perm_ext_iff_of_nodup (hnd hix) ?_).2 fun g => ?_
    · rw [List.Nodup, List.pairwise_flatMap]
      refine ⟨fun p _ => (hnd hix).sublist List.filter_sublist, ?_⟩
      refine hup.imp fun {a b} hab => ?_
      intro x hx y hy e
      subst e
      have h1 := (List.mem_filter.1 hx).2
      have h2 := (List.mem_filter.1 hy).2
      simp only [beq_iff_eq] at h1 h2
      rw [← h1, ← h2, bef_irr] at hab
      cases hab
    · rw [List.mem_flatMap]
      constructor
      · intro hg
        exact ⟨part g, hin g hg, List.mem_filter.2 ⟨hg, by simp⟩⟩
      · rintro ⟨p, -, hg⟩
        exact (List.mem_filter.1 hg).1
  · rw [List.pairwise_flatMap]
    refine ⟨fun p _ => ?_, ?_⟩
    · refine (hix.filter _).imp_of_mem fun {a b} ha hb hlt => ?_
      have h1 := (List.mem_filter.1 ha).2
      have h2 := (List.mem_filter.1 hb).2
      simp only [beq_iff_eq] at h1 h2
      refine .inr ⟨?_, hlt⟩
      simp only [h1, h2, bef_irr]
    · refine hup.imp fun {a b} hab => ?_
      intro x hx y hy
      have h1 := (List.mem_filter.1 hx).2
      have h2 := (List.mem_filter.1 hy).2
      simp only [beq_iff_eq] at h1 h2
      refine .inl ?_
      simp only [h1, h2]
      exact hab
theorem way_part {α : Type} {part : α → Str} {ix : α → Nat} : Stb.Way (fun a b : α => bef (part a) (part b)) ix where
  irr x := bef_irr _
  tra x y z h1 h2 := bef_trans h1 h2
  ntr x y z h1 h2 := by
    cases h : bef (part x) (part z) with
    | false => rfl
    | true =>
      by_cases e : part y = part x
      · simp only [e] at h2; rw [h] at h2; cases h2
      · have hyx := bef_tri (fun e' => e e'.symm) h1
        have := bef_trans hyx h
        rw [this] at h2; cases h2
end Go.Proofs.YtpfohfihkmjnaaaGreatDoor
namespace Go.Proofs.YtpfohfihkmjnaaaGreatDoor
open Go.RowKit Go.Maps
abbrev encP (b : Nat) : List Value := [.pointer (some ⟨b, 0, none⟩)]
theorem encP_enc : Enc encP 1 := fun x => ⟨rfl, by simp [Value.oneCell']⟩
abbrev gpObj (tG : TypeId) (g : Gp) (v : Value) : Obj := .cells #[S g.part, .int .i64 g.n, v] tG (0, 0)
structure GpAt (tG : TypeId) (w : World) (B b : Nat) (v : Value) (g : Gp) : Prop where
  blk : w.heap[b]? = some (gpObj tG g v)
  own : Own encS 9 1 B w v g.paths
  le : B ≤ b
structure GpsAt (tG : TypeId) (w : World) (B : Nat) (bs : List Nat) (vs : List Value) (gs : List Gp) : Prop where
  lb : bs.length = gs.length
  lv : vs.length = gs.length
  each : ∀ (k b : Nat) (v : Value) (g : Gp), bs[k]? = some b → vs[k]? = some v → gs[k]? = some g → GpAt tG w B b v g
  nd : ∀ i j b : Nat, bs[i]? = some b → bs[j]? = some b → i = j
  ap : ∀ (i j : Nat) (u v : Value) (b : Nat), vs[i]? = some u → vs[j]? = some v → u.ownBlock = some b → v.ownBlock = some b → i = j
section
variable {tG : TypeId} {w w' : World} {B b k : Nat} {v : Value} {g : Gp} {bs : List Nat} {vs : List Value} {gs : List Gp}
theorem GpAt.lt (h : GpAt tG w B b v g) : b < w.heap.size := (Array.getElem?_eq_some_iff.1 h.blk).1
theorem GpAt.cells (h : GpAt tG w B b v g) : w.cell? ⟨b, 0, none⟩ = some (S g.part) ∧ w.cell? ⟨b, 1, none⟩ = some (.int .i64 g.n) ∧ w.cell? ⟨b, 2, none⟩ = some v ∧ ∀ i, w.frozen? ⟨b, i, none⟩ = false := by
  refine ⟨?_, ?_, ?_, fun i => frozen_row h.blk⟩ <;> (rw [cell_of_row w _ _ _ _ (0, 0) h.blk]; rfl)
theorem GpAt.below (h : GpAt tG w B b v g) (hb : Below w.heap.size w w') : GpAt tG w' B b v g := ⟨rowKept h.blk hb, h.own.below hb, h.le⟩
theorem GpsAt.nil (tG : TypeId) (w : World) (B : Nat) : GpsAt tG w B [] [] [] := ⟨rfl, rfl, fun _ _ _ _ h => (by simp at h), fun _ _ _ h => (by simp at h), fun _ _ _ _ _ h => (by simp at h)⟩
theorem GpsAt.below (h : GpsAt tG w B bs vs gs) (hb : Below w.heap.size w w') : GpsAt tG w' B bs vs gs := { h with each := fun k b v g h1 h2 h3 => (h.each k b v g h1 h2 h3).below hb }
theorem GpsAt.kept {e : TypeId} (h : GpsAt tG w B bs vs gs) (hk : KeptBut e w w') (h1 : tG ≠ e) (h2 : 9 ≠ e) : GpsAt tG w' B bs vs gs :=
  { h with each := fun k b v g a1 a2 a3 => ⟨hk.2 b _ (h.each k b v g a1 a2 a3).blk (fun cs hc => by cases hc; exact h1 rfl), hk.own h2 (h.each k b v g a1 a2 a3).own, (h.each k b v g a1 a2 a3).le⟩ }
theorem GpsAt.get (h : GpsAt tG w B bs vs gs) (hg : gs[k]? = some g) : ∃ b v, bs[k]? = some b ∧ vs[k]? = some v ∧ GpAt tG w B b v g := by
  have hk := (List.getElem?_eq_some_iff.1 hg).1
  have h1 : ∃ b, bs[k]? = some b := ⟨_, List.getElem?_eq_getElem (by rw [h.lb]; exact hk)⟩
  obtain ⟨b, h1⟩ := h1
  have h2 : ∃ v, vs[k]? = some v := ⟨_, List.getElem?_eq_getElem (by rw [h.lv]; exact hk)⟩
  obtain ⟨v, h2⟩ := h2
  exact ⟨_, v, h1, h2, h.each k _ v g h1 h2 hg⟩
/-- A group more, made anew. -/
theorem GpsAt.push (h : GpsAt tG w B bs vs gs) (hB : B ≤ w.heap.size) (p : Str) : GpsAt tG (w.alloc (.cells #[S p, .int .i64 0, .slice none 0 0] tG)) B (bs ++ [w.heap.size]) (vs ++ [.slice none 0 0]) (gs ++ [⟨p, 0, []⟩]) := by
  have hb : Below w.heap.size w (w.alloc (.cells #[S p, .int .i64 0, .slice none 0 0] tG)) := (Below.refl _ _).alloc (Nat.le_refl _) _
  have hlt : ∀ i b : Nat, bs[i]? = some b → b < w.heap.size := fun i b hi => by
    obtain ⟨hi1, -⟩ := List.getElem?_eq_some_iff.1 hi
    obtain ⟨g, hg⟩ : ∃ g, gs[i]? = some g := ⟨_, List.getElem?_eq_getElem (by rw [← h.lb]; exact hi1)⟩
    obtain ⟨v, hv⟩ : ∃ v, vs[i]? = some v := ⟨_, List.getElem?_eq_getElem (by rw [h.lv, ← h.lb]; exact hi1)⟩
    exact (h.each i b v g hi hv hg).lt
  have hs : ∀ {α : Type} {l : List α} {x y : α} {i : Nat}, (l ++ [x])[i]? = some y → l[i]? = some y ∨ (i = l.length ∧ y = x) := fun {α l x y i} hi => by
    rcases Nat.lt_or_ge i l.length with hl | hl
    · rw [List.getElem?_append_left hl] at hi; exact .inl hi
    · rw [List.getElem?_append_right hl] at hi
      have h0 : i - l.length = 0 := by
        have := (List.getElem?_eq_some_iff.1 hi).1
        simp at this; omega
      rw [h0] at hi
      exact .inr ⟨by omega, (Option.some.inj hi).symm⟩
  refine ⟨by simp [h.lb], by simp [h.lv], fun k b v g h1 h2 h3 => ?_, fun i j b h1 h2 => ?_, fun i j u v b h1 h2 h3 h4 => ?_⟩
  · rcases hs h3 with h3 | ⟨e3, rfl⟩
    · have hk := (List.getElem?_eq_some_iff.1 h3).1
      rw [List.getElem?_append_left (by rw [h.lb]; exact hk)] at h1
      rw [List.getElem?_append_left (by rw [h.lv]; exact hk)] at h2
      exact (h.each k b v g h1 h2 h3).below hb
    · rcases hs h1 with h1 | ⟨-, rfl⟩
      · have := (List.getElem?_eq_some_iff.1 h1).1; rw [h.lb] at this; omega
      rcases hs h2 with h2 | ⟨-, rfl⟩
      · have := (List.getElem?_eq_some_iff.1 h2).1; rw [h.lv] at this; omega
      exact ⟨heap_alloc_new w _, Own.nil _ _ _ _ _, hB⟩
  · rcases hs h1 with h1 | ⟨e1, rfl⟩ <;> rcases hs h2 with h2 | ⟨e2, e3⟩
    · exact h.nd i j b h1 h2
    · have := hlt i b h1; omega
    · have := hlt j _ h2; omega
    · omega
  · rcases hs h1 with h1 | ⟨e1, rfl⟩
    · rcases hs h2 with h2 | ⟨e2, rfl⟩
      · exact h.ap i j u v b h1 h2 h3 h4
      · simp [Value.ownBlock] at h4
    · simp [Value.ownBlock] at h3
theorem own_set {α : Type} {enc : α → List Value} {e : TypeId} {sz : Nat} {l : List α} {u x : Value} {c i : Nat} {o : Obj} (h : Own enc e sz B w u l) (ho : w.heap[c]? = some o) (hne : ∀ cs, o ≠ .cells cs e (0, 0)) : Own enc e sz B (w.setCell ⟨c, i, none⟩ x) u l :=
  own_but h (own_ne h ho hne) (own_ne h ho hne) (But2.set (mb := c) w i x)
/-- A group's number is written. -/
theorem GpsAt.setN (h : GpsAt tG w B bs vs gs) (hb : bs[k]? = some b) (hg : gs[k]? = some g) (hs : 9 ≠ tG) (n : Int) : GpsAt tG (w.setCell ⟨b, 1, none⟩ (.int .i64 n)) B bs vs (gs.set k ⟨g.part, n, g.paths⟩) := by
  obtain ⟨b', v, hb', hv, hat⟩ := h.get hg
  rw [hb] at hb'
  obtain rfl := Option.some.inj hb'
  have hk := (List.getElem?_eq_some_iff.1 hg).1
  refine ⟨by rw [List.length_set]; exact h.lb, by rw [List.length_set]; exact h.lv, fun j c u x h1 h2 h3 => ?_, h.nd, h.ap⟩
  by_cases hj : j = k
  · subst hj
    rw [hb] at h1
    obtain rfl := Option.some.inj h1
    rw [hv] at h2
    obtain rfl := Option.some.inj h2
    rw [List.getElem?_set_self hk] at h3
    obtain rfl := Option.some.inj h3
    exact ⟨heap_setCell_same w b 1 _ tG _ hat.blk, own_set hat.own hat.blk (fun cs hc => by cases hc; exact hs rfl), hat.le⟩
  · rw [List.getElem?_set_ne (by omega)] at h3
    have hx := h.each j c u x h1 h2 h3
    have hne : b ≠ c := fun e => hj (h.nd j k b (by rw [h1, e]) hb)
    exact ⟨(set_other hne _).trans hx.blk, own_set hx.own hat.blk (fun cs hc => by cases hc; exact hs rfl), hx.le⟩
/-- A group has one path more. -/
theorem GpsAt.setP {w1 w2 : World} {v' : Value} {p : Str} (h : GpsAt tG w B bs vs gs) (h1w : Below w.heap.size w w1) (hb : bs[k]? = some b) (hv : vs[k]? = some v) (hg : gs[k]? = some g) (hs : 9 ≠ tG)
    (ho : Own encS 9 1 B w2 v' (g.paths ++ [p])) (hgr : w1.grownBy w2 v.ownBlock) (hfr : v'.ownBlock = v.ownBlock ∨ v'.ownBlock = some w1.heap.size) :
    GpsAt tG (w2.setCell ⟨b, 2, none⟩ v') B bs (vs.set k v') (gs.set k ⟨g.part, g.n, g.paths ++ [p]⟩) := by
  have hat := h.each k b v g hb hv hg
  have hk := (List.getElem?_eq_some_iff.1 hg).1
  have hkv := (List.getElem?_eq_some_iff.1 hv).1
  have hlt : ∀ (j : Nat) (u : Value), vs[j]? = some u → ∀ c, u.ownBlock = some c → c < w.heap.size := fun j u hj c hc => by
    obtain ⟨hj1, -⟩ := List.getElem?_eq_some_iff.1 hj
    obtain ⟨x, hx⟩ : ∃ x, gs[j]? = some x := ⟨_, List.getElem?_eq_getElem (by rw [← h.lv]; exact hj1)⟩
    obtain ⟨c', u', h1', h2', h3'⟩ := h.get hx
    rw [hj] at h2'
    obtain rfl := Option.some.inj h2'
    exact (World.ownsRow.lt h3'.own c hc).2
  have hblk : ∀ (j c : Nat) (u : Value) (x : Gp), bs[j]? = some c → vs[j]? = some u → gs[j]? = some x → w2.heap[c]? = some (gpObj tG x u) := fun j c u x h1 h2 h3 => by
    have hx := h.each j c u x h1 h2 h3
    have h4 := rowKept hx.blk h1w
    refine (hgr.block c (Array.getElem?_eq_some_iff.1 h4).1 fun e => ?_).trans h4
    exact own_ne hat.own hx.blk (fun cs hc => by cases hc; exact hs rfl) e.symm
  have hb2 := hblk k b v g hb hv hg
  refine ⟨by rw [List.length_set]; exact h.lb, by rw [List.length_set, List.length_set]; exact h.lv, fun j c u x h1 h2 h3 => ?_, h.nd, fun i j u x c h1 h2 h3 h4 => ?_⟩
  · by_cases hj : j = k
    · subst hj
      rw [hb] at h1
      obtain rfl := Option.some.inj h1
      rw [List.getElem?_set_self hkv] at h2
      obtain rfl := Option.some.inj h2
      rw [List.getElem?_set_self hk] at h3
      obtain rfl := Option.some.inj h3
      exact ⟨heap_setCell_same w2 b 2 _ tG _ hb2, own_set ho hb2 (fun cs hc => by cases hc; exact hs rfl), hat.le⟩
    · rw [List.getElem?_set_ne (by omega)] at h2 h3
      have hx := h.each j c u x h1 h2 h3
      have hne : b ≠ c := fun e => hj (h.nd j k b (by rw [h1, e]) hb)
      refine ⟨(set_other hne _).trans (hblk j c u x h1 h2 h3), own_set ?_ hb2 (fun cs hc => by cases hc; exact hs rfl), hx.le⟩
      have ho1 := hx.own.below h1w
      refine own_grown ho1 hgr fun c hc hc' => hj (h.ap j k u v c h2 hv hc' hc)
  · have key : ∀ (i : Nat) (u : Value), (vs.set k v')[i]? = some u → u.ownBlock = some c → (i = k ∧ u = v') ∨ (i ≠ k ∧ vs[i]? = some u) := fun i u hi _ => by
      by_cases hik : i = k
      · subst hik
        rw [List.getElem?_set_self hkv] at hi
        exact .inl ⟨rfl, (Option.some.inj hi).symm⟩
      · rw [List.getElem?_set_ne (by omega)] at hi
        exact .inr ⟨hik, hi⟩
    have one : ∀ (j : Nat) (x : Value), j ≠ k → vs[j]? = some x → x.ownBlock = some c → v'.ownBlock = some c → False := fun j x hjk hj hx hc => by
      rcases hfr with hfr | hfr
      · exact hjk (h.ap j k x v c hj hv hx (by rw [← hfr]; exact hc))
      · rw [hfr] at hc
        obtain rfl := Option.some.inj hc
        have := hlt j x hj _ hx
        have := h1w.size
        omega
    rcases key i u h1 h3 with ⟨rfl, rfl⟩ | ⟨hi, hi'⟩ <;> rcases key j x h2 h4 with ⟨rfl, rfl⟩ | ⟨hj, hj'⟩
    · rfl
    · exact (one j x hj hj' h4 h3).elim
    · exact (one i u hi hi' h3 h4).elim
    · exact h.ap i j u x c hi' hj' h3 h4
end
end Go.Proofs.YtpfohfihkmjnaaaGreatDoor
namespace Go.Proofs.YtpfohfihkmjnaaaGreatDoor
open Go.RowKit Go.Maps
abbrev ptG (x : Gp × Nat) : Value := .pointer (some ⟨x.2, 0, none⟩)
abbrev encQ (x : Gp × Nat) : List Value := [.pointer (some ⟨x.2, 0, none⟩)]
theorem encQ_enc : Enc encQ 1 := fun x => ⟨rfl, by simp [Value.oneCell']⟩
theorem szPg (w : World) : (sizeOf 86).run Tryz.prog w = .ok 1 w := by kernel_rfl
theorem indexFuncG_any (f : FuncId) (caps : Array Value) (p : Gp × Nat → Bool) (base : Nat) (w0 : World) (v : Value) (l : List (Gp × Nat)) (w : World) (hf : Clo Tryz.prog f) (hp : PredOn Tryz.prog f caps ptG l p base w0)
    (hl : At encQ 1 w v l) (hw : Below base w0 w) (hB : base ≤ w.heap.size) :
    Calls Tryz.prog 39 #[v, .func (.func f) #[] caps] w fun e w' => e = .returned (.int .i64 (idxVal p l)) ∧ Below w.heap.size w w' := by
  obtain ⟨a, c, b, o, rfl, ha, hc, hcm, hx⟩ := hl
  unfold maxLen at hcm
  have hf' := hf
  unfold Clo at hf'
  go_enter Tryz.func39, Tryz.ntmps39
  go_wp2_with fail
  go_loopw [8] (fun i wr => ∃ k : Nat, k ≤ l.length ∧ i = .int .i64 k ∧ Hid (∀ j y, j < k → l[j]? = some y → p y = false) ∧ Below w.heap.size w wr) (fun i _ => l.length - (intOf i).toNat)
  case atStart => exact ⟨0, by omega, rfl, fun j y hj => absurd hj (by omega), Below.refl _ _⟩
  case round =>
    obtain ⟨k, hk, rfl, hj, hb⟩ := hrel
    by_cases hlt : k < l.length
    · obtain ⟨x, hxk⟩ := get_ex hlt
      have c1 := hx k x hxk 0 _ rfl
      have c1 := (hb.cell (World.block_lt_of_cell? w _ c1)).trans c1
      have i1 := idx_at (c := c) 1 Tryz.underlying84 szPg ha k hlt
      have hk1 : (k : Int) < (l.length : Int) := by omega
      simp only [Nat.mul_one, Nat.add_zero] at c1 i1
      have hpx := hp wr x (List.mem_of_getElem? hxk) (hw.trans (hb.mono hB)) (Nat.le_trans hB hb.size)
      have Hp := Lib.hid hpx; clear hpx
      have Hx := Lib.hid hxk; clear hxk
      go_wp2_with fail
      refine Hp.out.mono ?_
      rintro e w1 ⟨rfl, hb1⟩
      have hb2 := hb.trans (hb1.mono hb.size)
      cases hpv : p x with
      | true =>
        have Hpv := Lib.hid hpv; clear hpv
        go_wp2_with fail
        go_ret
        refine ⟨?_, hb2⟩
        rw [idxVal_some Hx.out Hpv.out hj.out]; rfl
      | false =>
        have Hpv := Lib.hid hpv; clear hpv
        go_wp2_with fail
        go_roundw
        case rel => exact ⟨k + 1, by omega, by go_num, (fun j y hj' hy => by
          rcases Nat.lt_or_ge j k with h | h
          · exact hj.out j y h hy
          · obtain rfl : j = k := by omega
            rw [Hx.out] at hy
            obtain rfl := Option.some.inj hy
            exact Hpv.out), hb2⟩
        case measure => simp [intOf]; omega
    · obtain rfl : k = l.length := by omega
      go_wp2_with fail
      go_ret
      refine ⟨?_, hb⟩
      rw [idxVal_none fun j x hj' => hj.out j x (by
        rcases Nat.lt_or_ge j l.length with h | h
        · exact h
        · rw [List.getElem?_eq_none h] at hj'; cases hj') hj']
      rfl
set_option maxRecDepth 20000 in
/-- Does a file fit into a group? -/
theorem plan1_any (f : Fl) (fb B b : Nat) (v : Value) (g : Gp) (w : World) (h : GpAt 88 w B b v g) (h1 : w.cell? ⟨fb, 1, none⟩ = some (S f.part)) (h2 : w.cell? ⟨fb, 2, none⟩ = some (.int .i64 f.n)) (hn : 0 ≤ g.n ∧ g.n ≤ 40) (hf : 0 ≤ f.n ∧ f.n ≤ 40) :
    Calls Tryz.prog 40 #[.pointer (some ⟨b, 0, none⟩), .pointer (some ⟨fb, 0, none⟩)] w fun e w' => e = .returned (.bool (fitsG f g)) ∧ Below w.heap.size w w' := by
  obtain ⟨c0, c1, -, -⟩ := h.cells
  have hw1 : wrap64 (g.n + f.n) = g.n + f.n := IntWalk.wrap64_in _ (by omega)
  have hw2 : IntKind.i64.wrap (g.n + f.n) = g.n + f.n := IntWalk.i64_in _ (by omega)
  clear h
  unfold fitsG
  by_cases hp : g.part = f.part
  case neg =>
    have g1 : (g.part == f.part) = false := by simpa using hp
    rw [g1, Bool.false_and]
    clear hp
    go_enter Tryz.func40, Tryz.ntmps40
    go_wp2_with fail
    go_quiet (fail)
    go_wp2_with fail
    go_ret
    exact ⟨rfl, Bdn (Below.refl _ _) _⟩
  have g1 : (g.part == f.part) = true := by simpa using hp
  rw [g1, Bool.true_and]
  clear hp
  by_cases hs : g.n + f.n ≤ 40
  case neg =>
    have g2 : decide (g.n + f.n ≤ 40) = false := decide_eq_false hs
    rw [g2]
    clear hs
    go_enter Tryz.func40, Tryz.ntmps40
    go_wp2_with fail
    go_quiet (fail)
    go_wp2_with fail
    go_ret
    exact ⟨rfl, Bdn (Below.refl _ _) _⟩
  rw [decide_eq_true hs]
  go_enter Tryz.func40, Tryz.ntmps40
  go_wp2_with fail
  go_quiet (fail)
  go_wp2_with fail
  go_ret
  exact ⟨rfl, Bdn (Below.refl _ _) _⟩
theorem clo_plan1 : Clo Tryz.prog 40 := fun _ _ => by kernel_rfl
set_option maxRecDepth 20000 in
/-- How two groups stand: by their parts. -/
theorem plan2_any (x y : Nat) (p q : Str) (w : World) (hx : w.cell? ⟨x, 0, none⟩ = some (S p)) (hy : w.cell? ⟨y, 0, none⟩ = some (S q)) :
    Calls Tryz.prog 42 #[.pointer (some ⟨x, 0, none⟩), .pointer (some ⟨y, 0, none⟩)] w fun e w' => e = .returned (.int .i64 (Lib.compareBytes p q)) ∧ ∃ n, w' = w.drewN n := by
  have HC := Lib.hid (fun W => strCompare_any p q W)
  go_enter Tryz.func42, Tryz.ntmps42
  go_wp2_with fail
  go_quiet ((go_at_call 43; refine Calls.quiet_of_same ((HC.out _).mono fun e w' h => ⟨h.1, h.2.symm⟩)))
  go_wp2_with fail
  go_ret
  exact ⟨rfl, _, rfl⟩
theorem clo_plan2 : Clo Tryz.prog 42 := fun _ _ => by kernel_rfl
end Go.Proofs.YtpfohfihkmjnaaaGreatDoor
namespace Go.Proofs.YtpfohfihkmjnaaaGreatDoor
namespace Stb
variable {α : Type} {lt : α → α → Bool} {ix : α → Nat}
/-- One more, among what lies in order, the last ahead. -/
def insRev (lt : α → α → Bool) (x : α) : List α → List α
  | [] => [x]
  | y :: r => if lt x y then y :: insRev lt x r else x :: y :: r
theorem insRev_perm (x : α) : ∀ l : List α, (insRev lt x l).Perm (x :: l)
  | [] => List.Perm.refl _
  | y :: r => by
    unfold insRev
    split
    · exact ((insRev_perm x r).cons y).trans (List.Perm.swap x y r)
    · exact List.Perm.refl _
theorem insRev_ord (hw : Way lt ix) {x : α} : ∀ {l : List α}, l.Pairwise (fun a b => R lt ix b a) → (∀ y ∈ l, ix y < ix x) → (insRev lt x l).Pairwise (fun a b => R lt ix b a)
  | [], _, _ => by simp [insRev]
  | y :: r, h, hx => by
    obtain ⟨h1, h2⟩ := List.pairwise_cons.1 h
    unfold insRev
    split
    · rename_i hl
      refine List.pairwise_cons.2 ⟨fun z hz => ?_, insRev_ord hw h2 fun z hz => hx z (by simp [hz])⟩
      rcases List.mem_cons.1 ((insRev_perm x r).mem_iff.1 hz) with rfl | hz
      · exact .inl hl
      · exact h1 z hz
    · rename_i hl
      have hl' : lt x y = false := by simpa using hl
      refine List.pairwise_cons.2 ⟨fun z hz => ?_, h⟩
      rcases List.mem_cons.1 hz with rfl | hz
      · exact .inr ⟨hl', hx z (by simp)⟩
      · exact .inr ⟨hw.ntr x y z hl' (hw.le (h1 z hz)), hx z (by simp [hz])⟩
theorem fold_ord (hw : Way lt ix) : ∀ (l acc : List α), acc.Pairwise (fun a b => R lt ix b a) → (∀ y ∈ acc, ∀ x ∈ l, ix y < ix x) → l.Pairwise (fun a b => ix a < ix b) → (l.foldl (fun q x => insRev lt x q) acc).Pairwise (fun a b => R lt ix b a)
  | [], _, h, _, _ => h
  | x :: l, acc, h, hx, hl => by
    obtain ⟨h1, h2⟩ := List.pairwise_cons.1 hl
    refine fold_ord hw l _ (insRev_ord hw h fun y hy => hx y hy x (by simp)) (fun y hy z hz => ?_) h2
    rcases List.mem_cons.1 ((insRev_perm x acc).mem_iff.1 hy) with rfl | hy
    · exact h1 z hz
    · exact hx y hy z (by simp [hz])
theorem fold_perm : ∀ (l acc : List α), (l.foldl (fun q x => insRev lt x q) acc).Perm (acc ++ l)
  | [], acc => by simp
  | x :: l, acc => by
    refine (fold_perm l (insRev lt x acc)).trans ?_
    refine ((insRev_perm x acc).append_right l).trans ?_
    exact (List.perm_middle (l₁ := acc) (l₂ := l) (a := x)).symm
variable [Inhabited α]
theorem bang {d : Array α} {q r : List α} {x : α} (h : d.toList = q ++ x :: r) : d[q.length]! = x := by
  have hl : q.length < d.size := by rw [← Array.length_toList, h]; simp
  rw [getElem!_pos d q.length hl, ← Array.getElem_toList]
  simp [h]
theorem swp_list {d : Array α} {q r : List α} {x y : α} (h : d.toList = q ++ y :: x :: r) : (Sort.swp d (q.length + 1) q.length).toList = q ++ x :: y :: r := by
  have hy : d[q.length]! = y := bang h
  have hx : d[q.length + 1]! = x := by
    have := bang (d := d) (q := q ++ [y]) (r := r) (x := x) (by rw [h]; simp)
    simpa using this
  unfold Sort.swp
  rw [hx, hy, Array.toList_setIfInBounds, Array.toList_setIfInBounds, h]
  rw [List.set_append_right _ _ (by omega), List.set_append_right _ _ (by omega)]
  simp
end Stb
end Go.Proofs.YtpfohfihkmjnaaaGreatDoor
namespace Go.Proofs
open Go.Shelf
def Tryz.insG_ren : Go.Shelf.Ren := ⟨fun | 20 => 129 | n => n, fun | 24 => 86 | 22 => 84 | 3 => 3 | 25 => 91 | 4 => 4 | 0 => 0 | n => n, fun | n => n⟩
theorem Tryz.insG : Go.Proofs.SlLaysF.n20 Tryz.prog Tryz.insG_ren := {
  mixed := by kernel_rfl
  f20 := ⟨Tryz.f129.name, by decide, Tryz.func129.trans (congrArg some (by kernel_rfl))⟩
  t0 := Tryz.underlying0
  a0 := Tryz.isAgg0
  z0 := Tryz.sizeOf0
  v0 := Tryz.zeroValue0
  t3 := Tryz.underlying3
  a3 := Tryz.isAgg3
  z3 := Tryz.sizeOf3
  v3 := Tryz.zeroValue3
  t4 := Tryz.underlying4
  a4 := Tryz.isAgg4
  z4 := Tryz.sizeOf4
  v4 := Tryz.zeroValue4
  t22 := Tryz.underlying84
  a22 := Tryz.isAgg84
  z22 := Tryz.sizeOf84
  v22 := Tryz.zeroValue84
  a24 := Tryz.isAgg86
  z24 := Tryz.sizeOf86
  t25 := Tryz.underlying91
  a25 := Tryz.isAgg91
  z25 := Tryz.sizeOf91
  v25 := Tryz.zeroValue91 }
end Go.Proofs
namespace Go.Proofs.YtpfohfihkmjnaaaGreatDoor
open Go.RowKit Go.Sort Go.Lib Go.Shelf
abbrev befG (x y : Gp × Nat) : Bool := bef x.1.part y.1.part
section
variable {α : Type} [Inhabited α] {w : World} {g n k : Nat} {os : Array Obj} {cur : Array Value} {e : TypeId} {fr : Nat × Nat}
theorem heap_sorted1 (enc : α → Value) (d : Array α) (hb : w.heap[g]? = some (.cells cur e fr)) : (sortWorld enc w g 0 n d os).heap[g]? = some (.cells (putCells enc 0 d cur) e fr) := by
  have hg : g < w.heap.size := (Array.getElem?_eq_some_iff.1 hb).1
  unfold sortWorld
  rw [heap_grow_old _ _ (by simpa using hg)]
  simp [putRow, mapBlock, Sort.ahead, Array.getElem?_modify, hb, onCells]
theorem other_sorted1 (enc : α → Value) (d : Array α) (hk : k < w.heap.size) (hne : g ≠ k) : (sortWorld enc w g 0 n d os).heap[k]? = w.heap[k]? := by
  unfold sortWorld
  rw [heap_grow_old _ _ (by simpa using hk)]
  simp [putRow, mapBlock, Sort.ahead, Array.getElem?_modify, hne]
theorem grownBy_sorted1 (enc : α → Value) (d : Array α) : w.grownBy (sortWorld enc w g 0 n d os) (some g) :=
  ⟨rfl, rfl, rfl, by simp [sortWorld], fun k hk hne => other_sorted1 enc d hk fun e => hne (by rw [e])⟩
theorem take_put1 (enc : α → Value) (cur : Array Value) (d : Array α) (h : d.size ≤ cur.size) : (putCells enc 0 d cur).toList.take d.size = d.toList.map enc := by
  apply List.ext_getElem?
  intro j
  by_cases hj : j < d.size
  · rw [List.getElem?_take_of_lt hj, Array.getElem?_toList]
    simp [putCells, hj, show j < cur.size by omega]
  · rw [List.getElem?_take_eq_none (by omega), List.getElem?_eq_none (by simp; omega)]
end
theorem comp_bef : ∀ (a b : Str), decide (Lib.compareBytes a b < 0) = bef a b
  | [], [] => rfl
  | [], _ :: _ => rfl
  | _ :: _, [] => rfl
  | x :: a, y :: b => by
    have ih := comp_bef a b
    show _ = (decide (x < y) || (x == y && bytesBefore a b))
    unfold Lib.compareBytes
    by_cases h1 : x < y
    · simp [h1]
    · by_cases h2 : y < x
      · have hne : (x == y) = false := by
          simp only [beq_eq_false_iff_ne]
          rintro rfl
          exact h1 h2
        simp [h1, h2, hne]
      · have he : x = y := UInt8.le_antisymm (UInt8.not_lt.1 h2) (UInt8.not_lt.1 h1)
        subst he
        simp only [h1, if_false, decide_false, Bool.false_or, beq_self_eq_true, Bool.true_and]
        exact ih
theorem flat_ptG : ∀ l : List (Gp × Nat), l.flatMap encQ = l.map ptG
  | [] => rfl
  | x :: l => by rw [List.flatMap_cons, flat_ptG l]; rfl
end Go.Proofs.YtpfohfihkmjnaaaGreatDoor
namespace Go.Proofs.YtpfohfihkmjnaaaGreatDoor
namespace Stb
variable {α : Type}
/-- Two stretches of n have changed places. -/
def Swp (l l' : List α) (a b n : Nat) : Prop := l'.length = l.length ∧ ∀ i : Nat, l'[i]? = if a ≤ i ∧ i < a + n then l[b + (i - a)]? else if b ≤ i ∧ i < b + n then l[a + (i - b)]? else l[i]?
theorem Swp.zero (l : List α) (a b : Nat) : Swp l l a b 0 := ⟨rfl, fun i => by
  rw [if_neg (by omega), if_neg (by omega)]⟩
theorem Swp.step {l l' : List α} {a b k : Nat} {x y : α} (h : Swp l l' a b k) (hab : a + k < b) (hx : l'[a + k]? = some x) (hy : l'[b + k]? = some y) : Swp l ((l'.set (a + k) y).set (b + k) x) a b (k + 1) := by
  have ha := h.2 (a + k)
  have hb := h.2 (b + k)
  rw [if_neg (by omega), if_neg (by omega), hx] at ha
  rw [if_neg (by omega), if_neg (by omega), hy] at hb
  have hla := (List.getElem?_eq_some_iff.1 hx).1
  have hlb := (List.getElem?_eq_some_iff.1 hy).1
  refine ⟨by simp [h.1], fun i => ?_⟩
  by_cases e1 : i = b + k
  · subst e1
    rw [List.getElem?_set_self (by simpa using hlb), if_neg (by omega), if_pos (by omega), ha]
    exact congrArg (fun z => l[z]?) (by omega)
  rw [List.getElem?_set_ne (by omega)]
  by_cases e2 : i = a + k
  · subst e2
    rw [List.getElem?_set_self hla, if_pos (by omega), hb]
    exact congrArg (fun z => l[z]?) (by omega)
  rw [List.getElem?_set_ne (by omega), h.2 i]
  repeat' split
  all_goals first | rfl | (exfalso; omega)
/-- Where the left part is the longer one. -/
theorem rot_long {l l' : List α} {s m e i j : Nat} (hs : s + i = m) (he : e = m + j) (hij : j < i) (hl : e ≤ l.length) (h : Swp l l' s m j) : rot l s m e = rot l' (s + j) m e := by
  apply List.ext_getElem?
  intro k
  rw [rot_get l (by omega) (by omega) hl, rot_get l' (by omega) (by omega) (by rw [h.1]; exact hl)]
  simp only [h.2]
  repeat' split
  all_goals first | exact congrArg (fun z => l[z]?) (by omega) | (exfalso; omega)
/-- Where the right part is the longer one. -/
theorem rot_short {l l' : List α} {s m e i j : Nat} (hs : s + i = m) (he : e = m + j) (hij : i < j) (hl : e ≤ l.length) (h : Swp l l' s (m + j - i) i) : rot l s m e = rot l' s m (m + (j - i)) := by
  apply List.ext_getElem?
  intro k
  rw [rot_get l (by omega) (by omega) hl, rot_get l' (by omega) (by omega) (by rw [h.1]; omega)]
  simp only [h.2]
  repeat' split
  all_goals first | exact congrArg (fun z => l[z]?) (by omega) | (exfalso; omega)
/-- Where both are as long. -/
theorem rot_even {l l' : List α} {s m i : Nat} (hs : s + i = m) (hl : m + i ≤ l.length) (h : Swp l l' s m i) : rot l s m (m + i) = l' := by
  apply List.ext_getElem?
  intro k
  rw [rot_get l (by omega) (by omega) hl]
  simp only [h.2]
  repeat' split
  all_goals first | exact congrArg (fun z => l[z]?) (by omega) | (exfalso; omega)
/-- One that goes up by steps. -/
theorem rot_up {l : List α} {a k : Nat} {x y : α} (hl : k + 1 < l.length) (ha : a ≤ k) (hx : (rot l a (a + 1) (k + 1))[k]? = some x) (hy : (rot l a (a + 1) (k + 1))[k + 1]? = some y) :
    ((rot l a (a + 1) (k + 1)).set k y).set (k + 1) x = rot l a (a + 1) (k + 2) := by
  have hr : (rot l a (a + 1) (k + 1)).length = l.length := (rot_perm l (by omega) (by omega)).length_eq
  apply List.ext_getElem?
  intro i
  by_cases e1 : i = k + 1
  · subst e1
    rw [List.getElem?_set_self (by simp [hr]; omega), ← hx, rot_get l (by omega) (by omega) (by omega), rot_get l (by omega) (by omega) (by omega)]
    repeat' split
    all_goals first | exact congrArg (fun z => l[z]?) (by omega) | (exfalso; omega)
  rw [List.getElem?_set_ne (by omega)]
  by_cases e2 : i = k
  · subst e2
    rw [List.getElem?_set_self (by rw [hr]; omega), ← hy, rot_get l (by omega) (by omega) (by omega), rot_get l (by omega) (by omega) (by omega)]
    repeat' split
    all_goals first | exact congrArg (fun z => l[z]?) (by omega) | (exfalso; omega)
  rw [List.getElem?_set_ne (by omega), rot_get l (by omega) (by omega) (by omega), rot_get l (by omega) (by omega) (by omega)]
  repeat' split
  all_goals first | exact congrArg (fun z => l[z]?) (by omega) | (exfalso; omega)
/-- One that goes down by steps. -/
theorem rot_down {l : List α} {k m : Nat} {x y : α} (hl : m < l.length) (h0 : 0 < k) (hk : k ≤ m) (hx : (rot l k m (m + 1))[k]? = some x) (hy : (rot l k m (m + 1))[k - 1]? = some y) :
    ((rot l k m (m + 1)).set k y).set (k - 1) x = rot l (k - 1) m (m + 1) := by
  have hr : (rot l k m (m + 1)).length = l.length := (rot_perm l (by omega) (by omega)).length_eq
  apply List.ext_getElem?
  intro i
  by_cases e1 : i = k - 1
  · subst e1
    rw [List.getElem?_set_self (by simp [hr]; omega), ← hx, rot_get l (by omega) (by omega) (by omega), rot_get l (by omega) (by omega) (by omega)]
    repeat' split
    all_goals first | exact congrArg (fun z => l[z]?) (by omega) | (exfalso; omega)
  rw [List.getElem?_set_ne (by omega)]
  by_cases e2 : i = k
  · subst e2
    rw [List.getElem?_set_self (by rw [hr]; omega), ← hy, rot_get l (by omega) (by omega) (by omega), rot_get l (by omega) (by omega) (by omega)]
    repeat' split
    all_goals first | exact congrArg (fun z => l[z]?) (by omega) | (exfalso; omega)
  rw [List.getElem?_set_ne (by omega), rot_get l (by omega) (by omega) (by omega), rot_get l (by omega) (by omega) (by omega)]
  repeat' split
  all_goals first | exact congrArg (fun z => l[z]?) (by omega) | (exfalso; omega)
variable {lt : α → α → Bool} {ix : α → Nat}
/-- What a look at the middle tells of all below it, or above. -/
theorem less_below (hw : Way lt ix) {l : List α} {a b h : Nat} {x y : α} (ho : Ord lt ix l a b) (hb : h < b) (hy : l[h]? = some y) (hlt : lt y x = true) : ∀ k z, a ≤ k → k < h + 1 → l[k]? = some z → lt z x = true := fun k z h1 h2 hz => by
  rcases Nat.lt_or_ge k h with hk | hk
  · exact hw.le_lt (ho.le_of hw h1 hk hb hz hy) hlt
  · obtain rfl : k = h := by omega
    rw [hy] at hz; obtain rfl := Option.some.inj hz; exact hlt
theorem not_above (hw : Way lt ix) {l : List α} {a b h : Nat} {x y : α} (ho : Ord lt ix l a b) (ha : a ≤ h) (hy : l[h]? = some y) (hlt : lt y x = false) : ∀ k z, h ≤ k → k < b → l[k]? = some z → lt z x = false := fun k z h1 h2 hz => by
  rcases Nat.lt_or_ge h k with hk | hk
  · exact hw.ntr z y x (ho.le_of hw ha hk h2 hy hz) hlt
  · obtain rfl : k = h := by omega
    rw [hy] at hz; obtain rfl := Option.some.inj hz; exact hlt
theorem not_below (hw : Way lt ix) {l : List α} {a b h : Nat} {x y : α} (ho : Ord lt ix l a b) (hb : h < b) (hy : l[h]? = some y) (hlt : lt x y = false) : ∀ k z, a ≤ k → k < h + 1 → l[k]? = some z → lt x z = false := fun k z h1 h2 hz => by
  rcases Nat.lt_or_ge k h with hk | hk
  · exact hw.ntr x y z hlt (ho.le_of hw h1 hk hb hz hy)
  · obtain rfl : k = h := by omega
    rw [hy] at hz; obtain rfl := Option.some.inj hz; exact hlt
theorem less_above (hw : Way lt ix) {l : List α} {a b h : Nat} {x y : α} (ho : Ord lt ix l a b) (ha : a ≤ h) (hy : l[h]? = some y) (hlt : lt x y = true) : ∀ k z, h ≤ k → k < b → l[k]? = some z → lt x z = true := fun k z h1 h2 hz => by
  rcases Nat.lt_or_ge h k with hk | hk
  · exact hw.lt_le hlt (ho.le_of hw ha hk h2 hy hz)
  · obtain rfl : k = h := by omega
    rw [hy] at hz; obtain rfl := Option.some.inj hz; exact hlt
/-- The lists that a merge may leave. -/
def Mrg (lt : α → α → Bool) (ix : α → Nat) (l l' : List α) (a b : Nat) : Prop := Seg l l' a b ∧ Ord lt ix l' a b
/-- What the search for a cut has found so far. -/
structure Fnd (lt : α → α → Bool) (l : List α) (a m b s r : Nat) : Prop where
  sr : s ≤ r
  s0 : (if (a + b) / 2 < m then (a + b) / 2 + m - b else a) ≤ s
  r0 : r ≤ (if (a + b) / 2 < m then (a + b) / 2 else m)
  c1 : s = (if (a + b) / 2 < m then (a + b) / 2 + m - b else a) ∨ ∀ x y, l[s - 1]? = some x → l[(a + b) / 2 + m - s]? = some y → lt y x = false
  c2 : r = (if (a + b) / 2 < m then (a + b) / 2 else m) ∨ ∀ x y, l[r]? = some x → l[(a + b) / 2 + m - 1 - r]? = some y → lt y x = true
theorem Fnd.start {l : List α} {a m b : Nat} (h1 : a < m) (h2 : m < b) : Fnd lt l a m b (if (a + b) / 2 < m then (a + b) / 2 + m - b else a) (if (a + b) / 2 < m then (a + b) / 2 else m) :=
  ⟨by split <;> omega, Nat.le_refl _, Nat.le_refl _, .inl rfl, .inl rfl⟩
theorem Fnd.up {l : List α} {a m b s r c : Nat} {x y : α} (h : Fnd lt l a m b s r) (hs : s ≤ c) (hr : c < r) (hx : l[c]? = some x) (hy : l[(a + b) / 2 + m - 1 - c]? = some y) (hlt : lt y x = false) : Fnd lt l a m b (c + 1) r :=
  ⟨hr, by have := h.s0; omega, h.r0, .inr fun u v hu hv => by
    rw [Nat.add_sub_cancel, hx] at hu
    rw [show (a + b) / 2 + m - (c + 1) = (a + b) / 2 + m - 1 - c by omega, hy] at hv
    obtain rfl := Option.some.inj hu
    obtain rfl := Option.some.inj hv
    exact hlt, h.c2⟩
theorem Fnd.down {l : List α} {a m b s r c : Nat} {x y : α} (h : Fnd lt l a m b s r) (hs : s ≤ c) (hr : c < r) (hx : l[c]? = some x) (hy : l[(a + b) / 2 + m - 1 - c]? = some y) (hlt : lt y x = true) : Fnd lt l a m b s c :=
  ⟨hs, h.s0, by have := h.r0; omega, h.c1, .inr fun u v hu hv => by
    rw [hx] at hu
    rw [hy] at hv
    obtain rfl := Option.some.inj hu
    obtain rfl := Option.some.inj hv
    exact hlt⟩
theorem Fnd.cut {l : List α} {a m b s : Nat} (h : Fnd lt l a m b s s) (h1 : a < m) (h2 : m < b) (hl : b ≤ l.length) : Cut lt l a m b s ((a + b) / 2 + m - s) ((a + b) / 2) := by
  have hs := h.s0
  have hr := h.r0
  have c1 := h.c1
  have c2 := h.c2
  by_cases hm : (a + b) / 2 < m
  · simp only [if_pos hm] at hs hr c1 c2
    refine ⟨by omega, by omega, by omega, by omega, hl, by omega, fun x y hx hy h3 h4 => ?_, fun x y hx hy h3 h4 => ?_⟩
    · exact c1.elim (fun e => by omega) fun f => f x y h3 h4
    · refine c2.elim (fun e => by omega) fun f => f x y h3 ?_
      rw [← h4]
      exact congrArg (fun z => l[z]?) (by omega)
  · simp only [if_neg hm] at hs hr c1 c2
    refine ⟨by omega, by omega, by omega, by omega, hl, by omega, fun x y hx hy h3 h4 => ?_, fun x y hx hy h3 h4 => ?_⟩
    · exact c1.elim (fun e => by omega) fun f => f x y h3 h4
    · refine c2.elim (fun e => by omega) fun f => f x y h3 ?_
      rw [← h4]
      exact congrArg (fun z => l[z]?) (by omega)
/-- A merge by a cut: what the two merges behind the rotation must do. -/
theorem Cut.merge (hw : Way lt ix) {l : List α} {a m b s e mid : Nat} (c : Cut lt l a m b s e mid) (h1 : Ord lt ix l a m) (h2 : Ord lt ix l m b) (hlo : Low ix l a m b) :
    (a < s → s < mid → Ord lt ix (rot l s m e) a s ∧ Ord lt ix (rot l s m e) s mid ∧ Low ix (rot l s m e) a s mid) ∧
    ∀ l2, ((a < s ∧ s < mid) ∧ Mrg lt ix (rot l s m e) l2 a mid ∨ ¬ (a < s ∧ s < mid) ∧ l2 = rot l s m e) →
      (mid < e → e < b → Ord lt ix l2 mid e ∧ Ord lt ix l2 e b ∧ Low ix l2 mid e b) ∧
      ∀ l3, ((mid < e ∧ e < b) ∧ Mrg lt ix l2 l3 mid b ∨ ¬ (mid < e ∧ e < b) ∧ l3 = l2) → Mrg lt ix l l3 a b := by
  obtain ⟨p1, p2, p3, p4, p5, p6, p7⟩ := c.parts hw h1 h2 hlo
  have b1 := c.alo; have b2 := c.sm; have b3 := c.me; have b4 := c.eb; have b5 := c.bl; have b6 := c.mid
  have hrs : Seg l (rot l s m e) a b := rot_seg l b2 b3 (by omega) b1 b4
  refine ⟨fun _ _ => ⟨p2, p3, p4⟩, fun l2 hl2 => ?_⟩
  have q : Seg (rot l s m e) l2 a mid ∧ Ord lt ix l2 a mid := by
    rcases hl2 with ⟨-, h⟩ | ⟨hn, rfl⟩
    · exact h
    · refine ⟨Seg.refl _ _ _, ?_⟩
      rcases Nat.lt_or_ge a s with h | h
      · obtain rfl : s = mid := by omega
        exact p2
      · obtain rfl : s = a := by omega
        exact p3
  refine ⟨fun _ _ => ⟨p5.seg q.1 (by omega), p6.seg q.1 (by omega), p7.seg q.1 (by omega)⟩, fun l3 hl3 => ?_⟩
  have r : Seg l2 l3 mid b ∧ Ord lt ix l3 mid b := by
    rcases hl3 with ⟨-, h⟩ | ⟨hn, rfl⟩
    · exact h
    · refine ⟨Seg.refl _ _ _, ?_⟩
      rcases Nat.lt_or_ge e b with h | h
      · obtain rfl : e = mid := by omega
        exact p6.seg q.1 (by omega)
      · obtain rfl : e = b := by omega
        exact p5.seg q.1 (by omega)
  exact whole p1 (by omega) (by omega) hrs q.1 q.2 r.1 r.2
end Stb
end Go.Proofs.YtpfohfihkmjnaaaGreatDoor
namespace Go.Proofs.YtpfohfihkmjnaaaGreatDoor
open Go.RowKit Go.Sort Go.Lib Go.Shelf
/-- What the parts of the groups are told by, as long as nothing turns but rows of groups. -/
def TellsG (w : World) (l : List (Gp × Nat)) : Prop := ∀ x ∈ l, w.cell? ⟨x.2, 0, none⟩ = some (S x.1.part) ∧ ∃ o, w.heap[x.2]? = some o ∧ ∀ cs, o ≠ .cells cs 86 (0, 0)
theorem TellsG.kept {w w' : World} {l : List (Gp × Nat)} (h : TellsG w l) (hk : KeptBut 86 w w') : TellsG w' l := fun x hx => by
  obtain ⟨h1, o, h2, h3⟩ := h x hx
  have h4 := hk.2 x.2 o h2 h3
  refine ⟨?_, o, h4, h3⟩
  rw [← h1]
  unfold World.cell?
  rw [h4, h2]
theorem TellsG.perm {w : World} {l m : List (Gp × Nat)} (h : TellsG w l) (hp : m.Perm l) : TellsG w m := fun x hx => h x (hp.mem_iff.1 hx)
/-- A world in which only rows of groups have turned, and none below B. -/
def TurnG (B : Nat) (w w' : World) : Prop := KeptBut 86 w w' ∧ Below B w w' ∧ w.heap.size ≤ w'.heap.size
theorem KeptBut.trans {e : TypeId} {a b c : World} (h : KeptBut e a b) (k : KeptBut e b c) : KeptBut e a c := ⟨Nat.le_trans h.1 k.1, fun j o hj ho => k.2 j o (h.2 j o hj ho) ho⟩
theorem TurnG.refl (B : Nat) (w : World) : TurnG B w w := ⟨KeptBut.refl _ _, Below.refl _ _, Nat.le_refl _⟩
theorem TurnG.trans {B : Nat} {a b c : World} (h : TurnG B a b) (k : TurnG B b c) : TurnG B a c := ⟨h.1.trans k.1, h.2.1.trans k.2.1, Nat.le_trans h.2.2 k.2.2⟩
theorem TurnG.drewN {B : Nat} {a b : World} (h : TurnG B a b) (n : Nat) (hB : B ≤ b.heap.size) : TurnG B a (b.drewN n) := by
  have hb : Below b.heap.size b (b.drewN n) := Bdn (Below.refl _ _) _
  exact ⟨h.1.below hb, h.2.1.trans (hb.mono hB), Nat.le_trans h.2.2 hb.size⟩
/-- One place of the row is written. -/
theorem turn_set {B : Nat} {w : World} {g n cap i : Nat} {l : List (Gp × Nat)} (ho : Own encQ 86 1 B w (.slice (some ⟨g, 0, none⟩) n cap) l) (hi : i < l.length) (x : Gp × Nat) :
    Own encQ 86 1 B (w.setCell ⟨g, i, none⟩ (ptG x)) (.slice (some ⟨g, 0, none⟩) n cap) (l.set i x) ∧ TurnG B w (w.setCell ⟨g, i, none⟩ (ptG x)) := by
  obtain ⟨g', cap', cur, hv, hB, hg, hc, hm, hs, ht⟩ := ho.open (by omega)
  cases hv
  have hsz : (w.setCell ⟨g, i, none⟩ (ptG x)).heap.size = w.heap.size := by simp [World.setCell]
  refine ⟨Own.set1 (val := ptG) encQ_enc ho hi x, ⟨by rw [hsz]; exact Nat.le_refl _, fun k o hk hne => ?_⟩, ⟨rfl, rfl, rfl, by rw [hsz]; exact Nat.le_refl _, fun k hk => set_other (by omega) _⟩, by rw [hsz]; exact Nat.le_refl _⟩
  have hgk : g ≠ k := fun e => by
    subst e
    rw [hg] at hk
    exact hne cur (Option.some.inj hk).symm
  rw [set_other hgk]
  exact hk
/-- Two places of the row are changed for one another. -/
theorem turn_two {B : Nat} {w : World} {g n cap i j : Nat} {l : List (Gp × Nat)} (ho : Own encQ 86 1 B w (.slice (some ⟨g, 0, none⟩) n cap) l) (hi : i < l.length) (hj : j < l.length) (x y : Gp × Nat) (hB : B ≤ w.heap.size) :
    Own encQ 86 1 B ((w.setCell ⟨g, i, none⟩ (ptG y)).setCell ⟨g, j, none⟩ (ptG x)).drew (.slice (some ⟨g, 0, none⟩) n cap) ((l.set i y).set j x) ∧ TurnG B w ((w.setCell ⟨g, i, none⟩ (ptG y)).setCell ⟨g, j, none⟩ (ptG x)).drew := by
  obtain ⟨h1, t1⟩ := turn_set ho hi y
  obtain ⟨h2, t2⟩ := turn_set h1 (i := j) (by simpa using hj) x
  have t3 := t1.trans t2
  have hd : Below ((w.setCell ⟨g, i, none⟩ (ptG y)).setCell ⟨g, j, none⟩ (ptG x)).heap.size ((w.setCell ⟨g, i, none⟩ (ptG y)).setCell ⟨g, j, none⟩ (ptG x)) ((w.setCell ⟨g, i, none⟩ (ptG y)).setCell ⟨g, j, none⟩ (ptG x)).drew := (Below.refl _ _).drew
  exact ⟨h2.below hd, t3.1.below hd, t3.2.1.trans (hd.mono (Nat.le_trans hB t3.2.2)), Nat.le_trans t3.2.2 hd.size⟩
/-- What the row's cells hold: the facts that a change of two places wants. -/
theorem row_cells {B : Nat} {w : World} {g n cap i j : Nat} {l : List (Gp × Nat)} {x y : Gp × Nat} (ho : Own encQ 86 1 B w (.slice (some ⟨g, 0, none⟩) n cap) l) (hx : l[i]? = some x) (hy : l[j]? = some y) :
    w.cell? ⟨g, i, none⟩ = some (ptG x) ∧ w.cell? ⟨g, j, none⟩ = some (ptG y) ∧ w.frozen? ⟨g, i, none⟩ = false ∧ w.frozen? ⟨g, j, none⟩ = false ∧ ∃ u, (w.setCell ⟨g, i, none⟩ (ptG y)).cell? ⟨g, j, none⟩ = some u := by
  have hil := (List.getElem?_eq_some_iff.1 hx).1
  have hjl := (List.getElem?_eq_some_iff.1 hy).1
  obtain ⟨g', cap', cur, hv, hB, hg, hc, hm, hs, ht⟩ := ho.open (by omega)
  cases hv
  obtain ⟨q, hq⟩ : ∃ q, q = l.length := ⟨_, rfl⟩
  rw [← hq] at ho
  have cl : ∀ {W : World} {m : List (Gp × Nat)} {k : Nat} {z : Gp × Nat}, Own encQ 86 1 B W (.slice (some ⟨g, 0, none⟩) q cap) m → m[k]? = some z → W.cell? ⟨g, k, none⟩ = some (ptG z) := fun {W m k z} h hz => by
    obtain ⟨a, c, b, o, hv, ha, h2, h3, h4⟩ := h.at encQ_enc
    have hp := ha (by have := (List.getElem?_eq_some_iff.1 hz).1; omega)
    subst hp
    simp only [Value.slice.injEq, Option.some.injEq, Addr.mk.injEq] at hv
    obtain ⟨⟨rfl, rfl, -⟩, -, -⟩ := hv
    have := h4 k z hz 0 _ rfl
    simpa using this
  refine ⟨cl ho hx, cl ho hy, frozen_row hg, frozen_row hg, ?_⟩
  have h2 := (turn_set ho hil y).1
  clear hq
  obtain ⟨u, hu⟩ : ∃ u, (l.set i y)[j]? = some u := ⟨_, List.getElem?_eq_getElem (by simpa using hjl)⟩
  exact ⟨_, cl h2 hu⟩
set_option maxHeartbeats 1000000 in
set_option maxRecDepth 20000 in
theorem swapRangeG_any (B : Nat) (v f : Value) (l : List (Gp × Nat)) (a b n : Nat) (w : World) (ho : Own encQ 86 1 B w v l) (hB : B ≤ w.heap.size) (hl : l.length ≤ 100) (hab : a + n ≤ b) (hb : b + n ≤ l.length) :
    Calls Tryz.prog 188 #[v, .int .i64 a, .int .i64 b, .int .i64 n, f] w fun e w' => e = .returned (.tuple #[]) ∧ ∃ m, Stb.Swp l m a b n ∧ Own encQ 86 1 B w' v m ∧ TurnG B w w' := by
  rcases Nat.eq_zero_or_pos n with rfl | hn
  · have Ho := Lib.hid ho
    obtain ⟨av, cv, rfl, -, -⟩ := At.form' (ho.at encQ_enc)
    clear ho
    go_enter Tryz.func188, Tryz.ntmps188
    go_wp2_with fail
    go_loopw [10] (fun i wr => i = .int .i64 0 ∧ wr = w) (fun _ _ => 0)
    case atStart => exact ⟨rfl, rfl⟩
    case round =>
      obtain ⟨rfl, rfl⟩ := hrel
      go_wp2_with fail
      go_end0
      exact ⟨rfl, l, Stb.Swp.zero _ _ _, Ho.out, TurnG.refl _ _⟩
  obtain ⟨g, cap, cur, rfl, -, -, -, -, -, -⟩ := ho.open (by omega)
  have Ho := Lib.hid ho
  clear ho
  go_enter Tryz.func188, Tryz.ntmps188
  go_wp2_with fail
  go_loopw [10] (fun i wr => ∃ (k : Nat) (m : List (Gp × Nat)), k ≤ n ∧ i = .int .i64 k ∧ m.length = l.length ∧ Hid (Stb.Swp l m a b k) ∧ Hid (Own encQ 86 1 B wr (.slice (some ⟨g, 0, none⟩) l.length cap) m) ∧ Hid (TurnG B w wr)) (fun i _ => n - (intOf i).toNat)
  case atStart => exact ⟨0, l, by omega, rfl, rfl, Lib.hid (Stb.Swp.zero _ _ _), Lib.hid Ho.out, Lib.hid (TurnG.refl _ _)⟩
  case round =>
    obtain ⟨k, m, hk, rfl, hml, hsw, hom, htu⟩ := hrel
    obtain ⟨wo, rfl⟩ : ∃ wo, wo = wr := ⟨wr, rfl⟩
    by_cases hlt : k < n
    case neg =>
      obtain rfl : k = n := by omega
      go_wp2_with fail
      go_end0
      exact ⟨rfl, m, hsw.out, hom.out, htu.out⟩
    obtain ⟨x, hx⟩ := get_ex (l := m) (k := a + k) (by omega)
    obtain ⟨y, hy⟩ := get_ex (l := m) (k := b + k) (by omega)
    obtain ⟨c1, c2, f1, f2, u, c3⟩ := row_cells hom.out hx hy
    have T2 := Lib.hid (turn_two hom.out (i := a + k) (j := b + k) (by omega) (by omega) x y (Nat.le_trans hB htu.out.2.2))
    have HS := Lib.hid (hsw.out.step (by omega) hx hy)
    obtain ⟨iA, hiA⟩ : ∃ q, q = a + k := ⟨_, rfl⟩
    obtain ⟨iB, hiB⟩ : ∃ q, q = b + k := ⟨_, rfl⟩
    have hkn : (k : Int) < (n : Int) := by omega
    have ea : ((a : Int) + (k : Int)).toNat = iA := by omega
    have pa : (0 : Int) ≤ (a : Int) + (k : Int) := by omega
    have ba : (a : Int) + (k : Int) < (l.length : Int) := by omega
    have ra : IntKind.i64.wrap ((a : Int) + (k : Int)) = (a : Int) + (k : Int) := by rw [IntKind.wrap_i64]; omega
    have eb : ((b : Int) + (k : Int)).toNat = iB := by omega
    have pb : (0 : Int) ≤ (b : Int) + (k : Int) := by omega
    have bb : (b : Int) + (k : Int) < (l.length : Int) := by omega
    have rb : IntKind.i64.wrap ((b : Int) + (k : Int)) = (b : Int) + (k : Int) := by rw [IntKind.wrap_i64]; omega
    rw [← hiA] at c1 f1 c3 T2 HS
    rw [← hiB] at c2 f2 c3 T2 HS
    clear hx hy hiA hiB hsw hom
    have mixed : Tryz.prog.follows Departure.mixedOrders = true := by kernel_rfl
    go_wp2_with fail
    go_big_region_o
    clear c1 c2 c3 f1 f2
    generalize ((wo.setCell ⟨g, iA, none⟩ (ptG y)).setCell ⟨g, iB, none⟩ (ptG x)).drew = w3 at *
    go_wp2_with fail
    go_roundw
    case rel => exact ⟨k + 1, _, by omega, by go_num, by simp [hml], HS, Lib.hid T2.out.1, Lib.hid (htu.out.trans T2.out.2)⟩
    case measure => simp [intOf]; omega
set_option maxHeartbeats 1000000 in
set_option maxRecDepth 20000 in
theorem rotateG_any (B : Nat) (v f : Value) (l : List (Gp × Nat)) (s m e : Nat) (w : World) (ho : Own encQ 86 1 B w v l) (hB : B ≤ w.heap.size) (hl : l.length ≤ 100) (hsm : s < m) (hme : m < e) (he : e ≤ l.length) :
    Calls Tryz.prog 169 #[v, .int .i64 s, .int .i64 m, .int .i64 e, f] w fun en w' => en = .returned (.tuple #[]) ∧ Own encQ 86 1 B w' v (Stb.rot l s m e) ∧ TurnG B w w' := by
  have HSw := Lib.hid (fun W l' a b n (h : Own encQ 86 1 B W v l') (hb : B ≤ W.heap.size) (h1 : l'.length ≤ 100) (h2 : a + n ≤ b) (h3 : b + n ≤ l'.length) => swapRangeG_any B v f l' a b n W h hb h1 h2 h3)
  have Ho := Lib.hid ho
  clear ho
  go_enter Tryz.func169, Tryz.ntmps169
  go_wp2_with fail
  go_loopw [10, 11] (fun vi vj wr => ∃ (i j : Nat) (m1 : List (Gp × Nat)), vi = .int .i64 i ∧ vj = .int .i64 j ∧ 0 < i ∧ 0 < j ∧ i ≤ m ∧ m + j ≤ l.length ∧ m1.length = l.length ∧ Hid (Stb.rot l s m e = Stb.rot m1 (m - i) m (m + j)) ∧ Hid (Own encQ 86 1 B wr v m1) ∧ Hid (TurnG B w wr)) (fun vi vj _ => (intOf vi).toNat + (intOf vj).toNat)
  case atStart => exact ⟨m - s, e - m, l, by go_num, by go_num, by omega, by omega, by omega, by omega, rfl, Lib.hid (by rw [show m - (m - s) = s by omega, show m + (e - m) = e by omega]), Lib.hid Ho.out, Lib.hid (TurnG.refl _ _)⟩
  case round =>
    obtain ⟨i, j, m1, rfl, rfl, hi0, hj0, him, hjl, hml, hro, hom, htu⟩ := hrel
    obtain ⟨wo, rfl⟩ : ∃ wo, wo = wr := ⟨wr, rfl⟩
    have hBo : B ≤ wo.heap.size := Nat.le_trans hB htu.out.2.2
    have hmi : ((m : Int) - (i : Int)) = ((m - i : Nat) : Int) := by omega
    by_cases heq : i = j
    case pos =>
      subst heq
      have g1 : ((i : Int) != (i : Int)) = false := by simp
      have HC := Lib.hid (HSw.out wo m1 (m - i) m i hom.out hBo (by omega) (by omega) (by omega))
      clear hom
      go_wp2_with fail
      refine HC.out.mono ?_
      rintro en w1 ⟨rfl, m2, h1, h2, h3⟩
      have HR : Hid (Stb.rot l s m e = m2) := Lib.hid (by rw [hro.out]; exact Stb.rot_even (by omega) (by omega) h1)
      have H2 := Lib.hid h2
      have H3 := Lib.hid h3
      clear h1 h2 h3
      go_wp2_with fail
      go_end0
      exact ⟨rfl, by rw [HR.out]; exact H2.out, htu.out.trans H3.out⟩
    have g1 : ((i : Int) != (j : Int)) = true := by simp; omega
    by_cases hij : j < i
    case pos =>
      have g2 : decide ((j : Int) < (i : Int)) = true := by simp; omega
      have HC := Lib.hid (HSw.out wo m1 (m - i) m j hom.out hBo (by omega) (by omega) (by omega))
      clear hom
      go_wp2_with fail
      refine HC.out.mono ?_
      rintro en w1 ⟨rfl, m2, h1, h2, h3⟩
      have hl2 := h1.1
      have HR : Hid (Stb.rot l s m e = Stb.rot m2 (m - (i - j)) m (m + j)) := Lib.hid (by
        rw [hro.out, Stb.rot_long (i := i) (j := j) (by omega) rfl hij (by omega) h1]
        congr 1
        omega)
      have H2 := Lib.hid h2
      have H3 := Lib.hid (htu.out.trans h3)
      clear h1 h2 h3 htu
      go_wp2_with fail
      go_roundw
      case rel => exact ⟨i - j, j, m2, by go_num, rfl, by omega, by omega, by omega, by omega, by omega, HR, H2, H3⟩
      case measure => simp [intOf]; omega
    have g2 : decide ((j : Int) < (i : Int)) = false := by simp; omega
    have hmj : ((m : Int) + (j : Int) - (i : Int)) = ((m + j - i : Nat) : Int) := by omega
    have HC := Lib.hid (HSw.out wo m1 (m - i) (m + j - i) i hom.out hBo (by omega) (by omega) (by omega))
    clear hom
    go_wp2_with fail
    refine HC.out.mono ?_
    rintro en w1 ⟨rfl, m2, h1, h2, h3⟩
    have hl2 := h1.1
    have HR : Hid (Stb.rot l s m e = Stb.rot m2 (m - i) m (m + (j - i))) := Lib.hid (by
      rw [hro.out, Stb.rot_short (i := i) (j := j) (by omega) rfl (by omega) (by omega) h1])
    have H2 := Lib.hid h2
    have H3 := Lib.hid (htu.out.trans h3)
    clear h1 h2 h3 htu
    go_wp2_with fail
    go_roundw
    case rel => exact ⟨i, j - i, m2, rfl, by go_num, by omega, by omega, by omega, by omega, by omega, HR, H2, H3⟩
    case measure => simp [intOf]; omega
end Go.Proofs.YtpfohfihkmjnaaaGreatDoor
