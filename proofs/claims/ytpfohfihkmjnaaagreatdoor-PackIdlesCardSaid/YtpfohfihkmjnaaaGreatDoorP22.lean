/- slices.SortStableFunc at groups, at most nineteen: one insertion sort. Slices of slices of texts in memory. Groups of files, file by file; their rows: plain. Of no program. pack.Plan: the walk. deedboxlaw3.packed: a closed fact. -/
import Derived.Test.YtpfohfihkmjnaaaGreatDoorP21
import Derived.Shelf.SlSortCmp.Insertion1
import Derived.OwnWalk
import Derived.Test.YtpfohfihkmjnaaaGreatDoorP8
import Derived.Test.YtpfohfihkmjnaaaGreatDoorP20
import Derived.Deep.DeepCutAuto
import Derived.Test.YtpfohfihkmjnaaaGreatDoorP15
import Derived.Test.YtpfohfihkmjnaaaGreatDoorP1
namespace Go.Proofs.YtpfohfihkmjnaaaGreatDoor
open Go.RowKit Go.Sort Go.Lib Go.Shelf

abbrev befG (x y : Gp × Nat) : Bool := bef x.1.part y.1.part
section
variable {α : Type} [Inhabited α] {w : World} {g n k : Nat} {os : Array Obj} {cur : Array Value} {e : TypeId} {fr : Nat × Nat}
theorem heap_sorted1 (enc : α → Value) (d : Array α) (hb : w.heap[g]? = some (.cells cur e fr)) : (sortWorld enc w g 0 n d os).heap[g]? = some (.cells (putCells enc 0 d cur) e fr) := by
  have hg : g < w.heap.size := (Array.getElem?_eq_some_iff.1 hb).1
  unfold sortWorld
  rw [heap_grow_old _ _ (by simpa using hg)]
  simp [putRow, mapBlock, Sort.ahead, Array.getElem?_modify, hb, onCells]
theorem other_sorted1 (enc : α → Value) (d : Array α) (hk : k < w.heap.size) (hne : g ≠ k) : (sortWorld enc w g 0 n d os).heap[k]? = w.heap[k]? := by
  unfold sortWorld
  rw [heap_grow_old _ _ (by simpa using hk)]
  simp [putRow, mapBlock, Sort.ahead, Array.getElem?_modify, hne]
theorem grownBy_sorted1 (enc : α → Value) (d : Array α) : w.grownBy (sortWorld enc w g 0 n d os) (some g) :=
  ⟨rfl, rfl, rfl, by simp [sortWorld], fun k hk hne => other_sorted1 enc d hk fun e => hne (by rw [e])⟩
theorem take_put1 (enc : α → Value) (cur : Array Value) (d : Array α) (h : d.size ≤ cur.size) : (putCells enc 0 d cur).toList.take d.size = d.toList.map enc := by
  apply List.ext_getElem?
  intro j
  by_cases hj : j < d.size
  · rw [List.getElem?_take_of_lt hj, Array.getElem?_toList]
    simp [putCells, hj, show j < cur.size by omega]
  · rw [List.getElem?_take_eq_none (by omega), List.getElem?_eq_none (by simp; omega)]
end
theorem comp_bef : ∀ (a b : Str), decide (Lib.compareBytes a b < 0) = bef a b
  | [], [] => rfl
  | [], _ :: _ => rfl
  | _ :: _, [] => rfl
  | x :: a, y :: b => by
    have ih := comp_bef a b
    show _ = (decide (x < y) || (x == y && bytesBefore a b))
    unfold Lib.compareBytes
    by_cases h1 : x < y
    · simp [h1]
    · by_cases h2 : y < x
      · have hne : (x == y) = false := by
          simp only [beq_eq_false_iff_ne]
          rintro rfl
          exact h1 h2
        simp [h1, h2, hne]
      · have he : x = y := UInt8.le_antisymm (UInt8.not_lt.1 h2) (UInt8.not_lt.1 h1)
        subst he
        simp only [h1, if_false, decide_false, Bool.false_or, beq_self_eq_true, Bool.true_and]
        exact ih
theorem flat_ptG : ∀ l : List (Gp × Nat), l.flatMap encQ = l.map ptG
  | [] => rfl
  | x :: l => by rw [List.flatMap_cons, flat_ptG l]; rfl
set_option maxRecDepth 20000 in
theorem insG_any (B : Nat) (v : Value) (l : List (Gp × Nat)) (w : World) (ho : Own encQ 86 1 B w v l) (hB : B ≤ w.heap.size) (hn : l.length ≤ 100) (hc : ∀ x ∈ l, w.cell? ⟨x.2, 0, none⟩ = some (S x.1.part)) (hg : ∀ x ∈ l, ∀ cs, w.heap[x.2]? ≠ some (.cells cs 86 (0, 0)))
    (ix : Gp × Nat → Nat) (hix : l.Pairwise fun a b => ix a < ix b) :
    Calls Tryz.prog 129 #[v, .int .i64 0, .int .i64 (l.length : Int), .func (.func 42) #[] #[]] w fun e w' => e = .returned (.tuple #[]) ∧ ∃ m, m.Perm l ∧ m.Pairwise (Stb.R befG ix) ∧ Own encQ 86 1 B w' v m ∧ KeptBut 86 w w' ∧ Below B w w' := by
  by_cases hne : l = []
  case pos =>
    subst hne
    have Ho := Lib.hid ho
    obtain ⟨av, cv, rfl, -, -⟩ := At.form' (ho.at encQ_enc)
    clear ho hc hg hix
    simp only [List.length_nil]
    go_enter Tryz.func129, Tryz.ntmps129
    go_wp2_with fail
    go_loopw [8] (fun i wr => i = .int .i64 1 ∧ wr = w) (fun _ _ => 0)
    case atStart => exact ⟨by go_num, rfl⟩
    case round =>
      obtain ⟨rfl, rfl⟩ := hrel
      go_wp2_with fail
      go_end0
      exact ⟨rfl, [], .refl _, .nil, Ho.out, KeptBut.refl _ _, Below.refl _ _⟩
  have hol := ho
  rcases ho.2 with ⟨rfl, h0⟩ | ⟨g, cap, cur, rfl, hbase, hb, h1, h2, h3, h4⟩
  · exact absurd (List.eq_nil_of_length_eq_zero h0) hne
  · have hlen := flat_ptG l
    have hd0 : ∃ x, x ∈ l := List.exists_mem_of_ne_nil l hne
    obtain ⟨x0, hx0⟩ := hd0
    haveI : Inhabited {x // x ∈ l} := ⟨⟨x0, hx0⟩⟩
    obtain ⟨d, hd⟩ : ∃ d : Array {x // x ∈ l}, d = l.attach.toArray := ⟨_, rfl⟩
    have hdl : d.toList.map (·.1) = l := by rw [hd]; exact List.attach_map_subtype_val l
    have hds : d.size = l.length := by rw [hd]; simp
    have hH : Holds (fun x : {x // x ∈ l} => ptG x.1) w g 0 d := by
      intro j hj
      have hj' : j < l.length := by omega
      refine ⟨?_, frozen_row hb⟩
      rw [cell_of_row w _ _ _ _ (0, 0) hb, Nat.zero_add]
      have e1 : (cur.toList.take (l.length * 1))[j]? = (l.map ptG)[j]? := by rw [h4, hlen]
      rw [List.getElem?_take_of_lt (by omega)] at e1
      rw [← Array.getElem?_toList, e1, List.getElem?_map, List.getElem?_eq_getElem hj']
      have e2 : d[j]!.1 = l[j] := by
        rw [getElem!_pos d j hj]
        simp [hd]
      simp [e2]
    have hcmp : CmpLays1 Tryz.prog 42 #[] (fun x : {x // x ∈ l} => ptG x.1) (fun x y => Lib.compareBytes x.1.1.part y.1.1.part) g 0 d.size w := by
      intro m os dk _ x y
      have hk : ∀ z : {x // x ∈ l}, (sortWorld (fun x : {x // x ∈ l} => ptG x.1) w g 0 m dk os).cell? ⟨z.1.2, 0, none⟩ = some (S z.1.1.part) := fun z => by
        have hz := hc z.1 z.2
        have hlt := World.block_lt_of_cell? w _ hz
        have hne' : g ≠ z.1.2 := fun e => hg z.1 z.2 cur (by rw [← e]; exact hb)
        rw [← hz]
        unfold World.cell?
        rw [other_sorted1 _ _ hlt hne']
      refine (plan2_any x.1.2 y.1.2 x.1.1.part y.1.1.part _ (hk x) (hk y)).mono ?_
      rintro e w' ⟨rfl, q, rfl⟩
      exact ⟨rfl, q, #[], by rw [grow_empty]⟩
    have h := Any.insertionSortCmpFunc_s Tryz.insG (fun x : {x // x ∈ l} => ptG x.1) (fun x y => Lib.compareBytes x.1.1.part y.1.1.part) 42 #[] g 0 cap 0 d.size d d w w clo_plan2 hcmp ⟨fun _ => rfl, hH, (Array.getElem?_eq_some_iff.1 hb).1⟩ rfl (SW.start hH) (Nat.zero_le _) (Nat.le_refl _) (by omega)
    rw [hds] at h
    refine (show Calls Tryz.prog 129 #[.slice (some ⟨g, 0, none⟩) l.length cap, .int .i64 ((0 : Nat) : Int), .int .i64 (l.length : Int), .func (.func 42) #[] #[]] w _ from h).mono ?_
    rintro e w' ⟨rfl, n, os, rfl⟩
    have hlt : (ltOf fun x y : {x // x ∈ l} => Lib.compareBytes x.1.1.part y.1.1.part) = fun x y => befG x.1 y.1 := by
      funext x y
      exact comp_bef _ _
    rw [hlt]
    have hway : Stb.Way (fun x y : {x // x ∈ l} => befG x.1 y.1) (fun x => ix x.1) := way_part (part := fun x : {x // x ∈ l} => x.1.1.part) (ix := fun x => ix x.1)
    have h5 : (d.toList.map (·.1)).Pairwise (fun a b => ix a < ix b) := by rw [hdl]; exact hix
    have h6 : d.toList.Pairwise (fun a b => ix a.1 < ix b.1) := (List.pairwise_map (f := fun x : {x // x ∈ l} => x.1) (R := fun a b => ix a < ix b)).1 h5
    obtain ⟨p1, p2⟩ := Stb.insertion_stable hway d h6
    rw [hds] at p1 p2
    obtain ⟨r, hr⟩ : ∃ r, Sort.insertionSort (fun x y : {x // x ∈ l} => befG x.1 y.1) d 0 l.length = r := ⟨_, rfl⟩
    rw [hr] at p1 p2 ⊢
    have hrs : r.size = l.length := by
      have := p1.length_eq
      rw [Array.length_toList, Array.length_toList] at this
      omega
    have hperm : (r.toList.map (·.1)).Perm l := by
      have := p1.map (·.1)
      rwa [hdl] at this
    refine ⟨rfl, r.toList.map (·.1), hperm, ?_, ?_, (KeptBut.refl _ _).grown hol (grownBy_sorted1 _ _), ?_⟩
    · rw [List.pairwise_map]
      exact p2
    · refine Own.put encQ_enc (by rw [hperm.length_eq]) hbase (heap_sorted1 _ _ hb) h1 h2 (by simp [putCells, h3]) ?_
      have := take_put1 (fun x : {x // x ∈ l} => ptG x.1) cur r (by rw [hrs, h3]; omega)
      rw [hrs] at this
      rw [Nat.mul_one, this, flat_ptG, List.map_map]
      rfl
    · exact (Below.refl B w).grown (grownBy_sorted1 _ _) hB (fun k hk => by cases hk; exact hbase)
/-- What a stable sort of groups by their parts leaves. -/
def SortedG (B : Nat) (v : Value) (l : List (Gp × Nat)) (ix : Gp × Nat → Nat) (w : World) (e : Ending) (w' : World) : Prop :=
  e = .returned (.tuple #[]) ∧ ∃ m, m.Perm l ∧ m.Pairwise (Stb.R befG ix) ∧ Own encQ 86 1 B w' v m ∧ KeptBut 86 w w' ∧ Below B w w'
set_option maxRecDepth 20000 in
theorem stableG_any (B : Nat) (v : Value) (l : List (Gp × Nat)) (w : World) (ho : Own encQ 86 1 B w v l) (hB : B ≤ w.heap.size) (hn : l.length ≤ 19) (hc : ∀ x ∈ l, w.cell? ⟨x.2, 0, none⟩ = some (S x.1.part)) (hg : ∀ x ∈ l, ∀ cs, w.heap[x.2]? ≠ some (.cells cs 86 (0, 0)))
    (ix : Gp × Nat → Nat) (hix : l.Pairwise fun a b => ix a < ix b) :
    Calls Tryz.prog 91 #[v, .int .i64 (l.length : Int), .func (.func 42) #[] #[]] w (SortedG B v l ix w) := by
  have HI := Lib.hid (insG_any B v l w ho hB (by omega) hc hg ix hix)
  obtain ⟨av, cv, rfl, -, -⟩ := At.form' (ho.at encQ_enc)
  have f1 : decide ((20 : Int) ≤ (l.length : Int)) = false := by simp; omega
  have f2 : decide ((20 : Int) < (l.length : Int)) = false := by simp; omega
  clear ho hc hg hix
  go_enter Tryz.func91, Tryz.ntmps91
  go_wp2_with fail
  go_loopw [7, 8] (fun a b wr => a = .int .i64 0 ∧ b = .int .i64 20 ∧ wr = w) (fun _ _ _ => 0)
  case atStart => exact ⟨rfl, rfl, rfl⟩
  case round =>
    obtain ⟨rfl, rfl, rfl⟩ := hrel
    obtain ⟨wo, rfl⟩ : ∃ wo, wo = wr := ⟨wr, rfl⟩
    go_wp2_with fail
    refine HI.out.mono ?_
    rintro e w1 ⟨rfl, hres⟩
    have HR := Lib.hid hres
    clear hres
    go_wp2_with fail
    go_loopw [6, 7, 8, 9] (fun s a b c wr => s = .int .i64 20 ∧ wr = w1) (fun _ _ _ _ _ => 0)
    case atStart => exact ⟨rfl, rfl⟩
    case round =>
      obtain ⟨rfl, rfl⟩ := hrel
      go_wp2_with fail
      go_end0
      exact ⟨rfl, HR.out⟩
theorem sortStableG_any (B : Nat) (v : Value) (l : List (Gp × Nat)) (w : World) (ho : Own encQ 86 1 B w v l) (hB : B ≤ w.heap.size) (hn : l.length ≤ 19) (hc : ∀ x ∈ l, w.cell? ⟨x.2, 0, none⟩ = some (S x.1.part)) (hg : ∀ x ∈ l, ∀ cs, w.heap[x.2]? ≠ some (.cells cs 86 (0, 0)))
    (ix : Gp × Nat → Nat) (hix : l.Pairwise fun a b => ix a < ix b) :
    Calls Tryz.prog 41 #[v, .func (.func 42) #[] #[]] w (SortedG B v l ix w) := by
  have HI := Lib.hid (stableG_any B v l w ho hB hn hc hg ix hix)
  obtain ⟨av, cv, rfl, -, -⟩ := At.form' (ho.at encQ_enc)
  clear ho hc hg hix
  go_enter Tryz.func41, Tryz.ntmps41
  go_wp2_with fail
  refine HI.out.mono ?_
  rintro e w1 ⟨rfl, hres⟩
  have HR := Lib.hid hres
  clear hres
  go_wp2_with fail
  go_end0
  exact ⟨rfl, HR.out⟩
end Go.Proofs.YtpfohfihkmjnaaaGreatDoor
namespace Go.Proofs.YtpfohfihkmjnaaaGreatDoor
open Go.RowKit

abbrev SlV := Option Addr × Nat × Nat
abbrev slV (x : SlV) : Value := .slice x.1 x.2.1 x.2.2
abbrev encV (x : SlV) : List Value := [.slice x.1 x.2.1 x.2.2]
theorem encV_enc : Enc encV 1 := fun x => ⟨rfl, by simp [Value.oneCell']⟩
def ListsAt (w : World) (v : Value) (ls : List (List Str)) : Prop :=
  ∃ xs : List SlV, xs.length = ls.length ∧ At encV 1 w v xs ∧ ∀ (k : Nat) (x : SlV) (l : List Str), xs[k]? = some x → ls[k]? = some l → StrsAt w (slV x) l
theorem ListsAt.below {w w' : World} {v : Value} {ls : List (List Str)} (h : ListsAt w v ls) (hb : Below w.heap.size w w') : ListsAt w' v ls := by
  obtain ⟨xs, h1, h2, h3⟩ := h
  exact ⟨xs, h1, h2.below hb, fun k x l hx hl => (h3 k x l hx hl).below hb⟩
theorem ListsAt.nil (w : World) : ListsAt w (.slice none 0 0) [] := ⟨[], rfl, At.nil _ _ _, fun _ _ _ h => (by simp at h)⟩
theorem slV_of {w : World} {v : Value} {l : List Str} (h : StrsAt w v l) : ∃ x : SlV, v = slV x := by
  obtain ⟨a, c, rfl, -, -⟩ := At.form' h
  exact ⟨(a, l.length, c), rfl⟩
end Go.Proofs.YtpfohfihkmjnaaaGreatDoor
namespace Go.Proofs.YtpfohfihkmjnaaaGreatDoor
open Go.RowKit

/-- A group, by its files. -/
def mkG (fs : List Fl) : Gp := ⟨(fs.head?.map (·.part)).getD [], (fs.map (·.n)).sum, fs.map (·.path)⟩
def putF (f : Fl) : List (List Fl) → List (List Fl)
  | [] => [[f]]
  | fs :: r => if fitsG f (mkG fs) then (fs ++ [f]) :: r else fs :: putF f r
theorem mkG_one (f : Fl) : mkG [f] = growG f ⟨f.part, 0, []⟩ := by simp [mkG, growG]
theorem mkG_snoc {fs : List Fl} {f : Fl} (h : fs ≠ []) : mkG (fs ++ [f]) = growG f (mkG fs) := by
  cases fs with
  | nil => exact absurd rfl h
  | cons a r => simp [mkG, growG, List.sum_append]; omega
structure GoodG (fs : List Fl) : Prop where
  ne : fs ≠ []
  part : ∀ f ∈ fs, f.part = (mkG fs).part
  n : (mkG fs).n ≤ 40
theorem putF_map {f : Fl} : ∀ {s : List (List Fl)}, (∀ fs ∈ s, GoodG fs) → (putF f s).map mkG = putG f (s.map mkG)
  | [], _ => by simp [putF, putG, mkG_one]
  | fs :: r, h => by
    unfold putF
    rw [List.map_cons]
    unfold putG
    split
    · rw [List.map_cons, mkG_snoc (h fs (by simp)).ne]
    · rw [List.map_cons, putF_map fun x hx => h x (by simp [hx])]
theorem mem_putF {f : Fl} {fs : List Fl} : ∀ {s : List (List Fl)}, fs ∈ putF f s → fs ∈ s ∨ fs = [f] ∨ ∃ gs ∈ s, fitsG f (mkG gs) = true ∧ fs = gs ++ [f]
  | [], h => .inr (.inl (by simpa [putF] using h))
  | gs :: r, h => by
    unfold putF at h
    split at h
    · rename_i hf
      rcases List.mem_cons.1 h with rfl | h
      · exact .inr (.inr ⟨gs, by simp, hf, rfl⟩)
      · exact .inl (by simp [h])
    · rcases List.mem_cons.1 h with rfl | h
      · exact .inl (by simp)
      · rcases mem_putF h with h | h | ⟨x, hx, h1, h2⟩
        · exact .inl (by simp [h])
        · exact .inr (.inl h)
        · exact .inr (.inr ⟨x, by simp [hx], h1, h2⟩)
theorem good_put {f : Fl} {s : List (List Fl)} (hs : ∀ fs ∈ s, GoodG fs) (hf : f.n ≤ 40) : ∀ fs ∈ putF f s, GoodG fs := fun fs h => by
  rcases mem_putF h with h | rfl | ⟨gs, h1, h2, rfl⟩
  · exact hs fs h
  · exact ⟨by simp, fun g hg => by simp [mkG] at hg ⊢; rw [hg], by simpa [mkG] using hf⟩
  · obtain ⟨a1, a2, a3⟩ := hs gs h1
    unfold fitsG at h2
    simp only [Bool.and_eq_true, beq_iff_eq, decide_eq_true_eq] at h2
    refine ⟨by simp, fun g hg => ?_, ?_⟩
    · rw [mkG_snoc a1]
      show g.part = (mkG gs).part
      rcases List.mem_append.1 hg with hg | hg
      · exact a2 g hg
      · rw [List.mem_singleton.1 hg]; exact h2.1.symm
    · rw [mkG_snoc a1]
      exact h2.2
theorem putF_perm {f : Fl} : ∀ (s : List (List Fl)), (putF f s).flatten.Perm (s.flatten ++ [f])
  | [] => by simp [putF]
  | fs :: r => by
    unfold putF
    split
    · rw [List.flatten_cons, List.flatten_cons, List.append_assoc, List.append_assoc]
      exact List.Perm.append_left _ List.perm_append_comm
    · rw [List.flatten_cons, List.flatten_cons, List.append_assoc]
      exact List.Perm.append_left _ (putF_perm r)
theorem fold_files : ∀ (m : List Fl) (s : List (List Fl)), (∀ fs ∈ s, GoodG fs) → (∀ f ∈ m, f.n ≤ 40) →
    (m.foldl (fun s f => putF f s) s).map mkG = m.foldl (fun gs f => putG f gs) (s.map mkG) ∧ (∀ fs ∈ m.foldl (fun s f => putF f s) s, GoodG fs) ∧ (m.foldl (fun s f => putF f s) s).flatten.Perm (s.flatten ++ m)
  | [], s, h, _ => ⟨rfl, h, by simp⟩
  | f :: m, s, h, hm => by
    obtain ⟨h1, h2, h3⟩ := fold_files m (putF f s) (good_put h (hm f (by simp))) fun x hx => hm x (by simp [hx])
    refine ⟨?_, h2, ?_⟩
    · rw [List.foldl_cons, List.foldl_cons, h1, putF_map h]
    · refine h3.trans ?_
      have := (putF_perm (f := f) s).append_right m
      rwa [List.append_assoc] at this
def filesG (least : Int) (l : List Fl) : List (List Fl) := (l.filter (smallF least)).foldl (fun s f => putF f s) []
theorem groups_files {l : List Fl} (least : Int) (h : ∀ f ∈ l, f.n ≤ 40) : groupsG least l = (filesG least l).map mkG ∧ (∀ fs ∈ filesG least l, GoodG fs) ∧ (filesG least l).flatten.Perm (l.filter (smallF least)) := by
  obtain ⟨h1, h2, h3⟩ := fold_files (l.filter (smallF least)) [] (fun _ h => (by cases h)) fun f hf => h f (List.mem_filter.1 hf).1
  exact ⟨h1.symm, h2, h3⟩
/-- The plan, by files. -/
def planF (least : Int) (l : List Fl) : List (List Fl) := (partsF l).flatMap fun p => (filesG least l).filter fun fs => ((mkG fs).part == p) && decide (1 < fs.length)
theorem planAll_files {l : List Fl} (least : Int) (h : ∀ f ∈ l, f.n ≤ 40) : planAll l least = (planF least l).map fun fs => fs.map (·.path) := by
  unfold planAll planF
  rw [List.map_flatMap]
  refine flatMap_same fun p _ => ?_
  unfold ofPart
  rw [(groups_files least h).1, List.filter_map, List.filter_map, List.map_map, List.filter_filter]
  congr 1
  refine List.filter_congr fun fs _ => ?_
  simp only [Function.comp_def, manyG, mkG, List.length_map]
  rw [Bool.and_comm]
theorem parts_perm {α : Type} {part : α → Str} {l : List α} : ∀ {ps : List Str}, ps.Nodup → (ps.flatMap fun p => l.filter fun x => part x == p).Perm (l.filter fun x => decide (part x ∈ ps))
  | [], _ => by simp
  | p :: ps, h => by
    obtain ⟨h1, h2⟩ := List.nodup_cons.1 h
    rw [List.flatMap_cons]
    have ih := (parts_perm (part := part) (l := l) h2).append_left (l.filter fun x => part x == p)
    refine ih.trans ?_
    have e1 : (l.filter fun x => part x == p) = (l.filter fun x => decide (part x ∈ p :: ps)).filter fun x => part x == p := by
      rw [List.filter_filter]
      refine List.filter_congr fun x _ => ?_
      by_cases hx : part x = p <;> simp [hx]
    have e2 : (l.filter fun x => decide (part x ∈ ps)) = (l.filter fun x => decide (part x ∈ p :: ps)).filter fun x => !(part x == p) := by
      rw [List.filter_filter]
      refine List.filter_congr fun x _ => ?_
      by_cases hx : part x = p
      · rw [hx]; simp [h1]
      · simp [hx]
    rw [e1, e2]
    exact List.filter_append_perm _ _
theorem upS_nodup {ps : List Str} (h : upS ps) : ps.Nodup := h.imp fun {a b} hab e => by
  rw [e] at hab
  rw [bef_irr] at hab
  cases hab
theorem mkG_mem {fs : List Fl} (h : GoodG fs) : ∃ f ∈ fs, f.part = (mkG fs).part := by
  cases fs with
  | nil => exact absurd rfl h.ne
  | cons a r => exact ⟨a, by simp, h.part a (by simp)⟩
theorem flatten_sub {α : Type} {p : List α → Bool} : ∀ (s : List (List α)), (s.filter p).flatten.Sublist s.flatten
  | [] => by simp
  | a :: s => by
    rw [List.filter_cons]
    split
    · rw [List.flatten_cons, List.flatten_cons]
      exact (List.Sublist.refl a).append (flatten_sub s)
    · rw [List.flatten_cons]
      exact (flatten_sub s).trans (List.sublist_append_right _ _)
/-- What a plan is, in a right list. -/
theorem planF_facts {l : List Fl} (least : Int) (h : RightL l) : (∀ fs ∈ planF least l, GoodG fs ∧ 2 ≤ fs.length ∧ ∀ f ∈ fs, f ∈ l ∧ smallF least f = true) ∧ (planF least l).flatten.Nodup := by
  have h40 : ∀ f ∈ l, f.n ≤ 40 := fun f hf => (check_near (h.ok f hf)).2.2.2.2
  obtain ⟨-, g2, g3⟩ := groups_files least h40
  have hmem : ∀ fs ∈ filesG least l, ∀ f ∈ fs, f ∈ l ∧ smallF least f = true := fun fs hfs f hf => by
    have := g3.mem_iff.1 (List.mem_flatten.2 ⟨fs, hfs, hf⟩)
    exact ⟨(List.mem_filter.1 this).1, (List.mem_filter.1 this).2⟩
  refine ⟨fun fs hfs => ?_, ?_⟩
  · obtain ⟨p, -, hin⟩ := List.mem_flatMap.1 hfs
    obtain ⟨h1, h2⟩ := List.mem_filter.1 hin
    simp only [Bool.and_eq_true, decide_eq_true_eq] at h2
    exact ⟨g2 fs h1, by omega, hmem fs h1⟩
  · have hnl : l.Nodup := h.ris.imp fun {a b} hab e => by rw [e] at hab; omega
    have hn1 : (filesG least l).flatten.Nodup := g3.nodup_iff.2 (hnl.sublist List.filter_sublist)
    have hp : (planF least l).Perm ((filesG least l).filter fun fs => decide (1 < fs.length)) := by
      have := parts_perm (part := fun fs => (mkG fs).part) (l := (filesG least l).filter fun fs => decide (1 < fs.length)) (upS_nodup (partsF_up l))
      have e : (partsF l).flatMap (fun p => ((filesG least l).filter fun fs => decide (1 < fs.length)).filter fun x => (mkG x).part == p) = planF least l := by
        unfold planF
        refine flatMap_same fun p _ => ?_
        rw [List.filter_filter]
      rw [e] at this
      refine this.trans (List.Perm.of_eq (List.filter_eq_self.2 fun fs hfs => ?_))
      have hfs1 := (List.mem_filter.1 hfs).1
      obtain ⟨f, hf, e⟩ := mkG_mem (g2 fs hfs1)
      obtain ⟨hl, hs⟩ := hmem fs hfs1 f hf
      unfold smallF at hs
      simp only [Bool.and_eq_true, Bool.not_eq_true'] at hs
      rw [← e]
      exact decide_eq_true (mem_partsF.2 ⟨f, hl, hs.1, rfl⟩)
    exact hp.flatten.nodup_iff.2 (hn1.sublist (flatten_sub _))
end Go.Proofs.YtpfohfihkmjnaaaGreatDoor
namespace Go.Proofs.YtpfohfihkmjnaaaGreatDoor
open Go.RowKit Go.Maps

def groupsK (least : Int) (l : List Fl) (k : Nat) : List Gp := ((l.take k).filter (smallF least)).foldl (fun gs f => putG f gs) []
theorem groupsK_next {least : Int} {l : List Fl} {k : Nat} {f : Fl} (h : l[k]? = some f) : groupsK least l (k + 1) = if smallF least f = true then putG f (groupsK least l k) else groupsK least l k := by
  unfold groupsK
  rw [take_snoc' h, List.filter_append, List.foldl_append, List.filter_cons]
  cases smallF least f <;> rfl
theorem putG_len {f : Fl} : ∀ gs : List Gp, (putG f gs).length ≤ gs.length + 1
  | [] => by simp [putG]
  | g :: r => by
    have := putG_len (f := f) r
    unfold putG
    split <;> simp <;> omega
def NumsG (m : Nat) (gs : List Gp) : Prop := ∀ g ∈ gs, (0 ≤ g.n ∧ g.n ≤ 40) ∧ g.paths.length ≤ m
theorem nums_put {m : Nat} {f : Fl} {gs : List Gp} (h : NumsG m gs) (hf : 0 ≤ f.n ∧ f.n ≤ 40) : NumsG (m + 1) (putG f gs) := fun g hg => by
  rcases mem_putG hg with hg | ⟨y, h1, -, h3, rfl⟩
  · exact ⟨(h g hg).1, by have := (h g hg).2; omega⟩
  · have hy : 0 ≤ y.n ∧ y.paths.length ≤ m := by
      rcases h1 with h1 | rfl
      · exact ⟨(h y h1).1.1, (h y h1).2⟩
      · exact ⟨Int.le_refl _, Nat.zero_le _⟩
    refine ⟨?_, ?_⟩
    · show 0 ≤ y.n + f.n ∧ y.n + f.n ≤ 40
      omega
    · show (y.paths ++ [f.path]).length ≤ m + 1
      rw [List.length_append]
      exact Nat.add_le_add_right hy.2 1
theorem NumsG.next {m : Nat} {gs : List Gp} (h : NumsG m gs) : NumsG (m + 1) gs := fun g hg => ⟨(h g hg).1, by have := (h g hg).2; omega⟩
theorem flat_zip : ∀ {gs : List Gp} {bs : List Nat}, gs.length = bs.length → (gs.zip bs).flatMap encQ = bs.flatMap encP
  | [], [], _ => rfl
  | g :: gs, b :: bs, h => by
    rw [List.zip_cons_cons, List.flatMap_cons, List.flatMap_cons, flat_zip (by simpa using h)]
theorem own_zip {B : Nat} {w : World} {v : Value} {gs : List Gp} {bs : List Nat} {e : TypeId} (h : Own encP e 1 B w v bs) (hl : gs.length = bs.length) : Own encQ e 1 B w v (gs.zip bs) := by
  unfold Own at *
  rw [flat_zip hl, List.length_zip, hl, Nat.min_self]
  exact h
theorem idx_zip {gs : List Gp} {bs : List Nat} (h : gs.length = bs.length) (f : Fl) :
    (idxVal (fun x : Gp × Nat => fitsG f x.1) (gs.zip bs) = -1 ∧ ∀ x ∈ gs, fitsG f x = false) ∨ ∃ (j : Nat) (g : Gp), idxVal (fun x : Gp × Nat => fitsG f x.1) (gs.zip bs) = j ∧ gs[j]? = some g ∧ fitsG f g = true ∧ ∀ i < j, ∀ x, gs[i]? = some x → fitsG f x = false := by
  unfold idxVal
  cases hf : (gs.zip bs).findIdx? (fun x : Gp × Nat => fitsG f x.1) with
  | none =>
    refine .inl ⟨rfl, fun x hx => ?_⟩
    obtain ⟨i, hi, rfl⟩ := List.getElem_of_mem hx
    have hz : (gs[i], bs[i]'(by omega)) ∈ gs.zip bs := by
      rw [← List.getElem_zip (h := by rw [List.length_zip]; omega)]
      exact List.getElem_mem _
    simpa using List.findIdx?_eq_none_iff.1 hf _ hz
  | some j =>
    obtain ⟨h1, h2, h3⟩ := List.findIdx?_eq_some_iff_getElem.1 hf
    rw [List.length_zip] at h1
    rw [List.getElem_zip] at h2
    refine .inr ⟨j, gs[j]'(by omega), rfl, List.getElem?_eq_getElem (by omega), h2, fun i hi x hx => ?_⟩
    obtain ⟨hi1, rfl⟩ := List.getElem?_eq_some_iff.1 hx
    have := h3 i hi
    rw [List.getElem_zip] at this
    simpa using this
theorem put_set {f : Fl} {gs : List Gp} {j : Nat} {g : Gp} (h : gs[j]? = some g) (h1 : fitsG f g = true) (h2 : ∀ i < j, ∀ x, gs[i]? = some x → fitsG f x = false) : putG f gs = gs.set j (growG f g) := by
  have hj := (List.getElem?_eq_some_iff.1 h).1
  rw [putG_hit h h1 h2, List.set_eq_take_append_cons_drop, if_pos hj]
theorem put_new {f : Fl} {gs : List Gp} (h : ∀ x ∈ gs, fitsG f x = false) : putG f gs = (gs ++ [(⟨f.part, 0, []⟩ : Gp)]).set gs.length (growG f ⟨f.part, 0, []⟩) := by
  rw [putG_miss h, List.set_append_right _ _ (Nat.le_refl _), Nat.sub_self]
  rfl
/-- Where a block stands among others. -/
noncomputable def ixB (bs : List Nat) (b : Nat) : Nat := open Classical in if h : ∃ i : Nat, bs[i]? = some b then Classical.choose h else 0
theorem ixB_at {bs : List Nat} {i b : Nat} (nd : ∀ i j b : Nat, bs[i]? = some b → bs[j]? = some b → i = j) (h : bs[i]? = some b) : ixB bs b = i := by
  unfold ixB
  rw [dif_pos ⟨i, h⟩]
  exact nd _ _ b (Classical.choose_spec (⟨i, h⟩ : ∃ i : Nat, bs[i]? = some b)) h
theorem plan_zip {l : List Fl} {least : Int} {gs : List Gp} {bs : List Nat} (hG : gs = groupsG least l) (hlz : gs.length = bs.length) :
    ((((partsF l).flatMap fun p => (gs.zip bs).filter fun z => z.1.part == p).map (·.1)).filter manyG).map (·.paths) = planAll l least := by
  unfold planAll
  rw [List.map_flatMap, filter_flatMap, List.map_flatMap]
  refine flatMap_same fun p _ => ?_
  congr 2
  unfold ofPart
  rw [← hG]
  have e : gs = (gs.zip bs).map (·.1) := (List.map_fst_zip (by omega)).symm
  conv => rhs; rw [e]
  rw [List.filter_map]
  rfl
theorem elV : ElemInfo Tryz.prog 33 39 1 24 := elemInfo_of Tryz.underlying33 (z := .slice none 0 0) (by kernel_rfl) rfl (by decide)
theorem elPg : ElemInfo Tryz.prog 84 86 1 8 := elemInfo_of Tryz.underlying84 (z := .pointer none) (by kernel_rfl) rfl (by decide)
def shutApp (argTypes : Array TypeId) (type : TypeId) (args : Array Value) : Sem Value := Builtin.append_ argTypes type args
theorem shutApp_eq (argTypes : Array TypeId) (type : TypeId) (args : Array Value) : Builtin.append_ argTypes type args = shutApp argTypes type args := rfl
attribute [local go_sem ↓] shutApp_eq in
set_option maxHeartbeats 4000000 in
set_option maxRecDepth 20000 in
theorem packPlan_any (E : Nat → Addr) (B : Nat) (v : Value) (l : List Fl) (least : Int) (w : World) (hE : Errs [2, 4, 5, 8, 9] E B w) (hT : LNum B w) (hM : LMax B w) (hl : FilesAt w v l) (hs : ∀ f ∈ l, midF f) (hn : l.length ≤ 19) :
    Calls Tryz.prog 10 #[v, .int .i64 least] w fun e w' => ∃ u ev, e = .returned (.tuple #[u, ev]) ∧ ErV E w' ev (planE l least) ∧ ListsAt w' u (planL l least) ∧ Below w.heap.size w w' := by
  have hif := isIfaceE
  have hBw := hE.le
  have HCk := Lib.hid (listCheck_any E B v l w hE hT hM hl hs)
  have XE := Lib.hid (fun W (h : Below w.heap.size w W) => hE.below' h hBw)
  obtain ⟨a, c, b, o, rfl, ha, hc, hcm, hx⟩ := hl
  unfold maxLen at hcm
  have HX := Lib.hid hx
  have HPE : Hid (planE l least = if listCheck l ≠ .nil then listCheck l else if least < 0 ∨ 41 < least then .bare 2 else .nil) := Lib.hid rfl
  have HPL : Hid (planE l least ≠ .nil → planL l least = []) := Lib.hid fun h => if_neg h
  clear hE hT hM hs hx
  go_enter Tryz.func10, Tryz.ntmps10
  go_wp2_with fail
  refine HCk.out.mono ?_
  rintro e w1 ⟨ev, rfl, hev, hb1⟩
  clear HCk
  by_cases hck : listCheck l = .nil
  case neg =>
    obtain ⟨t1, x1, rfl⟩ := hev.iface hck
    have HEv := Lib.hid hev
    have HE2 : Hid (planE l least = listCheck l) := Lib.hid (by rw [HPE.out, if_pos hck])
    have HL2 : Hid (planL l least = []) := Lib.hid (HPL.out (by rw [HE2.out]; exact hck))
    clear hev hck
    go_wp2_with fail
    go_ret2
    exact ⟨_, _, rfl, by rw [HE2.out]; exact HEv.out, by rw [HL2.out]; exact ListsAt.nil _, hb1⟩
  rw [hck] at hev
  obtain rfl : ev = .nilIface := hev
  have HR := Lib.hid ((right_iff l).1 hck)
  have HE1 : Hid (planE l least = if least < 0 ∨ 41 < least then .bare 2 else .nil) := Lib.hid (by rw [HPE.out, if_neg (by rw [hck]; simp)])
  have hE2g := (XE.out w1 hb1).var 2 (by decide)
  change w1.cell? ⟨0, 0, none⟩ = _ at hE2g
  clear hck HPE
  by_cases h0 : least < 0
  case pos =>
    have HE2 : Hid (planE l least = .bare 2) := Lib.hid (by rw [HE1.out, if_pos (.inl h0)])
    have HL2 : Hid (planL l least = []) := Lib.hid (HPL.out (by rw [HE2.out]; simp))
    go_wp2_with fail
    go_quiet (fail)
    go_wp2_with fail
    go_ret2
    exact ⟨_, _, rfl, by rw [HE2.out]; exact ⟨by omega, rfl⟩, by rw [HL2.out]; exact ListsAt.nil _, Bdn hb1 _⟩
  have g0 : decide (least < 0) = false := decide_eq_false h0
  by_cases h41 : 41 < least
  case pos =>
    have HE2 : Hid (planE l least = .bare 2) := Lib.hid (by rw [HE1.out, if_pos (.inr h41)])
    have HL2 : Hid (planL l least = []) := Lib.hid (HPL.out (by rw [HE2.out]; simp))
    go_wp2_with fail
    go_quiet (fail)
    go_wp2_with fail
    go_ret2
    exact ⟨_, _, rfl, by rw [HE2.out]; exact ⟨by omega, rfl⟩, by rw [HL2.out]; exact ListsAt.nil _, Bdn hb1 _⟩
  have g41 : decide (41 < least) = false := decide_eq_false h41
  have HE2 : Hid (planE l least = .nil) := Lib.hid (by rw [HE1.out, if_neg (by omega)])
  have HL2 : Hid (planL l least = planAll l least) := Lib.hid (if_pos HE2.out)
  clear h0 h41 HE1 HPL hE2g
  go_wp2_with fail
  go_loopw [7, 28] (fun u i wr => ∃ (k : Nat) (bs : List Nat) (vs : List Value) (gs : List Gp) (vo : Value), k ≤ l.length ∧ i = .int .i64 k ∧ vo = u ∧ bs.length ≤ k ∧ Hid (gs = groupsK least l k) ∧ Hid (NumsG k gs) ∧ Hid (Own encP 86 1 w1.heap.size wr vo bs) ∧ Hid (GpsAt 88 wr w1.heap.size bs vs gs) ∧ Below w1.heap.size w1 wr) (fun _ i _ => l.length - (intOf i).toNat)
  case atStart => exact ⟨0, [], [], [], _, by omega, rfl, rfl, Nat.zero_le _, Lib.hid (by unfold groupsK; rw [List.take_zero]; rfl), Lib.hid (fun _ h => by cases h), Lib.hid (Own.nil _ _ _ _ _), Lib.hid (GpsAt.nil _ _ _), Below.refl _ _⟩
  case round =>
    obtain ⟨k, bs, vs, gs, vo, hk, rfl, rfl, hbl, hgs, hnm, ho, hgp, hb⟩ := hrel
    obtain ⟨wo, rfl⟩ : ∃ wo, wo = wr := ⟨wr, rfl⟩
    have hbwo := hb1.trans (hb.mono hb1.size)
    by_cases hlt : k < l.length
    case neg =>
      obtain rfl : k = l.length := by omega
      have f1 : decide ((l.length : Int) < (l.length : Int)) = false := by simp
      have hG : gs = groupsG least l := by rw [hgs.out]; unfold groupsK groupsG; rw [List.take_length]
      have hlz : gs.length = bs.length := hgp.out.lb.symm
      have hzi : ∀ (i : Nat) (z : Gp × Nat), (gs.zip bs)[i]? = some z → gs[i]? = some z.1 ∧ bs[i]? = some z.2 := fun i z hi => by
        obtain ⟨hi1, rfl⟩ := List.getElem?_eq_some_iff.1 hi
        rw [List.length_zip] at hi1
        rw [List.getElem_zip]
        exact ⟨List.getElem?_eq_getElem (by omega), List.getElem?_eq_getElem (by omega)⟩
      have hix : (gs.zip bs).Pairwise (fun x y => ixB bs x.2 < ixB bs y.2) := by
        refine List.pairwise_iff_getElem.2 fun i j hi hj hij => ?_
        have h1 := (hzi i _ (List.getElem?_eq_getElem hi)).2
        have h2 := (hzi j _ (List.getElem?_eq_getElem hj)).2
        rw [ixB_at hgp.out.nd h1, ixB_at hgp.out.nd h2]
        exact hij
      have hin : ∀ z ∈ gs.zip bs, ∃ i : Nat, gs[i]? = some z.1 ∧ bs[i]? = some z.2 := fun z hz => by
        obtain ⟨i, hi, rfl⟩ := List.getElem_of_mem hz
        exact ⟨i, hzi i _ (List.getElem?_eq_getElem hi)⟩
      have hgz : ∀ (W : World), GpsAt 88 W w1.heap.size bs vs gs → ∀ z ∈ gs.zip bs, ∃ v', GpAt 88 W w1.heap.size z.2 v' z.1 := fun W hW z hz => by
        obtain ⟨i, h1, h2⟩ := hin z hz
        obtain ⟨b', v', q1, q2, q3⟩ := hW.get h1
        rw [h2] at q1
        obtain rfl := Option.some.inj q1
        exact ⟨v', q3⟩
      have hso := sortStableG_any w1.heap.size vo (gs.zip bs) wo (own_zip ho.out hlz) hb.size (by rw [List.length_zip]; omega) (fun z hz => by
        obtain ⟨v', h2⟩ := hgz wo hgp.out z hz
        exact h2.cells.1) (fun z hz cs hcs => by
        obtain ⟨v', h2⟩ := hgz wo hgp.out z hz
        rw [h2.blk] at hcs
        simp at hcs) (fun z => ixB bs z.2) hix
      unfold SortedG at hso
      have HSo := Lib.hid hso
      have HGz := Lib.hid hgz
      have HNm := Lib.hid (fun (z : Gp × Nat) (hz : z ∈ gs.zip bs) => by
        obtain ⟨i, h1, -⟩ := hin z hz
        exact (hnm.out _ (List.mem_of_getElem? h1)).2)
      have HPl : Hid (∀ m : List (Gp × Nat), m.Perm (gs.zip bs) → m.Pairwise (Stb.R befG fun z => ixB bs z.2) → ((m.map (·.1)).filter manyG).map (·.paths) = planAll l least) := Lib.hid fun m h1 h2 => by
        have := by_parts (part := fun z : Gp × Nat => z.1.part) (ix := fun z => ixB bs z.2) (ps := partsF l) (partsF_up l) (fun z hz => by
          obtain ⟨i, h3, -⟩ := hin z hz
          exact groups_parts least l _ (by rw [← hG]; exact List.mem_of_getElem? h3)) hix h1 h2
        rw [this]
        exact plan_zip hG hlz
      obtain ⟨av, cv, rfl, -, -⟩ := At.form' (ho.out.at encP_enc)
      clear hG hzi hix hin hso hgs hnm hgz
      go_wp2_with fail
      refine HSo.out.mono ?_
      rintro e w2 ⟨rfl, m, hperm, hpw, hom, hkb, hb12⟩
      have hgp2 := hgp.out.kept hkb (by decide) (by decide)
      have HM := Lib.hid (HPl.out m hperm hpw)
      have hml : m.length = bs.length := by rw [hperm.length_eq, List.length_zip, hlz, Nat.min_self]
      have HZ := Lib.hid (fun z (hz : z ∈ m) => And.intro (HGz.out w2 hgp2 z (hperm.mem_iff.1 hz)) (HNm.out z (hperm.mem_iff.1 hz)))
      obtain ⟨am, cm, bm, om, hvm, ham, hcm', hcmm, hxm⟩ := hom.at encQ_enc
      rw [hml] at hvm ham hcm'
      unfold maxLen at hcmm
      cases hvm
      have HXm := Lib.hid hxm
      have hbw2 := hb1.trans ((hb.trans hb12).mono hb1.size)
      clear hperm hpw hom hkb hgp2 hxm hgp HPl HGz HNm HSo
      go_wp2_with fail
      go_loopw [11, 13, 89] (fun u _ i wr => ∃ (q : Nat) (ls : List (List Str)) (xs : List SlV) (vo2 : Value), q ≤ bs.length ∧ i = .int .i64 q ∧ vo2 = u ∧ xs.length = ls.length ∧ xs.length ≤ q ∧ Hid (ls = (((m.take q).map (·.1)).filter manyG).map (·.paths)) ∧ Hid (Own encV 39 1 w2.heap.size wr vo2 xs) ∧ Hid (∀ (i : Nat) (x : SlV) (y : List Str), xs[i]? = some x → ls[i]? = some y → Own encS 9 1 w1.heap.size wr (slV x) y) ∧ Below w2.heap.size w2 wr) (fun _ _ i _ => bs.length - (intOf i).toNat)
      case atStart => exact ⟨0, [], [], _, by omega, rfl, rfl, rfl, Nat.zero_le _, Lib.hid (by rw [List.take_zero]; rfl), Lib.hid (Own.nil _ _ _ _ _), Lib.hid (fun i x y h => by simp at h), Below.refl _ _⟩
      case round =>
        obtain ⟨q, ls, xs, vo2, hq, rfl, rfl, hxl, hxq, hls, ho2, hst, hbq⟩ := hrel
        obtain ⟨wp, rfl⟩ : ∃ wp, wp = wr := ⟨wr, rfl⟩
        by_cases hql : q < bs.length
        case neg =>
          obtain rfl : q = bs.length := by omega
          have f2 : decide ((bs.length : Int) < (bs.length : Int)) = false := by simp
          have HLs : Hid (ls = planAll l least) := Lib.hid (by rw [hls.out, ← hml, List.take_length]; exact HM.out)
          have Hxl := Lib.hid hxl
          clear hxl
          go_wp2_with fail
          go_ret2
          exact ⟨_, _, rfl, by rw [HE2.out]; rfl, by rw [HL2.out, ← HLs.out]; exact ⟨xs, Hxl.out, ho2.out.at encV_enc, fun i x y h1 h2 => (hst.out i x y h1 h2).at encS_enc⟩, hbw2.trans (hbq.mono hbw2.size)⟩
        have f2 : (q : Int) < (bs.length : Int) := by omega
        obtain ⟨z, hz⟩ := get_ex (l := m) (k := q) (by omega)
        obtain ⟨⟨pv, hat0⟩, hpl⟩ := HZ.out z (List.mem_of_getElem? hz)
        have hat := hat0.below hbq
        have x0 := (hbq.cell (World.block_lt_of_cell? _ _ (HXm.out q z hz 0 _ rfl))).trans (HXm.out q z hz 0 _ rfl)
        have i1 := idx_at (c := cv) 1 Tryz.underlying84 szPg ham q hql
        simp only [Nat.mul_one, Nat.add_zero] at x0 i1
        obtain ⟨ap, cp, rfl, -, -⟩ := At.form' (hat.own.at encS_enc)
        obtain ⟨q0, q1, q2, -⟩ := hat.cells
        have HSp := Lib.hid hat.own
        have HTk : Hid (((m.take (q + 1)).map (·.1)).filter manyG = ((m.take q).map (·.1)).filter manyG ++ (if manyG z.1 = true then [z.1] else [])) := Lib.hid (by
          rw [take_snoc' hz, List.map_append, List.filter_append, List.map_singleton, List.filter_cons]
          cases manyG z.1 <;> rfl)
        clear hz hat hat0
        cases hmy : manyG z.1 with
        | false =>
          have g1 : decide ((1 : Int) < (z.1.paths.length : Int)) = false := by
            unfold manyG at hmy
            have := of_decide_eq_false hmy
            simp; omega
          have HLs2 : Hid (ls = (((m.take (q + 1)).map (·.1)).filter manyG).map (·.paths)) := Lib.hid (by rw [HTk.out, hmy, if_neg (by decide), List.append_nil]; exact hls.out)
          clear hmy
          go_wp2_with fail
          go_roundw
          case rel => exact ⟨q + 1, ls, xs, vo2, by omega, by go_num, rfl, hxl, by omega, HLs2, ho2, hst, hbq⟩
          case measure => simp [intOf]; omega
        | true =>
          have g1 : (1 : Int) < (z.1.paths.length : Int) := by
            unfold manyG at hmy
            have := of_decide_eq_true hmy
            omega
          have HLs2 : Hid (ls ++ [z.1.paths] = (((m.take (q + 1)).map (·.1)).filter manyG).map (·.paths)) := Lib.hid (by rw [HTk.out, hmy, if_pos rfl, List.map_append, ← hls.out]; rfl)
          clear hmy
          go_wp2_with (at_builtin; refine wpList_app rfl _ _ _ rfl w2.heap.size elV vo2 xs.length _ rfl (ho2.out.alloc _) (.slice (some ⟨wp.heap.size, 0, none⟩) 1 1) 1 (encV (ap, z.1.paths.length, cp)) rfl (src_one rfl rfl (by simp [Value.oneCell'])) (by unfold maxLen; omega) (by omega) (by have h2 := hbq.size; simp; omega) ?_; intro v3 w3 hown hg3 _)
          have ho3 : Own encV 39 1 w2.heap.size w3 v3 (xs ++ [(ap, z.1.paths.length, cp)]) := Own.snoc hown
          have hb3 := Bapp (hbq.alloc hbq.size (.cells (encV (ap, z.1.paths.length, cp)).toArray 39)) (ho2.out.alloc _) hg3 (Nat.le_refl _) (by have := hbq.size; simp; omega)
          have hk3 := ((KeptBut.refl 39 wp).below ((Below.refl _ _).alloc (Nat.le_refl _) (.cells (encV (ap, z.1.paths.length, cp)).toArray 39))).grown (ho2.out.alloc _) hg3
          have hst3 : ∀ (i : Nat) (x : SlV) (y : List Str), (xs ++ [(ap, z.1.paths.length, cp)])[i]? = some x → (ls ++ [z.1.paths])[i]? = some y → Own encS 9 1 w1.heap.size w3 (slV x) y := fun i x y h1 h2 => by
            rcases Nat.lt_or_ge i xs.length with hi | hi
            · rw [List.getElem?_append_left hi] at h1
              rw [List.getElem?_append_left (by omega)] at h2
              exact hk3.own (by decide) (hst.out i x y h1 h2)
            · have hi1 := (List.getElem?_eq_some_iff.1 h1).1
              rw [List.length_append, List.length_singleton] at hi1
              obtain rfl : i = xs.length := by omega
              rw [List.getElem?_append_right (Nat.le_refl _), Nat.sub_self] at h1
              rw [List.getElem?_append_right (by omega), show xs.length - ls.length = 0 by omega] at h2
              obtain rfl := Option.some.inj h1
              obtain rfl := Option.some.inj h2
              exact hk3.own (by decide) HSp.out
          go_roundw
          case rel => exact ⟨q + 1, ls ++ [z.1.paths], xs ++ [(ap, z.1.paths.length, cp)], v3, by omega, by go_num, rfl, by simp [hxl], by simp; omega, HLs2, Lib.hid ho3, Lib.hid hst3, hb3⟩
          case measure => simp [intOf]; omega
    have f1 : (k : Int) < (l.length : Int) := by omega
    obtain ⟨x, hxk⟩ := get_ex hlt
    obtain ⟨c0, c1, c2, c3, c4, c5⟩ := flCells HX.out hbwo hxk
    have i1 := idx_at (c := c) 6 Tryz.underlying23 szFl ha k hlt
    have HNx := Lib.hid (@groupsK_next least l k x hxk)
    rw [← hgs.out] at HNx
    have HNn : Hid (0 ≤ x.n ∧ x.n ≤ 40) := Lib.hid (by have := (check_near (HR.out.ok x (List.mem_of_getElem? hxk))).2.2.2; omega)
    have hA : Below wo.heap.size wo (wo.alloc (fileO x)) := (Below.refl _ _).alloc (Nat.le_refl _) _
    have hgA := heap_alloc_new wo (fileO x)
    have HoA := Lib.hid (ho.out.below hA)
    have HgpA := Lib.hid (hgp.out.below hA)
    have hbA := hb.trans (hA.mono hb.size)
    clear hxk ho hgp
    go_upto_region 10 with fail
    clear c0 c1 c2 c3 c4 c5 i1
    generalize wo.alloc (fileO x) = wA at *
    obtain ⟨P, hP⟩ : ∃ P, wo.heap.size = P := ⟨_, rfl⟩
    rw [hP] at hgA ⊢
    clear hP
    have HgA := Lib.hid hgA
    obtain ⟨c0, c1, c2, c3, c4, c5⟩ := rowF6 hgA
    clear hgA
    cases hsm : smallF least x with
    | false =>
      have HN2 : Hid (groupsK least l (k + 1) = gs) := Lib.hid (by rw [HNx.out, hsm]; rfl)
      have hw : (x.part == [45]) = true ∨ ((x.part == [45]) = false ∧ least ≤ x.n) := by
        unfold smallF isG at hsm
        cases hp : (x.part == [45]) with
        | true => exact .inl rfl
        | false => rw [hp] at hsm; simp at hsm; exact .inr ⟨rfl, hsm⟩
      clear hsm
      rcases hw with g1 | ⟨g1, g2⟩
      all_goals
        go_wp2_with fail
        go_roundw
        case rel => exact ⟨k + 1, bs, vs, gs, vo, by omega, by go_num, rfl, by omega, Lib.hid HN2.out.symm, Lib.hid hnm.out.next, HoA, HgpA, hbA⟩
        case measure => simp [intOf]; omega
    | true =>
    have hw : (x.part == [45]) = false ∧ decide (least ≤ x.n) = false := by
      unfold smallF isG at hsm
      simp only [Bool.and_eq_true, Bool.not_eq_true', decide_eq_true_eq] at hsm
      exact ⟨hsm.1, decide_eq_false (by omega)⟩
    obtain ⟨g1, g2⟩ := hw
    have HN2 : Hid (groupsK least l (k + 1) = putG x gs) := Lib.hid (by rw [HNx.out, if_pos hsm])
    have hlz : gs.length = bs.length := HgpA.out.lb.symm
    have HIx := Lib.hid (indexFuncG_any 40 #[.pointer (some ⟨P, 0, none⟩)] (fun y => fitsG x y.1) wA.heap.size wA vo (gs.zip bs) wA clo_plan1 (fun W y hy hbW _ => by
      obtain ⟨i, hi, rfl⟩ := List.getElem_of_mem hy
      rw [List.length_zip] at hi
      rw [List.getElem_zip]
      have hgi : gs[i]? = some (gs[i]'(by omega)) := List.getElem?_eq_getElem (by omega)
      obtain ⟨b', v', h1, h2, h3⟩ := HgpA.out.get hgi
      have hb' : bs[i]'(by omega) = b' := by
        rw [List.getElem?_eq_getElem (by omega)] at h1; exact Option.some.inj h1
      obtain ⟨-, q1, q2, -, -, -⟩ := rowF6 (f := x) (rowKept HgA.out hbW)
      have := plan1_any x P w1.heap.size b' v' _ W (h3.below hbW) q1 q2 (hnm.out _ (List.mem_of_getElem? hgi)).1 HNn.out
      rw [hb']
      exact this) ((own_zip HoA.out hlz).at encQ_enc) (Below.refl _ _) (Nat.le_refl _))
    have hways := idx_zip hlz x
    obtain ⟨iv, hiv⟩ : ∃ iv, idxVal (fun y : Gp × Nat => fitsG x y.1) (gs.zip bs) = iv := ⟨_, rfl⟩
    rw [hiv] at HIx hways
    have HWays := Lib.hid hways
    have Hlz := Lib.hid hlz
    clear hsm hways hiv hlz
    go_wp2_with fail
    refine HIx.out.mono ?_
    rintro e w2 ⟨rfl, hb2⟩
    have hb2' := hbA.trans (hb2.mono hbA.size)
    have HoB := Lib.hid (HoA.out.below hb2)
    have HgpB := Lib.hid (HgpA.out.below hb2)
    have HgB := Lib.hid (rowKept HgA.out hb2)
    clear c0 c1 c2 c3 c4 c5 HIx
    go_upto_if 45 with fail
    go_cut [7, 10] (fun u i wx => ∃ (bs' : List Nat) (vs' : List Value) (gs' : List Gp) (vo' : Value) (j : Nat) (g : Gp), vo' = u ∧ i = .int .i64 j ∧ gs'[j]? = some g ∧ putG x gs = gs'.set j (growG x g) ∧ bs'.length ≤ k + 1 ∧ ((0 ≤ g.n ∧ g.n ≤ 40) ∧ g.paths.length ≤ k) ∧ Own encP 86 1 w1.heap.size wx vo' bs' ∧ GpsAt 88 wx w1.heap.size bs' vs' gs' ∧ wx.heap[P]? = some (fileO x) ∧ Below w1.heap.size w1 wx)
    case first =>
      rcases HWays.out with ⟨rfl, hno⟩ | ⟨j, g, rfl, hj, hfit, hlow⟩
      case' inr =>
        have g5 : decide ((j : Int) < 0) = false := by simp
        have HA := Lib.hid (And.intro hj (And.intro (put_set hj hfit hlow) (hnm.out g (List.mem_of_getElem? hj))))
        clear hj hfit hlow
        go_wp2_with fail
        go_meet
        exact ⟨bs, vs, gs, vo, j, g, rfl, rfl, HA.out.1, HA.out.2.1, by omega, HA.out.2.2, HoB.out, HgpB.out, HgB.out, hb2'⟩
      have HNew := Lib.hid (put_new hno)
      obtain ⟨c0, c1, c2, c3, c4, c5⟩ := rowF6 (f := x) HgB.out
      obtain ⟨ao, co, rfl, -, -⟩ := At.form' (HoB.out.at encP_enc)
      have hG : Below w2.heap.size w2 (w2.alloc (.cells #[S x.part, .int .i64 0, .slice none 0 0] 88)) := (Below.refl _ _).alloc (Nat.le_refl _) _
      have HoC := Lib.hid (HoB.out.below hG)
      have HgpC := Lib.hid (HgpB.out.push hb2'.size x.part)
      have HgC := Lib.hid (rowKept HgB.out hG)
      have hb3 := hb2'.trans (hG.mono hb2'.size)
      clear hno
      go_wp2_with (at_builtin; refine wpList_app rfl _ _ _ rfl w1.heap.size elPg (.slice ao bs.length co) bs.length _ rfl (HoC.out.alloc _) (.slice (some ⟨w2.heap.size + 1, 0, none⟩) 1 1) 1 (encP w2.heap.size) rfl (src_one (by simp) rfl (by simp [Value.oneCell'])) (by unfold maxLen; omega) (by omega) (by have h2 := hb2'.size; simp; omega) ?_; intro v4 w4 hown hg4 _)
      have ho4 := Own.snoc hown
      have hkb := ((KeptBut.refl 86 (w2.alloc (.cells #[S x.part, .int .i64 0, .slice none 0 0] 88))).below ((Below.refl _ _).alloc (Nat.le_refl _) (.cells (encP w2.heap.size).toArray 86))).grown (HoC.out.alloc _) hg4
      have hgp4 := HgpC.out.kept hkb (by decide) (by decide)
      have hP4 := hkb.2 P _ HgC.out (fun cs h => by simp at h)
      have hb4 := Bapp (hb3.alloc hb3.size (.cells (encP w2.heap.size).toArray 86)) (HoC.out.alloc _) hg4 (Nat.le_refl _) (by have h2 := hb2'.size; simp; omega)
      go_meet
      exact ⟨bs ++ [w2.heap.size], vs ++ [.slice none 0 0], gs ++ [⟨x.part, 0, []⟩], v4, gs.length, ⟨x.part, 0, []⟩, rfl, by rw [Hlz.out], by simp, HNew.out, by simp; omega, ⟨⟨Int.le_refl _, by show (0 : Int) ≤ 40; decide⟩, Nat.zero_le _⟩, ho4, hgp4, hP4, hb4⟩
    case rest =>
      obtain ⟨bs2, vs2, gs2, vo2, j, g, rfl, rfl, hj, hput, hbl2, ⟨hgn, hgl⟩, ho2, hgp2, hgP, hbc⟩ := hcut
      obtain ⟨w5, rfl⟩ : ∃ w5, w5 = wc := ⟨wc, rfl⟩
      obtain ⟨b5, pv, hbj, hvj, hat⟩ := hgp2.get hj
      have HPut : Hid (groupsK least l (k + 1) = gs2.set j (growG x g)) := Lib.hid (by rw [HN2.out, hput])
      have HO2 := Lib.hid ho2
      have HGp2 := Lib.hid hgp2
      have HGP := Lib.hid hgP
      have HJ := Lib.hid (And.intro hj (And.intro hbj hvj))
      have HAt := Lib.hid hat
      obtain ⟨ao, co, bo, oo, rfl, hao, hco, hcmo, hxo⟩ := ho2.at encP_enc
      unfold maxLen at hcmo
      have hjl : j < bs2.length := (List.getElem?_eq_some_iff.1 hbj).1
      have x0 := hxo j b5 hbj 0 _ rfl
      have i1 := idx_at (c := co) 1 Tryz.underlying84 szPg hao j hjl
      simp only [Nat.mul_one, Nat.add_zero] at x0 i1
      obtain ⟨q0, q1, q2, qz⟩ := hat.cells
      have f1' := qz 1
      obtain ⟨c0, c1, c2, c3, c4, c5⟩ := rowF6 (f := x) hgP
      have hNn := HNn.out
      have hw1 : wrap64 (g.n + x.n) = g.n + x.n := IntWalk.wrap64_in _ (by omega)
      have hw2 : IntKind.i64.wrap (g.n + x.n) = g.n + x.n := IntWalk.i64_in _ (by omega)
      have f9 : (j : Int) < (bs2.length : Int) := by omega
      have HXo := Lib.hid hxo
      clear hj hput ho2 hgp2 hgP hbj hvj hat hxo qz
      go_wp2_with fail
      go_region
      all_goals
        clear q0 q1 q2 f1' c0 c1 c2 c3 c4 c5 x0 hw1 hw2
        go_upto_region 16 with fail
        have hne : b5 ≠ P := by
          rintro rfl
          have := HAt.out.blk
          rw [HGP.out] at this
          simp at this
        have hj1 := HJ.out.1
        have hjg := (List.getElem?_eq_some_iff.1 hj1).1
        have hgpS := HGp2.out.setN HJ.out.2.1 hj1 (by decide) (g.n + x.n)
        have hbS := hbc.setCell (p := ⟨b5, 1, none⟩) HAt.out.le (.int .i64 (g.n + x.n))
        have hoS := own_set (i := 1) (x := .int .i64 (g.n + x.n)) HO2.out HAt.out.blk (fun cs hc => by simp at hc)
        have hPS := (set_other (w := w5) (i := 1) hne (.int .i64 (g.n + x.n))).trans HGP.out
        have hd : Below (w5.setCell ⟨b5, 1, none⟩ (.int .i64 (g.n + x.n))).heap.size (w5.setCell ⟨b5, 1, none⟩ (.int .i64 (g.n + x.n))) (w5.setCell ⟨b5, 1, none⟩ (.int .i64 (g.n + x.n))).drew := Bdn (Below.refl _ _) 1
        have hgp6 := hgpS.below hd
        have ho6 := hoS.below hd
        have hP6 := rowKept hPS hd
        have hb6 := hbS.drew
        clear hgpS hbS hoS hPS hd hne
        generalize (w5.setCell ⟨b5, 1, none⟩ (.int .i64 (g.n + x.n))).drew = w6 at *
        have hj6 : (gs2.set j ⟨g.part, g.n + x.n, g.paths⟩)[j]? = some ⟨g.part, g.n + x.n, g.paths⟩ := List.getElem?_set_self hjg
        have hat6 := hgp6.each j b5 pv _ HJ.out.2.1 HJ.out.2.2 hj6
        obtain ⟨ap, cp, rfl, -, -⟩ := At.form' (hat6.own.at encS_enc)
        obtain ⟨ao', co', bo', oo', hv', hao', -, -, hxo'⟩ := ho6.at encP_enc
        cases hv'
        have hbj := HJ.out.2.1
        have hjl2 : j < bs2.length := (List.getElem?_eq_some_iff.1 hbj).1
        have e1 := hao (by omega)
        have e2 := hao' (by omega)
        rw [e1] at e2
        cases e2
        clear e1
        have i2 := idx_at (c := co) 1 Tryz.underlying84 szPg hao j hjl2
        have hba7 : Below w6.heap.size w6 (w6.alloc (.cells #[S x.path] 9)) := (Below.refl _ _).alloc (Nat.le_refl _) _
        have HW := Lib.hid (fun W (h : Below w6.heap.size w6 W) => (⟨by
          have := (h.cell (World.block_lt_of_cell? _ _ (hxo' j b5 hbj 0 _ rfl))).trans (hxo' j b5 hbj 0 _ rfl)
          simpa only [Nat.mul_one, Nat.add_zero] using this, (hat6.below h).cells.2.2.1, (rowF6 (f := x) (rowKept hP6 h)).1, (hat6.below h).cells.2.2.2 2⟩ : W.cell? ⟨bo, oo + j, none⟩ = some (.pointer (some ⟨b5, 0, none⟩)) ∧ W.cell? ⟨b5, 2, none⟩ = some (.slice ap g.paths.length cp) ∧ W.cell? ⟨P, 0, none⟩ = some (S x.path) ∧ W.frozen? ⟨b5, 2, none⟩ = false))
        simp only [Nat.mul_one] at i2
        obtain ⟨v7, w7, happ, hown7, hg7, hn7⟩ := run_app (P := Tryz.prog) (w6.drew.alloc (.cells (encS x.path).toArray 9)) w1.heap.size 39 39 9 1 16 elStr (.slice ap g.paths.length cp) g.paths.length _ ((hat6.own.below (Bdn (Below.refl _ _) 1)).alloc _) (.slice (some ⟨w6.drew.heap.size, 0, none⟩) 1 1) 1 (encS x.path) (src_one rfl rfl (by simp [Value.oneCell'])) (by unfold maxLen; omega) (by omega) (by have := hb6.size; simp; omega)
        have happ' : (shutApp #[39, 39] 39 #[.slice ap g.paths.length cp, .slice (some ⟨w6.heap.size, 0, none⟩) 1 1]).run Tryz.prog (w6.alloc (.cells #[S x.path] 9)).drew = .ok v7 w7 := happ
        have hbd7 : Below w6.heap.size w6 (w6.drew.alloc (.cells (encS x.path).toArray 9)) := (Bdn (Below.refl w6.heap.size w6) 1).alloc (Nat.le_refl _) _
        have hown7' : Own encS 9 1 w1.heap.size w7 v7 (g.paths ++ [x.path]) := Own.snoc hown7
        obtain ⟨a7, c7, hv7, -, -⟩ := At.form' (hown7'.at encS_enc)
        rw [show (g.paths ++ [x.path]).length = g.paths.length + 1 by simp] at hv7
        subst hv7
        have hk7 := ((KeptBut.refl 9 w6).below hbd7).grown ((hat6.own.below (Bdn (Below.refl _ _) 1)).alloc _) hg7
        have hblk7 := hk7.2 b5 _ hat6.blk (fun cs h => by simp at h)
        have hset := hgp6.setP hbd7 HJ.out.2.1 HJ.out.2.2 hj6 (by decide) hown7' hg7 hn7
        rw [List.set_set] at hset
        have ho7 := own_set (i := 2) (x := .slice a7 (g.paths.length + 1) c7) (hk7.own (by decide) ho6) hblk7 (fun cs hc => by simp at hc)
        have hb7 := (Bapp (hb6.drew.alloc hb6.drew.size (.cells (encS x.path).toArray 9)) ((hat6.own.below (Bdn (Below.refl _ _) 1)).alloc _) hg7 (Nat.le_refl _) (by have := hb6.size; simp; omega)).setCell (p := ⟨b5, 2, none⟩) HAt.out.le (.slice a7 (g.paths.length + 1) c7)
        have q7 : w7.cell? ⟨b5, 2, none⟩ = some (.slice ap g.paths.length cp) := by rw [cell_of_row w7 _ _ _ _ (0, 0) hblk7]; rfl
        have f7 := frozen_row (i := 2) hblk7
        obtain ⟨r0, r1, r2, r3⟩ := HW.out w6 (Below.refl _ _)
        obtain ⟨s0, s1, s2, s3⟩ := HW.out _ hba7
        obtain ⟨t0, t1, t2, t3⟩ := HW.out _ (Bdn hba7 1)
        obtain ⟨a9, c9, b9, o9, hv9, ha9, -, -, hx9⟩ := (hk7.own (by decide) ho6).at encP_enc
        cases hv9
        have e3 := ha9 (by omega)
        rw [hao (by omega)] at e3
        cases e3
        have x7 := hx9 j b5 hbj 0 _ rfl
        simp only [Nat.mul_one, Nat.add_zero] at x7
        have HSet := Lib.hid hset
        have HO7 := Lib.hid ho7
        have HB7 := Lib.hid hb7
        clear happ hown7 hown7' hg7 hn7 hk7 hblk7 hset ho7 hb7 hgp6 ho6 hP6 hj6 hat6 hxo' hbd7 hba7 hj1 hjg hx9 ha9 hao'
        go_region
        all_goals
          go_wp2_with fail
          go_roundw
          case rel => exact ⟨k + 1, bs2, vs2.set j (.slice a7 (g.paths.length + 1) c7), gs2.set j (growG x g), .slice ao bs2.length co, by omega, by go_num, rfl, by omega, Lib.hid HPut.out.symm, Lib.hid (by rw [← HPut.out, HN2.out]; exact nums_put hnm.out HNn.out), HO7, HSet, HB7⟩
          case measure => simp [intOf]; omega
end Go.Proofs.YtpfohfihkmjnaaaGreatDoor
namespace Go.Proofs.YtpfohfihkmjnaaaGreatDoor
open Go.RowKit Go.Maps

abbrev pP1 : Str := [100, 97, 116, 97, 47, 49]
abbrev pP2 : Str := [100, 97, 116, 97, 47, 50]
abbrev fP1 : Fl := ⟨pP1, [97], 1, 0, 0, 1⟩
abbrev fP2 : Fl := ⟨pP2, [97], 2, 0, 0, 1⟩
theorem itoaP1 : Lib.itoa 1 = [49] := (Lib.itoa_nonneg 1).trans (Lib.decDigits_one (by decide))
theorem itoaP2 : Lib.itoa 2 = [50] := (Lib.itoa_nonneg 2).trans (Lib.decDigits_one (by decide))
theorem path_P1 : pathF pP1 = some (kData, 1) := by
  have hc : Lib.cut pP1 [47] = (kData, [49], true) := cut_app1 (p := kData) (q := [49]) (by decide)
  have hn : numOf [49] = some 1 := (numOf_iff _ 1).2 ⟨by decide, itoaP1⟩
  unfold pathF
  rw [hc, if_pos ⟨rfl, .inl rfl⟩]
  show (numOf [49]).bind _ = _
  rw [hn]
  rfl
theorem path_P2 : pathF pP2 = some (kData, 2) := by
  have hc : Lib.cut pP2 [47] = (kData, [50], true) := cut_app1 (p := kData) (q := [50]) (by decide)
  have hn : numOf [50] = some 2 := (numOf_iff _ 2).2 ⟨by decide, itoaP2⟩
  unfold pathF
  rw [hc, if_pos ⟨rfl, .inl rfl⟩]
  show (numOf [50]).bind _ = _
  rw [hn]
  rfl
theorem kind_P1 : kindF pP1 = kData := by unfold kindF; rw [path_P1]; rfl
theorem kind_P2 : kindF pP2 = kData := by unfold kindF; rw [path_P2]; rfl
theorem right_P : RightL [fP1, fP2] := by
  have c1 : checkF fP1 = 0 := checkF_right (f := fP1) path_P1 (by rw [kind_P1]; decide) (by unfold boundF farN; decide)
  have c2 : checkF fP2 = 0 := checkF_right (f := fP2) path_P2 (by rw [kind_P2]; decide) (by unfold boundF farN; decide)
  refine ⟨by decide, fun f hf => ?_, ?_⟩
  · simp only [List.mem_cons, List.mem_nil_iff, or_false] at hf
    rcases hf with rfl | rfl
    · exact c1
    · exact c2
  · refine List.pairwise_cons.2 ⟨fun g hg => ?_, List.pairwise_singleton _ _⟩
    rw [List.mem_singleton.1 hg]
    unfold keyP
    rw [path_P1, path_P2]
    decide
theorem plan_P : planE [fP1, fP2] 10 = .nil ∧ planL [fP1, fP2] 10 = [[pP1, pP2]] := by
  have h1 : planE [fP1, fP2] 10 = .nil := by
    unfold planE
    rw [if_neg (by rw [(right_iff _).2 right_P]; simp), if_neg (by omega)]
  refine ⟨h1, ?_⟩
  unfold planL
  rw [if_pos h1]
  decide
set_option maxHeartbeats 1000000 in
set_option maxRecDepth 20000 in
theorem packed_any (E : Nat → Addr) (B : Nat) (w : World) (hE : Errs [2, 4, 5, 8, 9] E B w) (hT : LNum B w) (hM : LMax B w) :
    Calls Tryz.prog 6 #[] w fun e w' => e = .returned (.bool true) ∧ Below w.heap.size w w' := by
  have hBw := hE.le
  have hif := isIfaceE
  have hba : Below w.heap.size w (w.alloc (.cells #[S pP1, S [97], .int .i64 1, .int .i64 0, .int .i64 0, .int .i64 1, S pP2, S [97], .int .i64 2, .int .i64 0, .int .i64 0, .int .i64 1] 43)) := (Below.refl _ _).alloc (Nat.le_refl _) _
  have hpl := packPlan_any E B (.slice (some ⟨w.heap.size, 0, none⟩) 2 2) [fP1, fP2] 10 _ (hE.below' hba hBw) (hT.below' hba hBw) (hM.below' hba hBw) (at_row2 (enc := encF) (x := fP1) (y := fP2) (fun _ => rfl) (heap_alloc_new w (.cells #[S pP1, S [97], .int .i64 1, .int .i64 0, .int .i64 0, .int .i64 1, S pP2, S [97], .int .i64 2, .int .i64 0, .int .i64 0, .int .i64 1] 43)) rfl) (right_mid right_P) (by decide)
  rw [plan_P.1, plan_P.2] at hpl
  have HPl := Lib.hid hpl
  clear hpl hE hT hM
  go_enter Tryz.func6, Tryz.ntmps6
  go_wp2_with fail
  refine HPl.out.mono ?_
  rintro e w1 ⟨u, ev, rfl, hev, ⟨xs, hxl, hat, hst⟩, hb1⟩
  obtain rfl : ev = .nilIface := hev
  have hbw1 := hba.trans (hb1.mono hba.size)
  obtain ⟨a, c, b, o, rfl, ha, hc, hcm, hx⟩ := hat
  have hl1 : xs.length = 1 := hxl
  obtain ⟨x, hx0⟩ := get_ex (l := xs) (k := 0) (by omega)
  have x0 := hx 0 x hx0 0 _ rfl
  have i1 := idx_at (c := c) 1 Tryz.underlying33 (fun w => by kernel_rfl) ha 0 (by omega)
  simp only [Nat.zero_mul, Nat.add_zero] at x0 i1
  rw [hl1] at i1 ⊢
  simp only [Int.natCast_zero] at i1
  have hs0 := hst 0 x [pP1, pP2] hx0 rfl
  have hbc : Below w1.heap.size w1 (w1.alloc (.cells #[S pP1, S pP2] 9)) := (Below.refl _ _).alloc (Nat.le_refl _) _
  have hsm := sameTexts_any (slV x) (.slice (some ⟨w1.heap.size, 0, none⟩) 2 2) [pP1, pP2] [pP1, pP2] _ (hs0.below hbc) (at_row2 (enc := encS) (x := pP1) (y := pP2) (fun _ => rfl) (heap_alloc_new w1 (.cells #[S pP1, S pP2] 9)) rfl)
  rw [decide_eq_true rfl] at hsm
  have HSm := Lib.hid hsm
  clear hsm hs0 hst hx hxl ha hx0 HPl
  go_wp2_with fail
  refine HSm.out.mono ?_
  rintro e w2 ⟨rfl, hb2⟩
  go_wp2_with fail
  go_ret
  exact ⟨rfl, (hbw1.trans (hbc.mono hbw1.size)).trans (hb2.mono (hbw1.trans (hbc.mono hbw1.size)).size)⟩
end Go.Proofs.YtpfohfihkmjnaaaGreatDoor
