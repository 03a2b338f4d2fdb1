/- store: Drop, New. -/
import Derived.Test.YtepdedfmdafnkaaGreatDoorStoreGet
namespace Go.Proofs.YtepdedfmdafnkaaGreatDoor
open Go.RowKit Go.Maps

theorem ownsMap_tight {P : Program} {k : TypeId} {R : Value → Option (DataW Unit × List MemPlace)} {w : World} {b n : Nat} {D : DataW Unit} (h : w.ownsMap P k R b n D) : w.ownsMap P k R b (size D) D := by
  obtain ⟨es, clock, hb, F, _, rfl⟩ := h
  exact ⟨es, clock, hb, F, by simp [size, length_sorted], rfl⟩

def dropE (s : St) (n : Str) : Er := if s.off = true then .bare 12 else if getO s.objs n = none then .bare 6 else .nil
def dropS (s : St) (n : Str) : St := if s.off = true ∨ getO s.objs n = none then s else { s with objs := dropO s.objs n }

theorem mapTurned_but {w w' : World} {sb mb : Nat} (h : w.mapTurned w' mb) : But2 sb mb w w' :=
  ⟨h.grown.os, h.grown.tape, h.grown.output, h.grown.size, fun k hk _ h2 => h.grown.block k hk (fun e => h2 (Option.some.inj e))⟩
theorem mapTurned_blk {w w' : World} {sb mb : Nat} (h : w.mapTurned w' mb) (hne : sb ≠ mb) (hlt : sb < w.heap.size) : w'.heap[sb]? = w.heap[sb]? := h.grown.block sb hlt (fun e => hne (Option.some.inj e))
theorem St.Ok.drop {s : St} (h : s.Ok) (n : Str) : St.Ok { s with objs := dropO s.objs n } :=
  { ris := dropO_rising h.ris n, day0 := h.day0, day1 := h.day1, cut0 := h.cut0, cut1 := h.cut1, txt := fun o ho => h.txt o (List.mem_filter.1 ho).1, nam := fun o ho => h.nam o (List.mem_filter.1 ho).1, num := Nat.le_trans (List.length_filter_le _ _) h.num, hd := h.hd }

/-- delete(m, n). -/
theorem delete_any {w : World} {sb mb : Nat} {s : St} (h : StoreAt w sb mb s) (n : Str) (hn : n.length ≤ 100000) :
    ∃ w', (∀ ty, (Builtin.delete_ #[76, 9] ty #[.map (some mb), S n]).run Tryz.prog w = .ok (.tuple #[]) w') ∧ StoreAt w' sb mb { s with objs := dropO s.objs n } ∧ But2 sb mb w w' := by
  obtain ⟨w', h1, h2, h3⟩ := h.own.drop (string_keyed Tryz.underlying9) Tryz.underlying76 (keyStr hn) 0
  refine ⟨w', fun ty => ?_, ⟨(mapTurned_blk h3 h.ne h.lt).trans h.blk, ?_, h.ok.drop n⟩, mapTurned_but h3⟩
  · exact h1
  · rw [del_mapD] at h2
    have := ownsMap_tight h2
    rwa [size_mapD] at this

set_option maxRecDepth 20000 in
theorem drop_any (E : Nat → Addr) (B : Nat) (sb mb : Nat) (s : St) (n : Str) (w : World) (hE : Errs [6, 12] E B w) (h : StoreAt w sb mb s) (hn : n.length ≤ 100000) :
    Calls Tryz.prog 16 #[stP sb, S n] w fun e w' => ∃ ev, e = .returned ev ∧ ErV E w' ev (dropE s n) ∧ StoreAt w' sb mb (dropS s n) ∧ But2 sb mb w w' := by
  have c0 := h.c0
  have hl := look_any h n hn
  have hba := fun o => (Below.refl w.heap.size w).alloc (Nat.le_refl _) o
  have hE1 := fun o => hE.below' (hba o) hE.le
  have v6 := fun o => (hE1 o).var 6 (by decide)
  have v12 := fun o => (hE1 o).var 12 (by decide)
  simp only [errG] at v6 v12
  unfold dropE dropS
  cases ho : s.off with
  | true =>
    cases hg : getO s.objs n with
    | none =>
      rw [hg] at hl
      simp only [obV, Option.isSome_none] at hl
      have h1 := h.below (hba (.cells #[.string ⟨#[]⟩, .int .i64 0] 81))
      have v12 := v12 (.cells #[.string ⟨#[]⟩, .int .i64 0] 81)
      have c3 := h1.c3
      rw [ho] at c3
      have H := Lib.hid h1
      simp only [if_true, true_or]
      clear h h1 ho hg v6 hba hE1
      go_enter Tryz.func16, Tryz.ntmps16
      go_wp2_with fail
      go_ret
      exact ⟨_, rfl, ⟨by decide, rfl⟩, H.out, .of ((Below.refl _ _).alloc (Nat.le_refl _) _)⟩
    | some o =>
      rw [hg] at hl
      simp only [obV, Option.isSome_some] at hl
      have h1 := h.below (hba (.cells #[S o.text, .int .i64 o.day] 81))
      have v12 := v12 (.cells #[S o.text, .int .i64 o.day] 81)
      have c3 := h1.c3
      rw [ho] at c3
      have H := Lib.hid h1
      simp only [if_true, true_or]
      clear h h1 ho hg v6 hba hE1
      go_enter Tryz.func16, Tryz.ntmps16
      go_wp2_with fail
      go_ret
      exact ⟨_, rfl, ⟨by decide, rfl⟩, H.out, .of ((Below.refl _ _).alloc (Nat.le_refl _) _)⟩
  | false =>
    cases hg : getO s.objs n with
    | none =>
      rw [hg] at hl
      simp only [obV, Option.isSome_none] at hl
      have h1 := h.below (hba (.cells #[.string ⟨#[]⟩, .int .i64 0] 81))
      have v6 := v6 (.cells #[.string ⟨#[]⟩, .int .i64 0] 81)
      have c3 := h1.c3
      rw [ho] at c3
      have H := Lib.hid h1
      simp only [if_true, Bool.false_eq_true, if_false, or_true]
      clear h h1 ho hg v12 hba hE1
      go_enter Tryz.func16, Tryz.ntmps16
      go_wp2_with fail
      go_ret
      exact ⟨_, rfl, ⟨by decide, rfl⟩, H.out, .of ((Below.refl _ _).alloc (Nat.le_refl _) _)⟩
    | some o =>
      rw [hg] at hl
      simp only [obV, Option.isSome_some] at hl
      have h1 := h.below (hba (.cells #[S o.text, .int .i64 o.day] 81))
      have c3 := h1.c3
      have c0' := h1.c0
      rw [ho] at c3
      obtain ⟨w2, hrun, h2, hb2⟩ := delete_any h1 n hn
      have h2 : StoreAt w2 sb mb { objs := dropO s.objs n, head := s.head, day := s.day, off := false, cut := s.cut } := by rw [← ho]; exact h2
      have H := Lib.hid h2
      have Hb := Lib.hid hb2
      simp only [Bool.false_eq_true, if_false, or_false, reduceCtorEq]
      clear h h1 ho hg v6 v12 hba hE1 h2 hb2
      go_enter Tryz.func16, Tryz.ntmps16
      go_wp2_with fail
      go_ret
      exact ⟨_, rfl, rfl, H.out, (But2.of ((Below.refl _ _).alloc (Nat.le_refl _) _)).trans Hb.out⟩

theorem new_any (w : World) :
    Calls Tryz.prog 8 #[] w fun e w' => ∃ sb mb, e = .returned (stP sb) ∧ StoreAt w' sb mb St.new ∧ w.heap.size ≤ sb ∧ w.heap.size ≤ mb ∧ Below w.heap.size w w' := by
  have hmm := @run_makeMap Tryz.prog
  go_enter Tryz.func8, Tryz.ntmps8
  go_wp2_with fail
  go_ret
  have hs : (w.alloc (.map #[] 0)).heap.size = w.heap.size + 1 := by simp
  refine ⟨w.heap.size + 1, w.heap.size, rfl, ⟨?_, ?_, ?_⟩, by omega, Nat.le_refl _, ((Below.refl _ _).alloc (Nat.le_refl _) _).alloc (by simp) _⟩
  · have := heap_alloc_new (w.alloc (.map #[] 0)) (.cells (stCells w.heap.size St.new) 78)
    rw [hs] at this
    exact this
  · exact (World.ownsMap_made w Tryz.prog 9 objElem).alloc _
  · exact { ris := List.Pairwise.nil, day0 := Int.le_refl _, day1 := by decide, cut0 := Int.le_refl _, cut1 := by decide, txt := fun _ h => (by cases h), nam := fun _ h => (by cases h), num := Nat.zero_le _, hd := Nat.zero_le _ }
end Go.Proofs.YtepdedfmdafnkaaGreatDoor
