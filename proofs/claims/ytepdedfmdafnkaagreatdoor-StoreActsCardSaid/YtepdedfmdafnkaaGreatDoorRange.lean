/- A loop over a function's values whose rounds all go on: the caller's invariant need only abide what is new since the loop began. Of no program. -/
import Derived.Test.YtepdedfmdafnkaaGreatDoorMem
import Derived.RangeFuncOwn
import Derived.RangeFuncGives
namespace Go.Proofs.YtepdedfmdafnkaaGreatDoor
open Go.RowKit

/-- What abides turns of blocks from B on that hold no cells. -/
def From {β : Type} (B : Nat) (I : β → World → Prop) : Prop :=
  ∀ s W W' row, I s W → W.grownBy W' row → (∀ r, row = some r → B ≤ r ∧ ∃ o : Obj, W.heap[r]? = some o ∧ o.isCells = false) → I s W'
theorem From.turn {β : Type} {B : Nat} {I : β → World → Prop} (h : From B I) {s : β} {W : World} {l : Nat} {o : Obj} (o' : Obj) (hs : I s W) (hl : W.heap[l]? = some o) (ho : o.isCells = false) (hB : B ≤ l) : I s (W.putObj l o') :=
  h s W _ (some l) hs (grownBy_putObj' W l o') (fun r e => by cases e; exact ⟨hB, o, hl, ho⟩)
theorem From.new {β : Type} {B : Nat} {I : β → World → Prop} (h : From B I) {s : β} {W : World} (o : Obj) (hs : I s W) : I s (W.alloc o) :=
  h s W _ none hs (World.grownBy_alloc W o none) (fun r e => by cases e)

variable {F : Fence} {n : Nat} {P : Program}

theorem rangeAll {α : Type} {g : Operand} {ps : Array Tmp} {assign body : Code} {Q : Exit → Act → World → Prop} {a : Act} {w : World}
    (hro : F.round = none) (h1 : 1 ≤ n) {gf : Nat} {lb : Array Value} (hg : a.eval g = .func (.func gf) #[] lb) (hFg : F.fn gf) (eg : ∀ args w, (callFunc gf args).run P w = .ok (.enter gf args) w)
    {enc : α → Value} {G : List α → Prop} {N : Nat} {w0 : World} (hseq : SeqGives F (n - 1) P gf lb enc G N w0) (hb0 : Below w0.heap.size w0 w) (hps : ps.size = 1)
    (I : List α → World → Prop) (hI : From w.heap.size I) (h0 : I [] w) (M : List α × α × Act → World → Prop) (hM : From w.heap.size M)
    (hassign : ∀ (l : Nat) (pre : List α) (x : α) (W : World), I pre W → pre.length < N →
      assign.wpIn (F.inRound l) (n - 1 - 1) P (Exit.then (fun a₁ W₁ => KeepsOthers W W₁ ∧ M (pre, x, a₁) W₁) (fun _ _ _ => False)) { tmps := (ps.zip #[enc x]).foldl (fun t (p, v) => t.setIfInBounds p v) a.tmps, defers := [] } W)
    (hbody : ∀ (l : Nat) (pre : List α) (x : α) (a₁ : Act) (W : World), M (pre, x, a₁) W → body.wpIn (F.inRound l) (n - 1 - 1) P (fun e _ W' => e = .normal ∧ KeepsOthers W W' ∧ I (pre ++ [x]) W') a₁ W)
    (hdone : ∀ (D : Nat) (xs : List α) (W : World), G xs → I xs W → w.heap.size ≤ D → W.heap[D]? = some (.deferred (some [])) → Q .normal { a with defers := { target := .collected D, args := #[] } :: a.defers } W) :
    (Code.rangeFunc g ps assign body).wpIn F n P Q a w := by
  refine wpIn_rangeFunc fun fn hfn => ?_
  rw [hro]
  generalize hDs : w.heap.size = D at *
  obtain ⟨rec, hrec⟩ : ∃ rec : LoopState → Loop, rec = fun st => { state := st, pending := none, fn, tmps := a.tmps, params := ps, assign, body, defers := D } := ⟨_, rfl⟩
  have rst : ∀ st, (rec st).state = st := fun st => by rw [hrec]
  have rps : ∀ st, (rec st).params = ps := fun st => by rw [hrec]
  have rbusy : ∀ st st', { rec st with state := st' } = rec st' := fun st st' => by rw [hrec]
  obtain ⟨W1, hW1⟩ : ∃ W1, (w.alloc (.deferred (some []))).alloc (.loop (rec .ready)) = W1 := ⟨_, rfl⟩
  have hL1 : W1.heap[D + 1]? = some (.loop (rec .ready)) := by
    rw [← hW1, ← hDs]
    have h := World.alloc_heap_new (w.alloc (.deferred (some []))) (.loop (rec .ready))
    rwa [World.size_alloc] at h
  have hK1 : W1.heap[D]? = some (.deferred (some [])) := by
    rw [← hW1, ← hDs]
    exact (Below.heap_alloc _ _ _ (by simp)).trans (World.alloc_heap_new w _)
  have hb1 : Below w0.heap.size w0 W1 := by
    rw [← hW1]; exact (hb0.alloc hb0.size _).alloc (by have := hb0.size; simp; omega) _
  have hs1 : D ≤ W1.heap.size := by rw [← hW1]; simp; omega
  have hI1 : I [] W1 := by rw [← hW1]; exact hI.new _ (hI.new _ h0)
  refine ⟨D + 1, [{ target := .collected D, args := #[] }], W1, { target := .fn (.func gf) lb, args := #[.func (.yield (D + 1)) #[] #[]] }, W1, gf, #[.func (.yield (D + 1)) #[] #[]] ++ lb, W1, ?_, ?_, ?_, ?_, fun _ => h1, ?_⟩
  · rw [← hW1, hrec, ← hDs]
    exact run_enterLoop_outer _ _ _ _ _
  · simp only [resolve, hg]
    simp [go_sem]
  · intro f' hf'
    simp [Target.leads] at hf'
    subst hf'
    exact hFg
  · simp [invoke, go_sem, eg]
  refine (hseq (D + 1) (fun pre W => I pre W ∧ W.heap[D + 1]? = some (.loop (rec .ready)) ∧ W.heap[D]? = some (.deferred (some []))) W1 hb1 ?_ ?_ ⟨hI1, hL1, hK1⟩).mono ?_
  · rintro s A B row ⟨hi, hl, hk⟩ hg' hr
    refine ⟨hI s A B row hi hg' (fun r e => ?_), (grownBy_keeps hg' (fun r e => (hr r e).2) hl rfl).trans hl, (grownBy_keeps hg' (fun r e => (hr r e).2) hk rfl).trans hk⟩
    obtain ⟨h2, o, ho, hw⟩ := hr r e
    exact ⟨Nat.le_trans hs1 h2, o, ho, Obj.not_cells_of_walk hw⟩
  · rintro pre x W ⟨hi, hl, hk⟩ hlen
    refine ⟨fn, _, assign, body, ?_, roundIn_of_wpIn hfn (wpIn_mono (hassign (D + 1) pre x W hi hlen) ?_)⟩
    · have hy := run_yield (P := P) (args := #[enc x]) hl (by rw [rps, hps]; rfl)
      rw [hrec] at hy
      exact hy
    · intro e a1 W0 hp
      cases e with
      | normal =>
        obtain ⟨hk0, hm⟩ := hp
        have hl := hk0.same _ _ hl rfl
        have hk := hk0.same _ _ hk rfl
        have hlt : D + 1 < W0.heap.size := (Array.getElem?_eq_some_iff.1 hl).1
        refine ⟨_, run_beginRound hl (rst _), ?_⟩
        rw [rbusy]
        have hl2 : (W0.putObj (D + 1) (.loop (rec .busy))).heap[D + 1]? = some (.loop (rec .busy)) := World.putObj_heap_same hlt
        have hk2 : (W0.putObj (D + 1) (.loop (rec .busy))).heap[D]? = some (.deferred (some [])) := (World.putObj_heap_other (by omega)).trans hk
        have hw2 : KeepsWalks W0 (W0.putObj (D + 1) (.loop (rec .busy))) := KeepsWalks.putObj _ hl rfl
        refine wpIn_mono (hbody _ pre x a1 _ (hM.turn _ hm hl rfl (by omega))) ?_
        rintro e a3 W3 ⟨rfl, hk3, hi3⟩
        have hl3 := hk3.same _ _ hl2 rfl
        have hr := run_endRound (P := P) none hl3
        have hfin : { rec .busy with state := if (none : Option Code).isNone then LoopState.ready else .done, pending := none } = rec .ready := by rw [hrec]; rfl
        rw [hfin] at hr
        exact ⟨_, _, hr, rfl, ⟨hI.turn _ hi3 hl3 rfl (by omega), World.putObj_heap_same (Array.getElem?_eq_some_iff.1 hl3).1, (World.putObj_heap_other (by omega)).trans (hk3.same _ _ hk2 rfl)⟩, ((hk0.walks.trans hw2).trans hk3.walks).trans (KeepsWalks.putObj _ hl3 rfl)⟩
      | _ => exact hp.elim
  · rintro e W2 ⟨⟨v, rfl⟩, xs, hG, hi, hl, hk⟩
    have hend := run_endLoop (P := P) hl (by rw [rst]; simp)
    have hp : (rec .ready).pending = none := by rw [hrec]
    rw [hp] at hend
    exact ⟨none, _, hend, hdone D xs _ hG (hI.turn _ hi hl rfl (by omega)) (Nat.le_refl _) ((World.putObj_heap_other (by omega)).trans hk)⟩
end Go.Proofs.YtepdedfmdafnkaaGreatDoor
