/- Laws of what a snap has: plain. gone.Make: the walk. deedboxref3.With: the walk. deedboxref1.RisingOf: the walk. deedboxlaw1.goned: a closed fact of files of keys. deedboxlaw1.known: a closed fact of what is known of a file. What is known of a file of rows that was made: plain. A table of pieces, in plain words: a store, and what is known of its files. Of no program. Snaps in memory; snap.in, snap.Check, slices.Contains at texts. snap.Text: the walk. snap.Read: the walk. deedboxref2.SameFiles. deedboxlaw2.one, listed. -/
import Derived.Test.YtpfohfihkmjnaaaGreatDoorP14
import Derived.Test.YtpfohfihkmjnaaaGreatDoorP9
import Derived.Test.YtpfohfihkmjnaaaGreatDoorP13
import Derived.Test.YtpfohfihkmjnaaaGreatDoorP5
import Derived.Test.YtpfohfihkmjnaaaGreatDoorP2
import Derived.Test.YtpfohfihkmjnaaaGreatDoorP1
import Derived.Outline
import Derived.Deep.CutBlock
import Derived.Deep.DeepCutAuto
import Derived.Deep.RegionWith
import Derived.Test.YtpfohfihkmjnaaaGreatDoorP6
import Derived.Test.YtpfohfihkmjnaaaGreatDoorP8
import Derived.Deep.RegionHeld3
import Derived.BigQuiet
import Derived.Test.YtpfohfihkmjnaaaGreatDoorP4
import Derived.Test.YtpfohfihkmjnaaaGreatDoorP7
import Derived.Laws.StructEq
import Derived.Test.YtpfohfihkmjnaaaGreatDoorP10
namespace Go.Proofs.YtpfohfihkmjnaaaGreatDoor
open Go.RowKit

abbrev iMin : Int := -9223372036854775808
abbrev iMax : Int := 9223372036854775807

theorem within_sort (l : List Rw) (lo hi : Int) : withinR (sortR l) lo hi = sortR (withinR l lo hi) :=
  sort_of ((sort_up l).filter _) ((sort_perm l).filter _)
theorem drop_sort (l : List Rw) (ks : List Int) : dropR (sortR l) ks = sortR (dropR l ks) :=
  sort_of ((sort_up l).filter _) ((sort_perm l).filter _)
theorem flatMap_filter {α β : Type} {p : α → Bool} {g : α → List β} : ∀ {l : List α}, (∀ x ∈ l, p x = false → g x = []) → (l.filter p).flatMap g = l.flatMap g
  | [], _ => rfl
  | x :: l, h => by
    have ih := flatMap_filter (l := l) fun y hy => h y (by simp [hy])
    cases hp : p x with
    | true => rw [List.filter_cons_of_pos hp, List.flatMap_cons, List.flatMap_cons, ih]
    | false => rw [List.filter_cons_of_neg (by rw [hp]; decide), List.flatMap_cons, h x (by simp) hp, ih]; rfl
theorem flatMap_same {α β : Type} {f g : α → List β} : ∀ {l : List α}, (∀ x ∈ l, f x = g x) → l.flatMap f = l.flatMap g
  | [], _ => rfl
  | x :: l, h => by rw [List.flatMap_cons, List.flatMap_cons, h x (by simp), flatMap_same fun y hy => h y (by simp [hy])]
theorem filter_flatMap {α β : Type} (p : β → Bool) (g : α → List β) : ∀ l : List α, (l.flatMap g).filter p = l.flatMap fun x => (g x).filter p
  | [] => rfl
  | x :: l => by rw [List.flatMap_cons, List.filter_append, filter_flatMap p g l, List.flatMap_cons]
theorem prune_far {l : List Fl} {lo hi : Int} (h : ∀ f ∈ l, checkF f = 0) (h1 : lo ≤ -1073741824) (h2 : 1073741824 ≤ hi) : pruneL l lo hi = l := by
  refine List.filter_eq_self.2 fun f hf => ?_
  have := (check_near (h f hf)).1
  unfold pruneP
  simp only [Bool.not_eq_true', decide_eq_false_iff_not]
  omega
theorem within_far {l : List Rw} {lo hi a b : Int} (h : ∀ r ∈ l, a ≤ r.key ∧ r.key ≤ b) (h1 : lo ≤ a) (h2 : b ≤ hi) : withinR l lo hi = l := by
  refine List.filter_eq_self.2 fun r hr => ?_
  have := h r hr
  simp [withinP]; omega
theorem left_far {os : List Ob} {l : List Fl} {lo hi : Int} {f : Fl} (h : fileE os f = 0) (h1 : lo ≤ -1073741824) (h2 : 1073741824 ≤ hi) : leftO os l lo hi f = (rowsO os f).filter fun x => !killed os l f.seq x.key := by
  have hn := (check_near (read_known h).1).1
  unfold leftO
  rw [within_far (rowsO_range h) (by omega) (by omega)]
/-- However far the keys are asked. -/
theorem rowsE_far {os : List Ob} {s : Sn} {lo hi : Int} (h1 : lo ≤ -1073741824) (h2 : 1073741824 ≤ hi) : rowsE os s lo hi = rowsE os s iMin iMax := by
  unfold rowsE
  split
  · rfl
  · rename_i h
    have hr := (snap_iff s).1 (Decidable.not_not.1 h)
    congr 1
    funext i
    unfold scanF
    cases hi' : s.files[i]? with
    | none => rfl
    | some f =>
      have hn := (check_near (hr.lst.ok f (List.mem_of_getElem? hi'))).1
      simp only
      rw [if_neg (by unfold pruneP; simp; omega), if_neg (by unfold pruneP; simp [iMin, iMax]; omega)]
theorem rowsL_far {os : List Ob} {s : Sn} {lo hi : Int} (h1 : lo ≤ -1073741824) (h2 : 1073741824 ≤ hi) : rowsL os s lo hi = rowsL os s iMin iMax := by
  unfold rowsL
  rw [rowsE_far h1 h2]
  split
  · rename_i h
    obtain ⟨hr, hf⟩ := rowsE_nil h
    have e1 := prune_far (lo := lo) (hi := hi) hr.lst.ok h1 h2
    have e2 := prune_far (lo := iMin) (hi := iMax) hr.lst.ok (by decide) (by decide)
    rw [e2] at hf
    rw [e1, e2]
    congr 1
    refine flatMap_same fun f hm => ?_
    rw [left_far (hf f hm) h1 h2, left_far (hf f hm) (by decide) (by decide)]
  · rfl
theorem allO_full {os : List Ob} {l : List Fl} (h : ∀ f ∈ l, fileE os f = 0) : allO os (pruneL l iMin iMax) iMin iMax = l.flatMap fun f => (rowsO os f).filter fun x => !killed os l f.seq x.key := by
  rw [prune_far (fun f hf => (read_known (h f hf)).1) (by decide) (by decide)]
  exact flatMap_same fun f hm => left_far (h f hm) (by decide) (by decide)
theorem rowsE_full {os : List Ob} {s : Sn} : rowsE os s iMin iMax = .nil ↔ RightSn s ∧ ∀ f ∈ s.files, fileE os f = 0 := by
  constructor
  · intro h
    obtain ⟨hr, hf⟩ := rowsE_nil h
    rw [prune_far hr.lst.ok (by decide) (by decide)] at hf
    exact ⟨hr, hf⟩
  · rintro ⟨hr, hf⟩
    exact rowsE_of hr fun g hg => hf g (List.mem_filter.1 hg).1
theorem rowsL_full {os : List Ob} {s : Sn} (h : rowsE os s iMin iMax = .nil) : rowsL os s iMin iMax = sortR (s.files.flatMap fun f => (rowsO os f).filter fun x => !killed os s.files f.seq x.key) := by
  unfold rowsL
  rw [if_pos h, allO_full (rowsE_full.1 h).2]
/-- GRAEFE: rows of some keys are all rows, of these keys. -/
theorem rows_prune {os : List Ob} {s : Sn} (lo hi : Int) (h : rowsE os s iMin iMax = .nil) : rowsE os s lo hi = .nil ∧ rowsL os s lo hi = withinR (rowsL os s iMin iMax) lo hi := by
  obtain ⟨hr, hf⟩ := rowsE_full.1 h
  have h1 : rowsE os s lo hi = .nil := rowsE_of hr fun g hg => hf g (List.mem_filter.1 hg).1
  refine ⟨h1, ?_⟩
  rw [rowsL_full h, within_sort]
  unfold rowsL
  rw [if_pos h1]
  congr 1
  unfold withinR allO
  rw [filter_flatMap]
  have hk : ∀ q k, lo ≤ k → k ≤ hi → killed os (pruneL s.files lo hi) q k = killed os s.files q k := by
    intro q k hk1 hk2
    unfold killed
    rw [Bool.eq_iff_iff, List.any_eq_true, List.any_eq_true]
    constructor
    · rintro ⟨g, hg, h'⟩
      exact ⟨g, (List.mem_filter.1 hg).1, h'⟩
    · rintro ⟨g, hg, h'⟩
      refine ⟨g, List.mem_filter.2 ⟨hg, ?_⟩, h'⟩
      simp only [Bool.and_eq_true, decide_eq_true_eq] at h'
      have := keysO_range (hf g hg) k h'.2
      unfold pruneP
      simp only [Bool.not_eq_true', decide_eq_false_iff_not]
      omega
  have hstep : ∀ f ∈ s.files, leftO os (pruneL s.files lo hi) lo hi f = ((rowsO os f).filter fun x => !killed os s.files f.seq x.key).filter fun r => !withinP lo hi r := by
    intro f hm
    unfold leftO withinR
    rw [List.filter_filter, List.filter_filter]
    refine List.filter_congr fun r _ => ?_
    cases hw : withinP lo hi r with
    | true => simp
    | false =>
      unfold withinP at hw
      simp only [Bool.or_eq_false_iff, decide_eq_false_iff_not] at hw
      rw [hk f.seq r.key (by omega) (by omega)]
      simp
  unfold pruneL
  rw [flatMap_filter]
  · exact flatMap_same hstep
  · intro f hm hp
    have hs := hstep f hm
    unfold pruneL at hs
    rw [hs, List.filter_filter, List.filter_eq_nil_iff]
    intro r hr'
    have := rowsO_range (hf f hm) r hr'
    have hp' : pruneP lo hi f = true := by simpa using hp
    unfold pruneP at hp'
    simp only [decide_eq_true_eq] at hp'
    simp [withinP]
    omega

theorem killed_perm {os : List Ob} {l m : List Fl} (h : l.Perm m) (q k : Int) : killed os l q k = killed os m q k := by
  unfold killed
  rw [Bool.eq_iff_iff, List.any_eq_true, List.any_eq_true]
  exact ⟨fun ⟨g, hg, h'⟩ => ⟨g, h.mem_iff.1 hg, h'⟩, fun ⟨g, hg, h'⟩ => ⟨g, h.mem_iff.2 hg, h'⟩⟩
theorem rowsO_gone {os : List Ob} {f : Fl} (h : isG f = true) : rowsO os f = [] := if_pos h
theorem keysO_data {os : List Ob} {f : Fl} (h : isG f = false) : keysO os f = [] := if_neg (by rw [h]; decide)
/-- A file of keys more. -/
theorem rows_placed {os : List Ob} {s s' : Sn} {f : Fl} (h : rowsE os s iMin iMax = .nil) (hr : RightSn s') (hfs : s'.files = placeF f s.files) (hg : isG f = true) (hf : fileE os f = 0) :
    rowsE os s' iMin iMax = .nil ∧ rowsL os s' iMin iMax = sortR (s.files.flatMap fun g => ((rowsO os g).filter fun x => !killed os s.files g.seq x.key).filter fun x => !(decide (g.seq < f.seq) && decide (x.key ∈ keysO os f))) := by
  obtain ⟨-, hfl⟩ := rowsE_full.1 h
  have h1 : rowsE os s' iMin iMax = .nil := rowsE_full.2 ⟨hr, fun g hm => by
    rw [hfs] at hm
    rcases mem_placeF.1 hm with rfl | hm
    · exact hf
    · exact hfl g hm⟩
  refine ⟨h1, ?_⟩
  rw [rowsL_full h1, sort_eq, hfs]
  have hp := placeF_perm f s.files
  refine (hp.flatMap_right _).trans ?_
  rw [List.flatMap_cons, rowsO_gone hg, List.filter_nil, List.nil_append]
  refine List.Perm.of_eq (flatMap_same fun g hm => ?_)
  rw [List.filter_filter]
  refine List.filter_congr fun x _ => ?_
  rw [killed_perm hp, killed_cons]
  cases killed os s.files g.seq x.key <;> simp
/-- One that is newer than all takes all rows of these keys. -/
theorem rows_newer {os : List Ob} {s s' : Sn} {f : Fl} (h : rowsE os s iMin iMax = .nil) (hr : RightSn s') (hfs : s'.files = placeF f s.files) (hg : isG f = true) (hf : fileE os f = 0) (hq : s.seq < f.seq) :
    rowsE os s' iMin iMax = .nil ∧ rowsL os s' iMin iMax = dropR (rowsL os s iMin iMax) (keysO os f) := by
  obtain ⟨h1, h2⟩ := rows_placed h hr hfs hg hf
  refine ⟨h1, ?_⟩
  rw [h2, rowsL_full h, drop_sort]
  congr 1
  unfold dropR
  rw [filter_flatMap]
  refine flatMap_same fun g hm => List.filter_congr fun x _ => ?_
  have := (rowsE_full.1 h).1.sq g hm
  rw [decide_eq_true (show g.seq < f.seq by omega), Bool.true_and]
/-- One that is as old as the oldest takes none. -/
theorem rows_older {os : List Ob} {s s' : Sn} {f : Fl} (h : rowsE os s iMin iMax = .nil) (hr : RightSn s') (hfs : s'.files = placeF f s.files) (hg : isG f = true) (hf : fileE os f = 0) (hq : f.seq ≤ 1) :
    rowsE os s' iMin iMax = .nil ∧ rowsL os s' iMin iMax = rowsL os s iMin iMax := by
  obtain ⟨h1, h2⟩ := rows_placed h hr hfs hg hf
  refine ⟨h1, ?_⟩
  rw [h2, rowsL_full h]
  congr 1
  refine flatMap_same fun g hm => List.filter_eq_self.2 fun x _ => ?_
  have := (check_near ((rowsE_full.1 h).1.lst.ok g hm)).2.1
  rw [decide_eq_false (show ¬ g.seq < f.seq by omega)]
  rfl

/-- A snap with some files less: those of keys that take nothing. -/
def idleF (l : List Fl) (g : Fl) : Bool := isG g && !(l.any fun f => !isG f && decide (f.seq < g.seq))
theorem rows_idle {os : List Ob} {s s' : Sn} (h : rowsE os s iMin iMax = .nil) (hr : RightSn s') (hfs : s'.files = s.files.filter fun g => !idleF s.files g) :
    rowsE os s' iMin iMax = .nil ∧ rowsL os s' iMin iMax = rowsL os s iMin iMax := by
  obtain ⟨-, hfl⟩ := rowsE_full.1 h
  have h1 : rowsE os s' iMin iMax = .nil := rowsE_full.2 ⟨hr, fun g hm => by
    rw [hfs] at hm
    exact hfl g (List.mem_filter.1 hm).1⟩
  refine ⟨h1, ?_⟩
  rw [rowsL_full h1, rowsL_full h, hfs]
  congr 1
  have hk : ∀ f ∈ s.files, isG f = false → ∀ k, killed os (s.files.filter fun g => !idleF s.files g) f.seq k = killed os s.files f.seq k := by
    intro f hm hg k
    unfold killed
    rw [Bool.eq_iff_iff, List.any_eq_true, List.any_eq_true]
    constructor
    · rintro ⟨g, hg, h'⟩
      exact ⟨g, (List.mem_filter.1 hg).1, h'⟩
    · rintro ⟨g, hgm, h'⟩
      refine ⟨g, List.mem_filter.2 ⟨hgm, ?_⟩, h'⟩
      simp only [Bool.and_eq_true, decide_eq_true_eq] at h'
      unfold idleF
      have : (s.files.any fun f => !isG f && decide (f.seq < g.seq)) = true := List.any_eq_true.2 ⟨f, hm, by rw [hg, decide_eq_true h'.1]; rfl⟩
      rw [this]
      simp
  rw [flatMap_filter]
  · refine flatMap_same fun f hm => ?_
    cases hg : isG f with
    | true => rw [rowsO_gone hg]; rfl
    | false => exact List.filter_congr fun x _ => by rw [hk f hm hg]
  · intro f hm hp
    have : isG f = true := by
      unfold idleF at hp
      cases hg : isG f with
      | true => rfl
      | false => rw [hg] at hp; simp at hp
    rw [rowsO_gone this]; rfl
/-- Some files' rows, behind all files of keys. -/
def someF (ps : List Str) (f : Fl) : Bool := isG f || decide (f.path ∈ ps)
theorem rows_some {os : List Ob} {s s' : Sn} (ps : List Str) (h : rowsE os s iMin iMax = .nil) (hr : RightSn s') (hfs : s'.files = s.files.filter (someF ps)) :
    rowsE os s' iMin iMax = .nil ∧ (rowsL os s' iMin iMax).Perm ((s.files.filter fun f => decide (f.path ∈ ps)).flatMap fun f => (rowsO os f).filter fun x => !killed os s.files f.seq x.key) := by
  obtain ⟨-, hfl⟩ := rowsE_full.1 h
  have h1 : rowsE os s' iMin iMax = .nil := rowsE_full.2 ⟨hr, fun g hm => by
    rw [hfs] at hm
    exact hfl g (List.mem_filter.1 hm).1⟩
  refine ⟨h1, ?_⟩
  rw [rowsL_full h1, hfs]
  refine (sort_perm _).trans (List.Perm.of_eq ?_)
  have hk : ∀ q k, killed os (s.files.filter (someF ps)) q k = killed os s.files q k := by
    intro q k
    unfold killed
    rw [Bool.eq_iff_iff, List.any_eq_true, List.any_eq_true]
    constructor
    · rintro ⟨g, hg, h'⟩
      exact ⟨g, (List.mem_filter.1 hg).1, h'⟩
    · rintro ⟨g, hgm, h'⟩
      refine ⟨g, List.mem_filter.2 ⟨hgm, ?_⟩, h'⟩
      cases hg : isG g with
      | true => unfold someF; rw [hg]; rfl
      | false => rw [keysO_data hg] at h'; simp at h'
  simp only [hk]
  have e : (s.files.filter fun f => decide (f.path ∈ ps)) = (s.files.filter (someF ps)).filter fun f => decide (f.path ∈ ps) := by
    rw [List.filter_filter]
    refine List.filter_congr fun f _ => ?_
    unfold someF
    cases isG f <;> cases decide (f.path ∈ ps) <;> rfl
  rw [e, flatMap_filter (p := fun f : Fl => decide (f.path ∈ ps))]
  intro f hm hp
  have hs := (List.mem_filter.1 hm).2
  unfold someF at hs
  rw [hp, Bool.or_false] at hs
  rw [rowsO_gone hs]; rfl
end Go.Proofs.YtpfohfihkmjnaaaGreatDoor
namespace Go.Proofs.YtpfohfihkmjnaaaGreatDoor
open Go.RowKit

theorem idx_far (l : List Int) : (idxVal (fun n => decide (farN n)) l = -1 ∧ firstErr (farF l) l.length = .nil) ∨ (∃ k : Nat, idxVal (fun n => decide (farN n)) l = k ∧ firstErr (farF l) l.length = .loc 2 k) := by
  unfold idxVal
  cases h : l.findIdx? (fun n => decide (farN n)) with
  | none =>
    refine .inl ⟨rfl, firstErr_all fun j hj => ?_⟩
    have := List.findIdx?_eq_none_iff.1 h l[j] (List.getElem_mem hj)
    unfold farF
    rw [List.getElem?_eq_getElem hj]
    simp only
    rw [if_neg (by simpa using this)]
  | some k =>
    obtain ⟨hk, hp, hlt⟩ := List.findIdx?_eq_some_iff_getElem.1 h
    refine .inr ⟨k, rfl, ?_⟩
    have e : farF l k = 2 := by
      unfold farF
      rw [List.getElem?_eq_getElem hk]
      simp only
      rw [if_pos (by simpa using hp)]
    rw [firstErr_hit hk (fun j hj => ?_) (by rw [e]; decide), e]
    have := hlt j hj
    unfold farF
    rw [List.getElem?_eq_getElem (by omega)]
    simp only
    rw [if_neg (by simpa using this)]
theorem near_all {l : List Int} (h : firstErr (farF l) l.length = .nil) : ∀ n ∈ l, ¬ farN n := fun n hn hf => by
  obtain ⟨j, hj, he⟩ := List.getElem_of_mem hn
  have := firstErr_nil h j hj
  unfold farF at this
  rw [List.getElem?_eq_getElem hj, he] at this
  simp only at this
  rw [if_pos hf] at this
  cases this
end Go.Proofs.YtpfohfihkmjnaaaGreatDoor
namespace Go.Proofs.YtpfohfihkmjnaaaGreatDoor
open Go.RowKit

theorem less_bef' : ∀ a b : Str, Op.bytesLess a b = bef a b
  | [], [] => by simp [Op.bytesLess, bytesBefore]
  | [], _ :: _ => by simp [Op.bytesLess, bytesBefore]
  | _ :: _, [] => by simp [Op.bytesLess, bytesBefore]
  | a :: r, b :: s => by
    have ih := less_bef' r s
    show Op.bytesLess (a :: r) (b :: s) = (decide (a < b) || (a == b && bytesBefore r s))
    unfold Op.bytesLess
    rw [ih]
theorem at_take {α : Type} {enc : α → List Value} {sz : Nat} {w : World} {a : Option Addr} {n c : Nat} {l : List α} (h : At enc sz w (.slice a n c) l) {k : Nat} (hk : k ≤ l.length) : At enc sz w (.slice a k c) (l.take k) := by
  obtain ⟨a', c', b, o, hv, ha, hc, hm, hx⟩ := h
  cases hv
  have hl : (l.take k).length = k := by rw [List.length_take]; omega
  refine ⟨a, c, b, o, by rw [hl], fun h0 => ha (by omega), by omega, hm, fun i x hi j u hu => hx i x ?_ j u hu⟩
  rw [List.getElem?_take] at hi
  split at hi
  · exact hi
  · cases hi
theorem at_drop {α : Type} {enc : α → List Value} {sz : Nat} {w : World} {b o n c : Nat} {l : List α} (h : At enc sz w (.slice (some ⟨b, o, none⟩) n c) l) {k : Nat} (hk : k ≤ l.length) : At enc sz w (.slice (some ⟨b, o + k * sz, none⟩) (n - k) (c - k)) (l.drop k) := by
  obtain ⟨a', c', b', o', hv, ha, hc, hm, hx⟩ := h
  cases hv
  have hl : (l.drop k).length = l.length - k := List.length_drop
  refine ⟨_, c - k, b, o + k * sz, by rw [hl], fun _ => rfl, by omega, by omega, fun i x hi j u hu => ?_⟩
  rw [List.getElem?_drop] at hi
  have hlt := (List.getElem?_eq_some_iff.1 hi).1
  have h1 := hx _ x hi j u hu
  have h2 := ha (by omega)
  simp only [Option.some.injEq, Addr.mk.injEq, and_true] at h2
  obtain ⟨rfl, rfl⟩ := h2
  rw [show o + k * sz + i * sz + j = o + (k + i) * sz + j by rw [Nat.add_mul]; omega]
  exact h1

/-- s[:k] and s[k:] of a slice. -/
theorem sl_to {α : Type} {P : Program} {t e : TypeId} {enc : α → List Value} {sz : Nat} {w : World} {a : Option Addr} {c : Nat} {l : List α} (ht : P.underlying t = some (.slice e)) (hsz : ∀ w, (sizeOf e).run P w = .ok sz w) (h : At enc sz w (.slice a l.length c) l) (k : Nat) (hk : k ≤ l.length) :
    (∀ W, (Instr.slice t (.slice a l.length c) none (some (.int .i64 (k : Int))) none).run P W = .ok (.slice a k c) W) ∧ At enc sz w (.slice a k c) (l.take k) := by
  refine ⟨fun W => ?_, at_take h hk⟩
  have hc : l.length ≤ c := by obtain ⟨_, _, _, _, hv, _, hc, _⟩ := h; cases hv; exact hc
  have h2 : (k : Int) ≤ (c : Int) := by omega
  cases a with
  | none => simp [Instr.slice, Instr.sliceBounds, run_underlying ht, hsz, go_sem, h2]
  | some ad =>
    simp [Instr.slice, Instr.sliceBounds, run_underlying ht, hsz, go_sem, h2]
theorem sl_from {α : Type} {P : Program} {t e : TypeId} {enc : α → List Value} {sz : Nat} {w : World} {a : Option Addr} {c : Nat} {l : List α} (ht : P.underlying t = some (.slice e)) (hsz : ∀ w, (sizeOf e).run P w = .ok sz w) (h : At enc sz w (.slice a l.length c) l) (k : Nat) (hk : k ≤ l.length) :
    ∃ a2 c2, (∀ W, (Instr.slice t (.slice a l.length c) (some (.int .i64 (k : Int))) none none).run P W = .ok (.slice a2 (l.length - k) c2) W) ∧ At enc sz w (.slice a2 (l.length - k) c2) (l.drop k) := by
  obtain ⟨a', c', b, o, hv, ha, hc, hm, hx⟩ := h
  cases hv
  rcases Nat.eq_zero_or_pos l.length with h0 | h0
  · have hk0 : k = 0 := by omega
    subst hk0
    refine ⟨a, c, fun W => ?_, ⟨a, c, b, o, by rw [List.length_drop], fun h => absurd h (by rw [List.length_drop]; omega), by rw [List.length_drop]; omega, hm, fun j y hj => absurd (List.getElem?_eq_some_iff.1 hj).1 (by rw [List.length_drop]; omega)⟩⟩
    have h3 : (0 : Int) ≤ (c : Int) := by omega
    cases a with
    | none => simp [Instr.slice, Instr.sliceBounds, run_underlying ht, hsz, go_sem, h0]
    | some ad =>
      have h0' : ad.add 0 = ad := by unfold Addr.add; split <;> simp_all
      simp [Instr.slice, Instr.sliceBounds, run_underlying ht, hsz, go_sem, h0, h0']
  · obtain rfl := ha h0
    have hadd : (⟨b, o, none⟩ : Addr).add (k * sz) = ⟨b, o + k * sz, none⟩ := by unfold Addr.add; split <;> simp_all
    by_cases h : c = k
    · refine ⟨some ⟨b, o, none⟩, c - k, fun W => ?_, ?_⟩
      · have hk' : (k : Int) ≤ l.length := by omega
        simp [Instr.slice, Instr.sliceBounds, run_underlying ht, hsz, hk, h, go_sem]
      · have hl : l.length = k := by omega
        refine ⟨_, c - k, b, o, by rw [List.length_drop], fun _ => rfl, by simp; omega, by omega, fun i x hi j u hu => ?_⟩
        rw [List.drop_of_length_le (by omega)] at hi; simp at hi
    · refine ⟨some ⟨b, o + k * sz, none⟩, c - k, fun W => ?_, ?_⟩
      · have hk' : (k : Int) ≤ l.length := by omega
        simp [Instr.slice, Instr.sliceBounds, run_underlying ht, hsz, hk, h, go_sem]
      · refine ⟨_, c - k, b, o + k * sz, by rw [List.length_drop], fun _ => rfl, by simp; omega, by omega, fun i x hi j u hu => ?_⟩
        rw [List.getElem?_drop] at hi
        have := hx (k + i) x hi j u hu
        rwa [show o + k * sz + i * sz + j = o + (k + i) * sz + j by rw [Nat.add_mul]; omega]

end Go.Proofs.YtpfohfihkmjnaaaGreatDoor
namespace Go.Proofs.YtpfohfihkmjnaaaGreatDoor
open Go.RowKit

set_option maxHeartbeats 2000000 in
set_option maxRecDepth 20000 in
theorem risingOf_any (v : Value) (l : List Int) (w : World) (hl : IntsAt w v l) (hn : l.length ≤ 10000) :
    Calls Tryz.prog 76 #[v] w fun e w' => ∃ v', e = .returned v' ∧ IntsAt w' v' (risOf l) ∧ Below w.heap.size w w' := by
  obtain ⟨a, c, b, o, rfl, ha, hc, hcm, hx⟩ := hl
  unfold maxLen at hcm
  go_enter Tryz.func76, Tryz.ntmps76
  go_wp2_with fail
  go_loopw [3, 4] (fun u i wr => ∃ (k : Nat) (q : List Int), k ≤ l.length ∧ i = .int .i64 k ∧ Hid (q = risOf (l.take k)) ∧ q.length ≤ k ∧ IntsAt wr u q ∧ Below w.heap.size w wr) (fun _ i _ => l.length - (intOf i).toNat)
  case atStart => exact ⟨0, [], by omega, rfl, Lib.hid rfl, by simp, At.nil _ _ _, Below.refl _ _⟩
  case round =>
    obtain ⟨k, q, hk, rfl, hq, hql, hu, hb⟩ := hrel
    obtain ⟨wo, rfl⟩ : ∃ wo, wo = wr := ⟨wr, rfl⟩
    by_cases hlt : k < l.length
    case neg =>
      obtain rfl : k = l.length := by omega
      have f : decide ((l.length : Int) < (l.length : Int)) = false := by simp
      have HE : Hid (q = risOf l) := Lib.hid (by rw [hq.out, List.take_length])
      clear hql
      go_wp2_with fail
      go_ret
      exact ⟨_, rfl, by rw [← HE.out]; exact hu, hb⟩
    obtain ⟨x, hxk⟩ := get_ex hlt
    have CX := Lib.hid (fun W (h : Below w.heap.size w W) => (h.cell (World.block_lt_of_cell? w _ (hx k x hxk 0 _ rfl))).trans (hx k x hxk 0 _ rfl))
    have i1 := idx_at (c := c) 1 Tryz.underlying69 szInt ha k hlt
    simp only [Nat.mul_one, Nat.add_zero] at CX i1
    have hk1 : (k : Int) < (l.length : Int) := by omega
    have HQ2 : Hid (risOf (l.take (k + 1)) = withI q x) := Lib.hid (by rw [take_snoc' hxk, risOf_snoc, hq.out])
    have HU := Lib.hid hu
    obtain ⟨au, cu, bu, ou, rfl, hau, hcu, hcmu, hxu⟩ := hu
    unfold maxLen at hcmu
    have CQ := Lib.hid (fun p y (hy : q[p]? = some y) W (h : Below wo.heap.size wo W) => (h.cell (World.block_lt_of_cell? wo _ (hxu p y hy 0 _ rfl))).trans (hxu p y hy 0 _ rfl))
    simp only [Nat.mul_one, Nat.add_zero] at CQ
    clear hq hxk hxu
    go_upto_block 2 with fail
    go_cut [5] (fun u wx => ∃ p : Nat, u = .int .i64 p ∧ p ≤ q.length ∧ (∀ j < p, ∀ y, q[j]? = some y → y < x) ∧ (∀ y, q[p]? = some y → x ≤ y) ∧ Below wo.heap.size wo wx)
    case first =>
      go_wp2_with fail
      go_loopw [5] (fun u wx => ∃ p : Nat, u = .int .i64 p ∧ p ≤ q.length ∧ Hid (∀ j < p, ∀ y, q[j]? = some y → y < x) ∧ Below wo.heap.size wo wx) (fun i _ => q.length - (intOf i).toNat)
      case atStart => exact ⟨0, rfl, by omega, Lib.hid fun j hj => absurd hj (by omega), Below.refl _ _⟩
      case round =>
        obtain ⟨p, rfl, hp, hj, hbx⟩ := hrel
        by_cases hpl : p < q.length
        case neg =>
          have f : decide ((p : Int) < (q.length : Int)) = false := by simp; omega
          go_wp2_with fail
          go_quiet (fail)
          go_wp2_with fail
          go_meet
          refine ⟨p, rfl, hp, hj.out, fun y hy => ?_, Bdn hbx _⟩
          rw [List.getElem?_eq_none (by omega)] at hy
          cases hy
        obtain ⟨y, hy⟩ := get_ex hpl
        have q0 := CQ.out p y hy _ hbx
        have c0 := CX.out _ (hb.trans (hbx.mono hb.size))
        have i2 := idx_at (c := cu) 1 Tryz.underlying69 szInt hau p hpl
        simp only [Nat.mul_one] at i2
        have f : (p : Int) < (q.length : Int) := by omega
        have HY := Lib.hid hy
        clear hy
        by_cases hyx : y < x
        case pos =>
          have HYX := Lib.hid hyx
          go_wp2_with fail
          go_quiet (fail)
          go_wp2_with fail
          go_roundw
          case rel => exact ⟨p + 1, by go_num, by omega, (Lib.hid fun j hj' z hz => by
            rcases Nat.lt_or_ge j p with h | h
            · exact hj.out j h z hz
            · obtain rfl : j = p := by omega
              rw [HY.out] at hz
              cases hz
              exact HYX.out), Bdn hbx _⟩
          case measure => simp [intOf]; omega
        · have gyx : decide (y < x) = false := by simpa using hyx
          have HYX := Lib.hid hyx
          clear hyx
          go_wp2_with fail
          go_quiet (fail)
          go_wp2_with fail
          go_meet
          refine ⟨p, rfl, hp, hj.out, fun z hz => ?_, Bdn hbx _⟩
          rw [HY.out] at hz
          cases hz
          have := HYX.out
          omega
    case rest =>
      obtain ⟨p, rfl, hp, hlow, hhi, hbx⟩ := hcut
      have HW := Lib.hid (withI_at hp hlow hhi)
      clear hlow hhi
      have hbW := hb.trans (hbx.mono hb.size)
      by_cases hin : q[p]? = some x
      case pos =>
        have hpl := (List.getElem?_eq_some_iff.1 hin).1
        have q0 := CQ.out p x hin _ hbx
        have c0 := CX.out _ hbW
        have i2 := idx_at (c := cu) 1 Tryz.underlying69 szInt hau p hpl
        simp only [Nat.mul_one] at i2
        have f : (p : Int) < (q.length : Int) := by omega
        have HS : Hid (q = risOf (l.take (k + 1))) := Lib.hid (by rw [HQ2.out, HW.out, if_pos hin])
        clear hin
        go_wp2_with fail
        go_quiet (fail)
        go_wp2_with fail
        go_roundw
        case rel => exact ⟨k + 1, q, by omega, by go_num, HS, by omega, (HU.out.below hbx).below (Bdn (Below.refl _ _) _), Bdn hbW _⟩
        case measure => simp [intOf]; omega
      have HIns : Hid (withI q x = q.take p ++ x :: q.drop p) := Lib.hid (by rw [HW.out, if_neg hin])
      have HIn := Lib.hid hin
      obtain ⟨hs1, hsA⟩ := sl_to (P := Tryz.prog) Tryz.underlying69 szInt HU.out p hp
      obtain ⟨a2, c2, hs2, hsB⟩ := sl_from (P := Tryz.prog) Tryz.underlying69 szInt HU.out p hp
      have hlt1 : (q.take p).length = p := by rw [List.length_take]; omega
      have hld1 : (q.drop p).length = q.length - p := List.length_drop
      have HLT := Lib.hid hlt1; have HLD := Lib.hid hld1
      clear hin HW
      by_cases hpl : p < q.length
      case' pos =>
        obtain ⟨y, hy⟩ := get_ex hpl
        have q0 := CQ.out p y hy _ hbx
        have c0 := CX.out _ hbW
        have i2 := idx_at (c := cu) 1 Tryz.underlying69 szInt hau p hpl
        simp only [Nat.mul_one] at i2
        have f : (p : Int) < (q.length : Int) := by omega
        have gne : (y == x) = false := by
          simp only [beq_eq_false_iff_ne, ne_eq]
          intro e
          exact HIn.out (by rw [hy, e])
        clear hy
        go_wp2_with fail
        go_quiet (fail)
        obtain ⟨wz, hwz⟩ : ∃ wz, wz = wc.drewN nq := ⟨_, rfl⟩
        have hbz : Below wo.heap.size wo wz := by rw [hwz]; exact Bdn hbx _
        rw [← hwz]
        clear hwz q0 c0
      case' neg =>
        have f : decide ((p : Int) < (q.length : Int)) = false := by simp; omega
        obtain ⟨wz, hwz⟩ : ∃ wz, wz = wc := ⟨_, rfl⟩
        have hbz : Below wo.heap.size wo wz := by rw [hwz]; exact hbx
        rw [← hwz]
        clear hwz
      all_goals
        have hbWz := hb.trans (hbz.mono hb.size)
        have hat1 := hsA.below hbz
        have hsrc1 := hat1.src encI_enc (by decide)
        rw [hlt1] at hsrc1
        have HB := Lib.hid (hsB.below hbz)
        clear hsA hsB hat1 hlt1 hld1
        go_wp2_with (first
          | (at_builtin; refine wpList_app rfl _ _ _ rfl wz.heap.size elInt (.slice none 0 0) 0 [] rfl (Own.nil encI _ 1 _ _) _ _ _ rfl hsrc1 (by unfold maxLen; omega) (by omega) (Nat.le_refl _) ?_; intro v1 w2 hown1 hg1 _; have hown1' : Own encI 3 1 wz.heap.size w2 v1 (q.take p) := (by unfold Own; rw [HLT.out]; simpa using hown1); have hb2 : Below wz.heap.size wz w2 := (Below.refl _ _).grown hg1 (Nat.le_refl _) (fun k hk => by cases hk); have c0 := CX.out _ (hbWz.trans (hb2.mono hbWz.size)); clear hown1 hg1 hsrc1)
          | (at_builtin; refine wpList_app rfl _ _ _ rfl wz.heap.size elInt v1 (q.take p).length _ rfl (hown1'.alloc _) (.slice (some ⟨w2.heap.size, 0, none⟩) 1 1) 1 (encI x) rfl (src_one rfl rfl (by simp [Value.oneCell'])) (by rw [HLT.out]; unfold maxLen; omega) (by rw [HLT.out]; omega) (by have := hb2.size; simp; omega) ?_; intro v2 w3 hown2 hg2 _; have hown2' := Own.snoc hown2; have hb3 : Below wz.heap.size wz w3 := (Bapp (hb2.alloc hb2.size _) (hown1'.alloc _) hg2 (Nat.le_refl _) (by have := hb2.size; simp; omega)); have hsrc3 := (HB.out.below hb3).src encI_enc (by decide); rw [HLD.out] at hsrc3; have hl3 : (q.take p ++ [x]).length = p + 1 := (by rw [List.length_append, HLT.out]; rfl); have HL3 := Lib.hid hl3; clear hown2 hg2 c0 hl3)
          | (at_builtin; refine wpList_app rfl _ _ _ rfl wz.heap.size elInt v2 (q.take p ++ [x]).length _ rfl hown2' _ _ _ rfl hsrc3 (by rw [HL3.out]; unfold maxLen; omega) (by rw [HL3.out]; omega) hb3.size ?_; intro v3 w4 hown3 hg3 _))
        have hown3' : Own encI 3 1 wz.heap.size w4 v3 (withI q x) := by
          rw [HIns.out, show q.take p ++ x :: q.drop p = (q.take p ++ [x]) ++ q.drop p by simp]
          unfold Own
          rw [List.length_append, List.flatMap_append, HLD.out]
          exact hown3
        have hb4 := Bapp hb3 hown2' hg3 (Nat.le_refl _) hb3.size
        have hbw4 := hbWz.trans (hb4.mono hbWz.size)
        go_roundw
        case rel => exact ⟨k + 1, withI q x, by omega, by go_num, Lib.hid HQ2.out.symm, by have := withI_len q x; omega, hown3'.at encI_enc, hbw4⟩
        case measure => simp [intOf]; omega
end Go.Proofs.YtpfohfihkmjnaaaGreatDoor
namespace Go.Proofs.YtpfohfihkmjnaaaGreatDoor
open Go.RowKit

theorem ris_seven : risOf [7, -2, 7] = [-2, 7] := by decide
theorem made_seven : madeE [7, -2, 7] = .nil := by
  unfold madeE
  rw [ris_seven, if_neg (by decide)]
  refine firstErr_all fun j hj => ?_
  have h : ∀ n ∈ [(7 : Int), -2, 7], ¬ farN n := fun n hn => by
    simp only [List.mem_cons, List.mem_nil_iff, or_false] at hn
    unfold farN
    rcases hn with rfl | rfl | rfl <;> omega
  unfold farF
  rw [List.getElem?_eq_getElem hj]
  simp only
  rw [if_neg (h _ (List.getElem_mem hj))]
theorem text_seven : madeT [7, -2, 7] = goneText [-2, 7] := by unfold madeT; rw [if_pos made_seven, ris_seven]
theorem near_seven : ∀ n ∈ [(-2 : Int), 7], ¬ farN n := fun n hn => by
  simp only [List.mem_cons, List.mem_nil_iff, or_false] at hn
  unfold farN
  rcases hn with rfl | rfl <;> omega
theorem up_seven : upI [-2, 7] := by unfold upI; simp
theorem read_seven : goneE (goneText [-2, 7]) = .nil ∧ goneL (goneText [-2, 7]) = [-2, 7] := goneRead_text up_seven near_seven (by decide)
theorem keys_new (w : World) (t : TypeId) (l : List Int) (n : Nat) (hl : l.length = n) (hn : n ≤ 100000) {H : Nat} (hH : w.heap.size = H) : IntsAt (w.alloc (.cells (l.map (Value.int .i64)).toArray t)) (.slice (some ⟨H, 0, none⟩) n n) l := by
  subst hl
  subst hH
  refine ⟨_, l.length, w.heap.size, 0, rfl, fun _ => rfl, Nat.le_refl _, by unfold maxLen; omega, fun k x hk j u hu => ?_⟩
  have hj : j = 0 := by
    have := (List.getElem?_eq_some_iff.1 hu).1
    simpa using this
  subst hj
  have hu' : u = .int .i64 x := by simpa using hu.symm
  rw [cell_of_row (w.alloc _) w.heap.size _ (l.map (Value.int .i64)).toArray t (0, 0) (heap_alloc_new w _)]
  simp [hk, hu']
end Go.Proofs.YtpfohfihkmjnaaaGreatDoor
namespace Go.Proofs.YtpfohfihkmjnaaaGreatDoor
open Go.RowKit

theorem itoa_2 : Lib.itoa 2 = [50] := (Lib.itoa_nonneg 2).trans (Lib.decDigits_one (by decide))
theorem itoa_3 : Lib.itoa 3 = [51] := (Lib.itoa_nonneg 3).trans (Lib.decDigits_one (by decide))
theorem itoa_5 : Lib.itoa 5 = [53] := (Lib.itoa_nonneg 5).trans (Lib.decDigits_one (by decide))
theorem itoa_7 : Lib.itoa 7 = [55] := (Lib.itoa_nonneg 7).trans (Lib.decDigits_one (by decide))
theorem itoa_m2 : Lib.itoa (-2) = [45, 50] := by
  have : Lib.itoa (-2) = 45 :: Lib.decDigits 2 := rfl
  rw [this, Lib.decDigits_one (by decide)]
  rfl
abbrev gone3 : Str := [103, 111, 110, 101, 47, 51]
theorem path_gone3 : pathF gone3 = some (kGone, 3) := by
  have hc : Lib.cut gone3 [47] = (kGone, [51], true) := cut_app1 (p := kGone) (q := [51]) (by decide)
  have hn : numOf [51] = some 3 := (numOf_iff _ 3).2 ⟨by decide, itoa_3⟩
  unfold pathF
  rw [hc, if_pos ⟨rfl, .inr rfl⟩]
  show (numOf [51]).bind _ = _
  rw [hn]
  rfl
abbrev f3D : Fl := ⟨gone3, [45], 2, -2, 7, 5⟩
theorem kind_gone3 : kindF gone3 = kGone := by unfold kindF; rw [path_gone3]; rfl
theorem check_f3 : checkF f3D = 0 := checkF_right (f := f3D) path_gone3 (by rw [kind_gone3]; decide) (by unfold boundF farN; decide)
theorem keysE_seven : keysE kGone (goneText [-2, 7]) = .nil := by
  unfold keysE
  rw [if_pos rfl, read_seven.1]
  rfl
theorem keysL_seven : keysL kGone (goneText [-2, 7]) = [-2, 7] := by
  unfold keysL
  rw [if_pos rfl, read_seven.2]
theorem of_seven : ofText gone3 [45] (goneText [-2, 7]) 5 = (f3D, 0) := by
  have hf : ofFile gone3 [45] (goneText [-2, 7]) 5 = f3D := by
    unfold ofFile
    rw [kind_gone3, keysL_seven]
    rfl
  rw [ofText_fine (by rw [path_gone3]; simp) (by rw [kind_gone3, keysE_seven]; simp [Er.code]) (by rw [hf]; exact check_f3), hf]
theorem text_f3 : fileText f3D = [103, 111, 110, 101, 47, 51, 32, 45, 32, 50, 32, 45, 50, 32, 55, 32, 53] := by
  unfold fileText
  rw [if_pos check_f3]
  unfold fileLine numsTail
  simp only [List.flatMap_cons, List.flatMap_nil, itoa_2, itoa_m2, itoa_7, itoa_5]
  rfl
theorem made_two : madeE [7, -2] = .nil := by
  unfold madeE
  rw [show risOf [7, -2] = [-2, 7] by decide, if_neg (by decide)]
  refine firstErr_all fun j hj => ?_
  have h : ∀ n ∈ [(7 : Int), -2], ¬ farN n := fun n hn => by
    simp only [List.mem_cons, List.mem_nil_iff, or_false] at hn
    unfold farN
    rcases hn with rfl | rfl <;> omega
  unfold farF
  rw [List.getElem?_eq_getElem hj]
  simp only
  rw [if_neg (h _ (List.getElem_mem hj))]
theorem text_twoF : madeT [7, -2] = goneText [-2, 7] := by unfold madeT; rw [if_pos made_two, show risOf [7, -2] = [-2, 7] by decide]
end Go.Proofs.YtpfohfihkmjnaaaGreatDoor
namespace Go.Proofs.YtpfohfihkmjnaaaGreatDoor
open Go.RowKit

theorem checkF_inv {f : Fl} (h : checkF f = 0) : (∃ kn, pathF f.path = some kn) ∧ partOk (kindF f.path) f.part = true ∧ ¬ boundF f := by
  unfold checkF at h
  split at h
  · cases h
  rename_i h1
  split at h
  · cases h
  rename_i h2
  split at h
  · cases h
  rename_i h3
  refine ⟨?_, by simpa using h2, h3⟩
  cases hp : pathF f.path with
  | none => exact absurd hp h1
  | some kn => exact ⟨kn, rfl⟩
/-- What is known of a file of rows is so. -/
theorem of_back {f : Fl} {l : List Rw} (hf : checkF f = 0) (hk : kindF f.path = kData) (hm : makeE l = .nil) (hl : l ≠ []) :
    ofText f.path f.part (makeT l) f.seq = (⟨f.path, f.part, l.length, (endsI (keysR l)).1, (endsI (keysR l)).2, f.seq⟩, 0) := by
  obtain ⟨⟨kn, hp⟩, hpo, hbo⟩ := checkF_inv hf
  obtain ⟨hr1, hr2, hup⟩ := make_right hm
  obtain ⟨hE, hL⟩ := dataRead_text hup hr2 hr1
  have hT : makeT l = dataText (sortR l) := make_text hm
  have hkE : keysE (kindF f.path) (makeT l) = .nil := by
    unfold keysE
    rw [hk, if_neg (by decide), hT, hE]
    rfl
  have hkL : keysL (kindF f.path) (makeT l) = keysR (sortR l) := by
    unfold keysL
    rw [hk, if_neg (by decide), hT, hL]
  have hlen : (keysR (sortR l)).length = l.length := by unfold keysR; rw [List.length_map, (sort_perm l).length_eq]
  have hends : endsI (keysR (sortR l)) = endsI (keysR l) := ends_perm ((sort_perm l).map _)
  have hof : ofFile f.path f.part (makeT l) f.seq = ⟨f.path, f.part, l.length, (endsI (keysR l)).1, (endsI (keysR l)).2, f.seq⟩ := by
    unfold ofFile
    rw [hkL, hlen, hends]
  have hn : 0 < l.length := List.length_pos_iff.2 hl
  obtain ⟨hm40, hchk⟩ := makeE_nil hm
  have hkn : keysR l ≠ [] := by
    intro h
    have := congrArg List.length h
    simp [keysR] at this
    exact hl this
  obtain ⟨e1, e2⟩ := ends_within (l := keysR l) (B := 1073741824) (by omega) fun x hx => near (keysR_near hchk x hx)
  obtain ⟨m1, m2, m3⟩ := ends_mem hkn
  have hle := (m3 _ m1).2
  have hck : checkF (ofFile f.path f.part (makeT l) f.seq) = 0 := by
    rw [hof]
    refine checkF_right hp hpo fun hb => ?_
    unfold boundF farN at hb hbo
    simp only at hb
    omega
  rw [ofText_fine (by rw [hp]; simp) (by rw [hkE]; simp [Er.code]) hck, hof]
end Go.Proofs.YtpfohfihkmjnaaaGreatDoor
namespace Go.Proofs.YtpfohfihkmjnaaaGreatDoor
open Go.RowKit

def textPc (p : Pc) : Str := if p.part = [45] then madeT p.keys else makeT p.rows
def putPc (p : Pc) : Str := if p.spoil = [] then textPc p else p.spoil
def goesPc (fs : List Fl) (p : Pc) : Bool := decide ((ofText p.path p.part (textPc p) p.seq).2 = 0) && decide (findV fs p.path < 0)
def stepTb (t : St × List Fl) (p : Pc) : St × List Fl := if goesPc t.2 p = true then (putS t.1 p.path (putPc p), placeF (ofText p.path p.part (textPc p) p.seq).1 t.2) else t
def tableTb (l : List Pc) : St × List Fl := l.foldl stepTb (St.new, [])
theorem tableTb_snoc (l : List Pc) (p : Pc) : tableTb (l ++ [p]) = stepTb (tableTb l) p := by unfold tableTb; rw [List.foldl_append]; rfl

set_option maxRecDepth 100000 in
/-- A right path is a name. -/
theorem path_name {p k : Str} {n : Int} (h : pathF p = some (k, n)) : nameOkS p = true := by
  obtain ⟨h1, h2, h3, h4⟩ := pathF_form h
  have hl : (Lib.itoa n).length ≤ 11 := by
    have := numOf_itoa (n := n) (by omega) (by omega)
    exact numOf_len this
  have hd := itoa_digit (n := n) (by omega)
  have hfin : ∀ m : Fin 256, 48 ≤ m.val ∧ m.val ≤ 57 → nameSigns.contains (UInt8.ofFin m) = true := by decide
  have hdig : ∀ c : UInt8, 48 ≤ c.toNat ∧ c.toNat ≤ 57 → nameSigns.contains c = true := fun c hc => hfin c.toFin hc
  have hkd : ∀ c ∈ kData, nameSigns.contains c = true := by decide
  have hkg : ∀ c ∈ kGone, nameSigns.contains c = true := by decide
  have hk4 : k.length = 4 := by rcases h2 with rfl | rfl <;> rfl
  subst h1
  unfold nameOkS
  simp only [Bool.and_eq_true, decide_eq_true_eq, List.all_eq_true, List.length_append, List.length_cons]
  refine ⟨by simp, by omega, fun c hc => ?_⟩
  rcases List.mem_append.1 hc with hc | hc
  · rcases h2 with rfl | rfl
    · exact hkd c hc
    · exact hkg c hc
  · rcases List.mem_cons.1 hc with rfl | hc
    · decide
    · exact hdig c (hd c hc)
theorem check_name {f : Fl} (h : checkF f = 0) : nameOkS f.path = true := by
  obtain ⟨k, n, hp, -, -⟩ := checkF_zero h
  exact path_name hp
theorem madeT_len (l : List Int) : (madeT l).length ≤ 1100 := by
  unfold madeT
  split
  · rename_i h
    obtain ⟨h1, h2⟩ := madeE_nil h
    exact goneText_len h2 h1
  · simp
theorem makeT_len (l : List Rw) : (makeT l).length ≤ 2700 := by
  by_cases h : makeE l = .nil
  · rw [make_text h]
    obtain ⟨h1, h2, -⟩ := make_right h
    exact dataText_len h2 h1
  · have : makeT l = [] := if_neg h
    rw [this]; simp
theorem textPc_len (p : Pc) : (textPc p).length ≤ 2700 := by
  unfold textPc
  split
  · have := madeT_len p.keys; omega
  · exact makeT_len p.rows
theorem putPc_len {p : Pc} (h : p.spoil.length ≤ 200) : (putPc p).length ≤ 2700 := by
  unfold putPc
  split
  · exact textPc_len p
  · omega
/-- What stands of a table, behind n pieces. -/
structure TbOk (t : St × List Fl) (n : Nat) : Prop where
  up : UpF t.2
  ok : ∀ f ∈ t.2, checkF f = 0
  len : t.2.length ≤ n
  here : ∀ f ∈ t.2, ∃ o, getO t.1.objs f.path = some o
  only : ∀ o ∈ t.1.objs, ∃ f ∈ t.2, f.path = o.name
  num : t.1.objs.length ≤ n
  tot : total t.1.objs ≤ n * 2700
  txt : ∀ o ∈ t.1.objs, o.text.length ≤ 2700
  on : t.1.off = false
  cut : t.1.cut = -1
  ris : Rising t.1.objs
theorem TbOk.new : TbOk (St.new, []) 0 :=
  ⟨List.Pairwise.nil, fun _ h => (by cases h), Nat.le_refl _, fun _ h => (by cases h), fun _ h => (by cases h), Nat.le_refl _, Nat.le_refl _, fun _ h => (by cases h), rfl, rfl, List.Pairwise.nil⟩
theorem TbOk.mono {t : St × List Fl} {n m : Nat} (h : TbOk t n) (hm : n ≤ m) : TbOk t m :=
  ⟨h.up, h.ok, Nat.le_trans h.len hm, h.here, h.only, Nat.le_trans h.num hm, Nat.le_trans h.tot (Nat.mul_le_mul_right _ hm), h.txt, h.on, h.cut, h.ris⟩
/-- A file of a path that is not there is put, whole. -/
theorem put_fine {s : St} {n t : Str} (hn : nameOkS n = true) (ht : t.length ≤ 20000) (hoff : s.off = false) (hcut : s.cut = -1) (hg : getO s.objs n = none) (hl : s.objs.length < 200) (htot : total s.objs + t.length ≤ 262144) :
    putE s n t = .nil ∧ putS s n t = { s with objs := putO ⟨n, t, s.day⟩ s.objs } := by
  have ha : aft s t.length = s := by unfold aft; rw [if_pos (by omega)]
  have hw : wrote s t.length = t.length := by unfold wrote; rw [if_pos (by omega)]
  constructor
  · unfold putE
    rw [if_neg (by rw [hn]; decide), if_neg (by omega), if_neg (by rw [hoff]; decide), if_neg (by rw [hg]; decide), if_neg (by omega), ha, if_neg (by rw [hoff]; decide)]
  · unfold putS
    rw [if_neg (by rw [hn, hoff, hg]; simp; omega), ha, hw, List.take_length]
theorem findV_off {l : List Fl} (hok : ∀ f ∈ l, checkF f = 0) {p : Str} (hp : pathF p ≠ none) (hf : findV l p < 0) : ∀ g ∈ l, keyP g.path ≠ keyP p := fun g hg e =>
  findV_neg.1 hf g hg (keyP_inj (checkF_path (hok g hg)) hp e)
theorem TbOk.step {t : St × List Fl} {n : Nat} (h : TbOk t n) (hn : n < 90) {p : Pc} (hs : p.spoil.length ≤ 200) : TbOk (stepTb t p) (n + 1) := by
  unfold stepTb
  split
  · rename_i hgo
    unfold goesPc at hgo
    simp only [Bool.and_eq_true, decide_eq_true_eq] at hgo
    obtain ⟨h1, h2⟩ := hgo
    obtain ⟨hp, -, hc, he⟩ := ofText_inv h1
    obtain ⟨f, hf⟩ : ∃ f, (ofText p.path p.part (textPc p) p.seq).1 = f := ⟨_, rfl⟩
    rw [hf] at he ⊢
    have hfp : f.path = p.path := by rw [he]; rfl
    rw [← he] at hc
    have hnm : nameOkS p.path = true := by rw [← hfp]; exact check_name hc
    have hg : getO t.1.objs p.path = none := getO_none.2 fun o ho e => by
      obtain ⟨g, hgm, hge⟩ := h.only o ho
      exact findV_neg.1 h2 g hgm (hge.trans e)
    have hl := putPc_len hs
    have htot := h.tot
    have hnum := h.num
    obtain ⟨-, hput⟩ := put_fine (s := t.1) hnm (t := putPc p) (by omega) h.on h.cut hg (by omega) (by omega)
    rw [hput]
    have hlen := h.len
    refine ⟨placeF_up h.up (by rw [hfp]; exact findV_off h.ok hp h2), fun g hm => ?_, by simp only; rw [placeF_len]; omega, fun g hm => ?_, fun o ho => ?_, ?_, ?_, fun o ho => ?_, h.on, h.cut, putO_rising h.ris hg⟩
    · rcases mem_placeF.1 hm with rfl | hm
      · exact hc
      · exact h.ok g hm
    · rcases mem_placeF.1 hm with rfl | hm
      · rw [hfp]
        exact ⟨_, getO_put_same h.ris (x := ⟨p.path, putPc p, t.1.day⟩) hg⟩
      · obtain ⟨o, ho⟩ := h.here g hm
        have hne : g.path ≠ p.path := findV_neg.1 h2 g hm
        exact ⟨o, by rw [getO_put_other h.ris (x := ⟨p.path, putPc p, t.1.day⟩) hg hne]; exact ho⟩
    · rcases mem_putO.1 ho with rfl | ho
      · exact ⟨f, mem_placeF.2 (.inl rfl), hfp⟩
      · obtain ⟨g, hgm, hge⟩ := h.only o ho
        exact ⟨g, mem_placeF.2 (.inr hgm), hge⟩
    · simp only
      rw [putO_length]; omega
    · simp only
      rw [total_putO]
      simp only
      omega
    · rcases mem_putO.1 ho with rfl | ho
      · exact hl
      · exact h.txt o ho
  · exact h.mono (by omega)
theorem TbOk.of {l : List Pc} (hs : ∀ p ∈ l, p.spoil.length ≤ 200) (hn : l.length ≤ 90) : TbOk (tableTb l) l.length := by
  have key : ∀ (m : List Pc) (t : St × List Fl) (n : Nat), TbOk t n → n + m.length ≤ 90 → (∀ p ∈ m, p.spoil.length ≤ 200) → TbOk (m.foldl stepTb t) (n + m.length) := by
    intro m
    induction m with
    | nil => intro t n h _ _; exact h
    | cons p m ih =>
      intro t n h h2 h3
      rw [List.length_cons] at h2
      have := ih (stepTb t p) (n + 1) (h.step (by omega) (h3 p (by simp))) (by omega) (fun q hq => h3 q (by simp [hq]))
      rw [List.foldl_cons, List.length_cons]
      rw [show n + (m.length + 1) = n + 1 + m.length by omega]
      exact this
  have := key l (St.new, []) 0 TbOk.new (by omega) hs
  simpa [tableTb] using this
theorem TbOk.mid {t : St × List Fl} {n : Nat} (h : TbOk t n) : ∀ f ∈ t.2, midF f := fun f hf => by
  obtain ⟨k, m, hp, hq, -⟩ := checkF_zero (h.ok f hf)
  have hnm := nameOk_len (check_name (h.ok f hf))
  refine ⟨by omega, ?_⟩
  unfold partOk at hq
  split at hq
  · have : f.part = [45] := by simpa using hq
    rw [this]; decide
  · simp only [Bool.and_eq_true, decide_eq_true_eq] at hq
    have := hq.2.1
    omega
end Go.Proofs.YtpfohfihkmjnaaaGreatDoor
namespace Go.Proofs.YtpfohfihkmjnaaaGreatDoor
open Go.RowKit

/-- A cell of a block that was laid anew, later. -/
theorem newCell {w w6 : World} {cs : Array Value} {t : TypeId} (h : Below (w.alloc (.cells cs t)).heap.size (w.alloc (.cells cs t)) w6) (j : Nat) {x : Value} (hx : cs[j]? = some x) : w6.cell? ⟨w.heap.size, j, none⟩ = some x := by
  have h1 : (w.alloc (.cells cs t)).cell? ⟨w.heap.size, j, none⟩ = some x := by
    rw [cell_of_row (w.alloc _) w.heap.size _ _ t (0, 0) (heap_alloc_new w _)]; exact hx
  exact (h.cell (World.block_lt_of_cell? _ _ h1)).trans h1
abbrev snapV (s : Sn) (v : Value) : Value := .agg #[.int .i64 s.id, .int .i64 s.parent, .int .i64 s.seq, .int .i64 s.day, .int .i64 s.index, S s.op, v]
theorem snapCells {w w6 : World} {s : Sn} {v : Value} {t : TypeId} (h : Below (w.alloc (.cells #[.int .i64 s.id, .int .i64 s.parent, .int .i64 s.seq, .int .i64 s.day, .int .i64 s.index, S s.op, v] t)).heap.size (w.alloc (.cells #[.int .i64 s.id, .int .i64 s.parent, .int .i64 s.seq, .int .i64 s.day, .int .i64 s.index, S s.op, v] t)) w6) :
    w6.cell? ⟨w.heap.size, 0, none⟩ = some (.int .i64 s.id) ∧ w6.cell? ⟨w.heap.size, 1, none⟩ = some (.int .i64 s.parent) ∧ w6.cell? ⟨w.heap.size, 2, none⟩ = some (.int .i64 s.seq) ∧ w6.cell? ⟨w.heap.size, 3, none⟩ = some (.int .i64 s.day) ∧ w6.cell? ⟨w.heap.size, 4, none⟩ = some (.int .i64 s.index) ∧ w6.cell? ⟨w.heap.size, 5, none⟩ = some (S s.op) ∧ w6.cell? ⟨w.heap.size, 6, none⟩ = some v :=
  ⟨newCell h 0 rfl, newCell h 1 rfl, newCell h 2 rfl, newCell h 3 rfl, newCell h 4 rfl, newCell h 5 rfl, newCell h 6 rfl⟩

theorem strs_new (l : List Str) (w : World) (t : TypeId) (H n : Nat) (cs : Array Value) (hH : w.heap.size = H) (hcs : cs = (l.map S).toArray) (hn : l.length = n) (hm : n ≤ 100000) : StrsAt (w.alloc (.cells cs t)) (.slice (some ⟨H, 0, none⟩) n n) l := by
  subst hH hcs hn
  refine ⟨_, _, w.heap.size, 0, rfl, fun _ => rfl, Nat.le_refl _, by unfold maxLen; omega, fun k z hk j u hu => ?_⟩
  obtain rfl : j = 0 := by
    rcases Nat.eq_zero_or_pos j with h | h
    · exact h
    · rw [List.getElem?_eq_none (by simp; omega)] at hu; cases hu
  obtain rfl : S z = u := by simpa using hu
  rw [cell_of_row (w.alloc _) w.heap.size _ _ t (0, 0) (heap_alloc_new w _)]
  simp [hk]

theorem containsB_mem : ∀ (l : List Str) (x : Str), Lib.containsS (l.map fun s => (⟨s.toArray⟩ : ByteArray)) ⟨x.toArray⟩ = decide (x ∈ l) := by
  intro l x
  rw [Bool.eq_iff_iff]
  unfold Lib.containsS
  rw [decide_eq_true_eq, decide_eq_true_eq, Lib.idxOfS_nonneg_iff]
  simp
theorem containsS_any (v : Value) (l : List Str) (x : Str) (w : World) (hl : StrsAt w v l) (hn : l.length ≤ 100000) :
    Calls Tryz.prog 59 #[v, S x] w fun e w' => e = .returned (.bool (decide (x ∈ l))) ∧ w = w' := by
  obtain ⟨a, c, b, o, rfl, ha, hc, hcm, hx⟩ := hl
  by_cases h0 : 0 < l.length
  · obtain rfl := ha h0
    refine (Tryz.slices_Contains_string b o l.length c (l.map fun s => (⟨s.toArray⟩ : ByteArray)) ⟨x.toArray⟩ w (by simp) (by omega) (fun j hj => ?_)).mono ?_
    · have hj' : j < l.length := by simpa using hj
      have := hx j l[j] (by simp [hj']) 0 _ rfl
      simpa [List.getD, hj'] using this
    · rintro e w' ⟨rfl, rfl⟩
      refine ⟨?_, rfl⟩
      rw [List.take_of_length_le (by simp), containsB_mem]
  · have : l = [] := List.eq_nil_of_length_eq_zero (by omega)
    subst this
    refine (Tryz.slices_Contains_string_empty a c ⟨x.toArray⟩ w).mono ?_
    rintro e w' ⟨rfl, rfl⟩
    exact ⟨by simp, rfl⟩

theorem in_any (n lo hi : Int) (w : World) : Calls Tryz.prog 93 #[.int .i64 n, .int .i64 lo, .int .i64 hi] w fun e w' => e = .returned (.bool (inB n lo hi)) ∧ w = w' := by
  unfold inB
  by_cases h1 : lo ≤ n
  · by_cases h2 : n ≤ hi
    · rw [decide_eq_true h1, decide_eq_true h2]
      go_enter Tryz.func93, Tryz.ntmps93
      go_wp2_with fail
      go_ret
      exact ⟨rfl, rfl⟩
    · have g2 := decide_eq_false h2
      rw [decide_eq_true h1, g2]
      clear h2
      go_enter Tryz.func93, Tryz.ntmps93
      go_wp2_with fail
      go_ret
      exact ⟨rfl, rfl⟩
  · have g1 := decide_eq_false h1
    rw [g1]
    clear h1
    go_enter Tryz.func93, Tryz.ntmps93
    go_wp2_with fail
    go_ret
    exact ⟨rfl, rfl⟩

theorem snap_ways (s : Sn) : (snapBound s = true ∧ (inB s.id 1 1073741824 = false ∨ (inB s.id 1 1073741824 = true ∧ (s.parent < 0 ∨ (decide (s.parent < 0) = false ∧ (s.id ≤ s.parent ∨ (decide (s.id ≤ s.parent) = false ∧
    (inB s.seq 0 1073741824 = false ∨ (inB s.seq 0 1073741824 = true ∧ (inB s.day 0 100000 = false ∨ (inB s.day 0 100000 = true ∧ inB s.index 0 1073741824 = false))))))))))) ∨
    (snapBound s = false ∧ inB s.id 1 1073741824 = true ∧ decide (s.parent < 0) = false ∧ decide (s.id ≤ s.parent) = false ∧ inB s.seq 0 1073741824 = true ∧ inB s.day 0 100000 = true ∧ inB s.index 0 1073741824 = true) := by
  unfold snapBound
  cases inB s.id 1 1073741824 <;> cases inB s.seq 0 1073741824 <;> cases inB s.day 0 100000 <;> cases inB s.index 0 1073741824 <;> simp <;> omega

set_option maxHeartbeats 1000000 in
set_option maxRecDepth 20000 in
theorem snapCheck_any (E : Nat → Addr) (B : Nat) (s : Sn) (v : Value) (w : World) (hE : Errs [2, 4, 5, 8, 9] E B w) (hT : LNum B w) (hM : LMax B w) (hl : FilesAt w v s.files) (hs : ∀ x ∈ s.files, midF x) :
    Calls Tryz.prog 44 #[snapV s v] w fun e w' => ∃ ev, e = .returned ev ∧ ErV E w' ev (snapCheck s) ∧ Below w.heap.size w w' := by
  have hBw := hE.le
  have hif := isIfaceE
  have hSC : snapCheck s = if snapBound s = true then .bare 2 else if s.op ∉ kOps then .bare 4 else if listCheck s.files ≠ .nil then listCheck s.files else firstErr (seqFault s) s.files.length := rfl
  have HSC := Lib.hid hSC; clear hSC
  have Hs := Lib.hid hs; clear hs
  have hb0 : Below w.heap.size w (w.alloc (.cells #[.int .i64 s.id, .int .i64 s.parent, .int .i64 s.seq, .int .i64 s.day, .int .i64 s.index, S s.op, v] 25)) := (Below.refl _ _).alloc (Nat.le_refl _) _
  have CS := Lib.hid (fun w6 (h : Below (w.alloc (.cells #[.int .i64 s.id, .int .i64 s.parent, .int .i64 s.seq, .int .i64 s.day, .int .i64 s.index, S s.op, v] 25)).heap.size (w.alloc (.cells #[.int .i64 s.id, .int .i64 s.parent, .int .i64 s.seq, .int .i64 s.day, .int .i64 s.index, S s.op, v] 25)) w6) => snapCells h)
  have V2 := fun w6 (h : Below w.heap.size w w6) => (hE.below' h hBw).var 2 (by decide)
  have V4 := fun w6 (h : Below w.heap.size w w6) => (hE.below' h hBw).var 4 (by decide)
  have V9 := fun w6 (h : Below w.heap.size w w6) => (hE.below' h hBw).var 9 (by decide)
  simp only [errG] at V2 V4 V9
  have U2 := Lib.hid V2; have U4 := Lib.hid V4; have U9 := Lib.hid V9
  clear V2 V4 V9
  have v2 := U2.out _ hb0
  obtain ⟨c0, c1, c2, c3, c4, c5, c6⟩ := CS.out _ (Below.refl _ _)
  go_enter Tryz.func44, Tryz.ntmps44
  go_wp2_with fail
  generalize w.alloc (.cells #[.int .i64 s.id, .int .i64 s.parent, .int .i64 s.seq, .int .i64 s.day, .int .i64 s.index, S s.op, v] 25) = w0 at *
  rcases snap_ways s with ⟨hbd, hw⟩ | ⟨hbd, g1, g2, g3, g4, g5, g6⟩
  · have HC : Hid (snapCheck s = .bare 2) := Lib.hid (by rw [HSC.out, if_pos hbd])
    clear hbd
    rcases hw with g1 | ⟨g1, g2 | ⟨g2, g3 | ⟨g3, g4 | ⟨g4, g5 | ⟨g5, g6⟩⟩⟩⟩⟩
    all_goals
      refine (in_any _ _ _ _).mono ?_
      rintro e w' ⟨rfl, rfl⟩
      go_wp2_with (refine (in_any _ _ _ _).mono ?_; rintro e w' ⟨rfl, rfl⟩)
      go_ret
      exact ⟨_, rfl, by rw [HC.out]; exact ⟨by decide, rfl⟩, hb0⟩
  have hba : Below w0.heap.size w0 (w0.alloc (.cells #[S kStart, S kAppend, S kDelete, S kRewrite] 9)) := (Below.refl _ _).alloc (Nat.le_refl _) _
  have hops : StrsAt (w0.alloc (.cells #[S kStart, S kAppend, S kDelete, S kRewrite] 9)) (.slice (some ⟨w0.heap.size, 0, none⟩) 4 4) kOps := strs_new kOps w0 9 _ 4 _ rfl rfl rfl (by decide)
  have hbw := hb0.trans (hba.mono hb0.size)
  have k5 := (CS.out _ hba).2.2.2.2.2.1
  have v4 := U4.out _ hbw
  have hcn := containsS_any _ kOps s.op _ hops (by decide)
  refine (in_any _ _ _ _).mono ?_
  rintro e w' ⟨rfl, rfl⟩
  by_cases hop : s.op ∈ kOps
  case neg =>
    rw [decide_eq_false hop] at hcn
    have HCn := Lib.hid hcn
    have HC : Hid (snapCheck s = .bare 4) := Lib.hid (by rw [HSC.out, if_neg (by rw [hbd]; simp), if_pos hop])
    clear hop hbd hcn hops
    go_wp2_with (first | (go_at_call 93; refine (in_any _ _ _ _).mono ?_; rintro e w' ⟨rfl, rfl⟩) | (go_at_call 59; refine HCn.out.mono ?_; rintro e w' ⟨rfl, rfl⟩))
    go_ret
    exact ⟨_, rfl, by rw [HC.out]; exact ⟨by decide, rfl⟩, hbw⟩
  rw [decide_eq_true hop] at hcn
  have HCn := Lib.hid hcn
  have HC : Hid (snapCheck s = if listCheck s.files ≠ .nil then listCheck s.files else firstErr (seqFault s) s.files.length) := Lib.hid (by rw [HSC.out, if_neg (by rw [hbd]; simp), if_neg (fun h => h hop)])
  clear hop hbd hcn hops HSC
  go_wp2_with (first | (go_at_call 93; refine (in_any _ _ _ _).mono ?_; rintro e w' ⟨rfl, rfl⟩) | (go_at_call 59; refine HCn.out.mono ?_; rintro e w' ⟨rfl, rfl⟩; have k6 := (CS.out _ hba).2.2.2.2.2.2))
  clear HCn k5 v4 v2 c0 c1 c2 c3 c4 c5 c6 g1 g2 g3 g4 g5 g6
  generalize w0.alloc (.cells #[S kStart, S kAppend, S kDelete, S kRewrite] 9) = w1 at *
  refine (listCheck_any E B v s.files w1 (hE.below' hbw hBw) (hT.below' hbw hBw) (hM.below' hbw hBw) (hl.below hbw) Hs.out).mono ?_
  rintro e w2 ⟨ev, rfl, hev, hb2⟩
  have hb02 := hba.trans (hb2.mono hba.size)
  have hbw2 := hbw.trans (hb2.mono hbw.size)
  by_cases hck : listCheck s.files = .nil
  case neg =>
    obtain ⟨u, x, rfl⟩ := hev.iface hck
    have HC' : Hid (snapCheck s = listCheck s.files) := Lib.hid (by rw [HC.out, if_pos hck])
    have HEv := Lib.hid hev
    clear hck hev
    go_wp2_with fail
    go_ret
    exact ⟨_, rfl, by rw [HC'.out]; exact HEv.out, hbw2⟩
  rw [hck] at hev
  obtain rfl : ev = .nilIface := hev
  have HF : Hid (snapCheck s = firstErr (seqFault s) s.files.length) := Lib.hid (by rw [HC.out, if_neg (fun h => h hck)])
  clear hck HC
  obtain ⟨a, c, b, o, rfl, ha, hc, hcm, hx⟩ := hl
  unfold maxLen at hcm
  have k6 := (CS.out _ hb02).2.2.2.2.2.2
  obtain ⟨fl, hfl⟩ : ∃ fl, s.files = fl := ⟨_, rfl⟩
  rw [hfl] at hx ha hc k6 HF ⊢
  have HFl := Lib.hid hfl; clear hfl
  go_wp2_with fail
  clear k6
  go_loopw [58] (fun i wr => ∃ k : Nat, k ≤ fl.length ∧ i = .int .i64 k ∧ Hid (∀ j < k, seqFault s j = 0) ∧ Below w2.heap.size w2 wr) (fun i _ => fl.length - (intOf i).toNat)
  case atStart => exact ⟨0, by omega, rfl, Lib.hid fun j hj => absurd hj (by omega), Below.refl _ _⟩
  case round =>
    obtain ⟨k, hk, rfl, hj, hb⟩ := hrel
    have hb0r := hb02.trans (hb.mono hb02.size)
    have hbr := hbw2.trans (hb.mono hbw2.size)
    by_cases hlt : k < fl.length
    case neg =>
      obtain rfl : k = fl.length := by omega
      have f : decide ((fl.length : Int) < (fl.length : Int)) = false := by simp
      go_wp2_with fail
      go_ret
      exact ⟨_, rfl, by rw [HF.out, firstErr_all hj.out]; rfl, hbr⟩
    obtain ⟨x, hxk⟩ := get_ex hlt
    obtain ⟨c0, c1, c2, c3, c4, c5⟩ := flCells hx hbr hxk
    have i1 := idx_at (c := c) 6 Tryz.underlying23 szFl ha k hlt
    have hk1 : (k : Int) < (fl.length : Int) := by omega
    have hb3 : Below wr.heap.size wr (wr.alloc (.cells #[S x.path, S x.part, .int .i64 x.n, .int .i64 x.lo, .int .i64 x.hi, .int .i64 x.seq] 43)) := (Below.refl _ _).alloc (Nat.le_refl _) _
    have k2 := (CS.out _ (hb0r.trans (hb3.mono hb0r.size))).2.2.1
    have v9 := U9.out _ (hbr.trans (hb3.mono hbr.size))
    by_cases hsq : s.seq < x.seq
    · have hf : seqFault s k = 9 := by unfold seqFault; rw [HFl.out, hxk]; simp only; rw [if_pos hsq]
      have HL : Hid (snapCheck s = .loc 9 k) := Lib.hid (HF.out.trans ((firstErr_hit hlt hj.out (by rw [hf]; decide)).trans (by rw [hf])))
      clear hf hxk
      go_wp2_with fail
      go_ret
      exact ⟨_, rfl, by rw [HL.out]; exact ErV.fresh (by decide) _ _ _ _ (by simp), (hbr.trans (hb3.mono hbr.size)).alloc (hbr.trans (hb3.mono hbr.size)).size _⟩
    · have hf : seqFault s k = 0 := by unfold seqFault; rw [HFl.out, hxk]; simp only; rw [if_neg hsq]
      have Hf := Lib.hid hf
      have g : decide (s.seq < x.seq) = false := by simpa using hsq
      clear hf hxk hsq
      go_wp2_with fail
      refine ⟨⟨k + 1, by omega, by go_num, (Lib.hid fun j hj' => by
        rcases Nat.lt_or_ge j k with h | h
        · exact hj.out j h
        · obtain rfl : j = k := by omega
          exact Hf.out), hb.trans (hb3.mono hb.size)⟩, ?_⟩
      simp [intOf]; omega
end Go.Proofs.YtpfohfihkmjnaaaGreatDoor
namespace Go.Proofs.YtpfohfihkmjnaaaGreatDoor
open Go.RowKit

def snapTextR (s : Sn) : Str := if snapCheck s = .nil then snapText s else []
theorem seven_ints (h : Int → Prop) (a b c d e : Int) (ha : h a) (hb : h b) (hc : h c) (hd : h d) (he : h e) : ∀ x ∈ [a, b, c, d, e], h x := by
  intro x hx
  simp only [List.mem_cons, List.not_mem_nil, or_false] at hx
  rcases hx with rfl | rfl | rfl | rfl | rfl <;> assumption

end Go.Proofs.YtpfohfihkmjnaaaGreatDoor
namespace Go.Proofs.YtpfohfihkmjnaaaGreatDoor
open Go.RowKit

/-- A struct of seven cells, written cell by cell. -/
abbrev sev (w : World) (g : Nat) (b0 b1 b2 b3 b4 b5 b6 : Value) : World := ((((((w.setCell ⟨g, 0, none⟩ b0).setCell ⟨g, 1, none⟩ b1).setCell ⟨g, 2, none⟩ b2).setCell ⟨g, 3, none⟩ b3).setCell ⟨g, 4, none⟩ b4).setCell ⟨g, 5, none⟩ b5).setCell ⟨g, 6, none⟩ b6
theorem sev_new {w : World} {g : Nat} {t : TypeId} {fr : Nat × Nat} {a0 a1 a2 a3 a4 a5 a6 : Value} (hg : w.heap[g]? = some (.cells #[a0, a1, a2, a3, a4, a5, a6] t fr)) (b0 b1 b2 b3 b4 b5 b6 : Value) : (sev w g b0 b1 b2 b3 b4 b5 b6).heap[g]? = some (.cells #[b0, b1, b2, b3, b4, b5, b6] t fr) := by
  have h := row_setCell (row_setCell (row_setCell (row_setCell (row_setCell (row_setCell (row_setCell (i := 0) hg b0) (i := 1) b1) (i := 2) b2) (i := 3) b3) (i := 4) b4) (i := 5) b5) (i := 6) b6
  simpa using h
theorem sev_below {B : Nat} {w0 w : World} {g : Nat} (hb : Below B w0 w) (hB : B ≤ g) (b0 b1 b2 b3 b4 b5 b6 : Value) : Below B w0 (sev w g b0 b1 b2 b3 b4 b5 b6) :=
  ((((((hb.setCell (p := ⟨g, 0, none⟩) hB _).setCell (p := ⟨g, 1, none⟩) hB _).setCell (p := ⟨g, 2, none⟩) hB _).setCell (p := ⟨g, 3, none⟩) hB _).setCell (p := ⟨g, 4, none⟩) hB _).setCell (p := ⟨g, 5, none⟩) hB _).setCell (p := ⟨g, 6, none⟩) hB _

theorem sev_cell {w : World} {g : Nat} {p : Addr} (hp : p.block ≠ g) (b0 b1 b2 b3 b4 b5 b6 : Value) : (sev w g b0 b1 b2 b3 b4 b5 b6).cell? p = w.cell? p := by
  have h : ∀ (W : World) (j : Nat) (x : Value), (W.setCell ⟨g, j, none⟩ x).cell? p = W.cell? p := fun W j x => World.cell?_setCell_other _ _ _ _ (fun e => hp (by rw [← e]))
  simp only [sev, h]
/-- An error's own block is another one than a struct's. -/
theorem ErV.away {E : Nat → Addr} {w w' : World} {v : Value} {er : Er} {g : Nat} {m : Int} (h : ErV E w v er) (hc : w.cell? ⟨g, 1, none⟩ = some (.int .i64 m)) (hw : ∀ p : Addr, p.block ≠ g → w'.cell? p = w.cell? p) : ErV E w' v er := by
  cases er with
  | nil => exact h
  | bare c => exact h
  | loc c i =>
    obtain ⟨hc', fb, hv, h0, h1⟩ := h
    have hne : fb ≠ g := by rintro rfl; rw [hc] at h1; cases h1
    exact ⟨hc', fb, hv, (hw ⟨fb, 0, none⟩ hne).trans h0, (hw ⟨fb, 1, none⟩ hne).trans h1⟩
theorem Own.moved {α : Type} {enc : α → List Value} {sz : Nat} {w w' : World} {v : Value} {l : List α} {e : TypeId} {B : Nat} (hen : Enc enc sz) (h : Own enc e sz B w v l) (hw : ∀ p : Addr, B ≤ p.block → w'.cell? p = w.cell? p) : At enc sz w' v l := by
  rcases Nat.eq_zero_or_pos l.length with h0 | h0
  · obtain ⟨a, c, b, o, hv, ha, hc, hm, hx⟩ := h.at hen
    exact ⟨a, c, b, o, hv, ha, hc, hm, fun k x hk => absurd (List.getElem?_eq_some_iff.1 hk).1 (by omega)⟩
  · obtain ⟨g', cap, cur, rfl, hB, _, hc, hm, _, _⟩ := h.open h0
    refine ⟨_, cap, g', 0, rfl, fun _ => rfl, hc, hm, fun k x hk j u hu => ?_⟩
    have h1 := h.cells hen k x hk j u hu
    rw [Nat.zero_add]
    exact (hw ⟨g', k * sz + j, none⟩ hB).trans h1
theorem At.sev {w : World} {v : Value} {l : List Fl} {e : TypeId} {B g : Nat} {w' : World} (h : Own encF e 6 B w v l) (hb : Below w.heap.size w w') (hg : g < B) (b0 b1 b2 b3 b4 b5 b6 : Value) : FilesAt (sev w' g b0 b1 b2 b3 b4 b5 b6) v l := by
  exact Own.moved encF_enc (Own.below h hb) fun p hp => sev_cell (by omega) _ _ _ _ _ _ _
theorem right_mid {l : List Fl} (h : RightL l) : ∀ x ∈ l, midF x := fun x hx => by
  have := fileLine_len (h.ok x hx)
  unfold fileLine at this
  simp only [List.length_append, List.length_cons] at this
  exact ⟨by omega, by omega⟩
theorem snapRead_long {s : Str} (h : 20000 < s.length) : snapRead s = (zeroSn, .bare 2) := by unfold snapRead; rw [if_pos h]
theorem snapRead_none {s : Str} (h : ¬ 20000 < s.length) (hn : headAt s = none) : snapRead s = (zeroSn, .bare 1) := by unfold snapRead; rw [if_neg h, hn]
theorem snapRead_some {s : Str} {x : Sn} {sum : Int} (h : ¬ 20000 < s.length) (hn : headAt s = some (x, sum)) : snapRead s = bodyRead x sum (Lib.cut s [10]).2.1 := by unfold snapRead; rw [if_neg h, hn]
theorem headOf_len {l : List Str} (h : l.length ≠ 8) : headOf l = none := by
  unfold headOf
  split
  · exact absurd rfl h
  · rfl
theorem headOf_bad {t a b c d e o g : Str} (h : t ≠ kSnap) : headOf [t, a, b, c, d, e, o, g] = none := by simp only [headOf, if_neg h]
theorem headOf_nil {a b c d e o g : Str} (h : numsOf [a, b, c, d, e, g] = none) : headOf [kSnap, a, b, c, d, e, o, g] = none := by simp only [headOf, if_true, h]
theorem headOf_six {a b c d e o g : Str} {n0 n1 n2 n3 n4 n5 : Int} (h : numsOf [a, b, c, d, e, g] = some [n0, n1, n2, n3, n4, n5]) : headOf [kSnap, a, b, c, d, e, o, g] = some (⟨n0, n1, n2, n3, n4, o, []⟩, n5) := by simp only [headOf, if_true, h]
theorem eight_strs {l : List Str} (h : l.length = 8) : ∃ t a b c d e o g, l = [t, a, b, c, d, e, o, g] := by
  match l, h with
  | [t, a, b, c, d, e, o, g], _ => exact ⟨t, a, b, c, d, e, o, g, rfl⟩
theorem six_ints {l : List Int} (h : l.length = 6) : ∃ a b c d e f, l = [a, b, c, d, e, f] := by
  match l, h with
  | [a, b, c, d, e, f], _ => exact ⟨a, b, c, d, e, f, rfl⟩

end Go.Proofs.YtpfohfihkmjnaaaGreatDoor
namespace Go.Proofs.YtpfohfihkmjnaaaGreatDoor
open Go.RowKit

theorem fl_equalIn (x y : Fl) (w : World) : (Op.equalIn 10000 43 (fileV x) (fileV y)).run Tryz.prog w = .ok (decide (x = y)) w := by
  have uS := Tryz.underlying9
  have uI := Tryz.underlying3
  have aS := Tryz.isAgg9
  have aI := Tryz.isAgg3
  have zS := Tryz.sizeOf9
  have zI := Tryz.sizeOf3
  have hS : Tryz.prog.underlying 43 = some (.struct (Tryz.prog.fieldsOf 43)) := by kernel_rfl
  have hp : Tryz.prog.stoodInHeld 43 = false := by kernel_rfl
  rw [show (10000 : Nat) = 9999 + 1 from rfl, run_equalIn_agg w 9999 43 _ _ hS hp]
  simp only [Program.fieldsOf, Tryz.underlying43]
  go_simp
  cases x with
  | mk p1 q1 n1 a1 b1 s1 =>
  cases y with
  | mk p2 q2 n2 a2 b2 s2 =>
  by_cases h1 : p1 = p2 <;> by_cases h2 : q1 = q2 <;> by_cases h3 : n1 = n2 <;> by_cases h4 : a1 = a2 <;> by_cases h5 : b1 = b2 <;> by_cases h6 : s1 = s2 <;> simp [h1, h2, h3, h4, h5, h6]
theorem fl_neq (x y : Fl) (w : World) : (binOp .neq 43 (fileV x) (fileV y)).run Tryz.prog w = .ok (.bool (!decide (x = y))) w := by
  rw [run_neq_struct, fl_equalIn]; rfl
theorem fl_eql (x y : Fl) (w : World) : (binOp .eql 43 (fileV x) (fileV y)).run Tryz.prog w = .ok (.bool (decide (x = y))) w := by
  rw [run_eql_struct, fl_equalIn]; rfl
theorem fl_guard : Tryz.prog.eqGuardType Tryz.prog.depth 43 = false := by kernel_rfl
end Go.Proofs.YtpfohfihkmjnaaaGreatDoor
namespace Go.Proofs.YtpfohfihkmjnaaaGreatDoor
open Go.RowKit

abbrev oneF (p : Str) (n : Int) : Fl := ⟨p, [97], 1, 0, 0, n⟩
abbrev pD1 : Str := [100, 97, 116, 97, 47, 49]
abbrev pD2 : Str := [100, 97, 116, 97, 47, 50]
theorem itoa0 : Lib.itoa 0 = [48] := (Lib.itoa_nonneg 0).trans (Lib.decDigits_one (by decide))
theorem itoa1 : Lib.itoa 1 = [49] := (Lib.itoa_nonneg 1).trans (Lib.decDigits_one (by decide))
theorem itoa2 : Lib.itoa 2 = [50] := (Lib.itoa_nonneg 2).trans (Lib.decDigits_one (by decide))
theorem pathD1 : pathF pD1 = some (kData, 1) := by
  have h : numOf [49] = some 1 := by have := numOf_itoa (n := 1) (by decide) (by decide); rwa [itoa1] at this
  have hc : Lib.cut pD1 [47] = (kData, [49], true) := cut_app1 (c := 47) (p := kData) (q := [49]) (by decide)
  unfold pathF
  rw [hc]
  simp only [h]
  rfl
theorem pathD2 : pathF pD2 = some (kData, 2) := by
  have h : numOf [50] = some 2 := by have := numOf_itoa (n := 2) (by decide) (by decide); rwa [itoa2] at this
  have hc : Lib.cut pD2 [47] = (kData, [50], true) := cut_app1 (c := 47) (p := kData) (q := [50]) (by decide)
  unfold pathF
  rw [hc]
  simp only [h]
  rfl
theorem check_one {p : Str} {n : Int} (h : pathF p = some (kData, n)) : checkF (oneF p 1) = 0 := by
  refine checkF_right h ?_ (by unfold boundF farN; simp)
  have : kindF p = kData := by unfold kindF; rw [h]; rfl
  show partOk (kindF p) [97] = true
  rw [this]; decide
theorem keyD1 : keyP pD1 = 2147483649 := by unfold keyP; rw [pathD1]; rfl
theorem keyD2 : keyP pD2 = 2147483650 := by unfold keyP; rw [pathD2]; rfl
theorem right_two : RightL [oneF pD1 1, oneF pD2 1] :=
  ⟨by decide, fun f hf => by
    rcases List.mem_cons.1 hf with rfl | hf
    · exact check_one pathD1
    · obtain rfl := List.mem_singleton.1 hf
      exact check_one pathD2, List.pairwise_cons.2 ⟨fun g hg => by
    obtain rfl := List.mem_singleton.1 hg
    show keyP pD1 < keyP pD2
    rw [keyD1, keyD2]; decide, by simp⟩⟩
theorem text_two : listText [oneF pD1 1, oneF pD2 1] = [100, 97, 116, 97, 47, 49, 32, 97, 32, 49, 32, 48, 32, 48, 32, 49, 10, 100, 97, 116, 97, 47, 50, 32, 97, 32, 49, 32, 48, 32, 48, 32, 49, 10] := by
  simp [listText, fileLine, numsTail, itoa0, itoa1]

theorem file_new (f : Fl) (w : World) (t : TypeId) (H : Nat) (hH : w.heap.size = H) : FilesAt (w.alloc (.cells #[S f.path, S f.part, .int .i64 f.n, .int .i64 f.lo, .int .i64 f.hi, .int .i64 f.seq] t)) (.slice (some ⟨H, 0, none⟩) 1 1) [f] := by
  subst hH
  refine ⟨_, _, w.heap.size, 0, rfl, fun _ => rfl, Nat.le_refl 1, (by decide : 1 ≤ maxLen), fun k z hk j u hu => ?_⟩
  have hk' : k = 0 := by
    rcases Nat.eq_zero_or_pos k with h | h
    · exact h
    · rw [List.getElem?_eq_none (by simp; omega)] at hk; cases hk
  subst hk'
  obtain rfl : f = z := by simpa using hk
  rw [cell_of_row (w.alloc _) w.heap.size _ _ t (0, 0) (heap_alloc_new w _)]
  simpa using hu
end Go.Proofs.YtpfohfihkmjnaaaGreatDoor
