/- A plan's groups, told file by file; what is rewritten, one behind the other: plain. deedboxlaw3.PackKeeps: groups have at least two files, of one Part, with room, none twice; rewritten one behind the other they have all their rows that a scan has: the walk. Printed by gen_sc.py. From the row's condition on the listed variables to what the walks ask: the sentinels, and what errors.As reads. The builder with the row's listed variables and the world's shape both; slices of numbers that came in; the library's variables out of the condition. -/
import Derived.Test.YtpfohfihkmjnaaaGreatDoorPk18
import Derived.Test.YtpfohfihkmjnaaaGreatDoorPk10
import Derived.Test.YtpfohfihkmjnaaaGreatDoorPk15
import Derived.Test.YtpfohfihkmjnaaaGreatDoorPk8
import Derived.Test.YtpfohfihkmjnaaaGreatDoorPk1
import Derived.Deep.DeepCutAuto
import Derived.Deep.RegionHeld3
import Derived.Deep.RegionLaw
import Derived.OwnWalk
import Derived.BigQuiet
import Derived.LaidLaws
import Derived.LaidHandle
import Derived.Stop.LaidErr
import Derived.Test.YtpfohfihkmjnaaaGreatDoorPk5
import Derived.HandedShaped
import Derived.OpenShut
import Derived.Carry
import Derived.Shelf.Vars
import Derived.ProofKit
import Derived.LaidMore
import Derived.Lay
namespace Go.Proofs.YtpfohfihkmjnaaaGreatDoor
open Go.RowKit
/-- The paths of the groups ahead of the i-th. -/
def seenP (ps : List (List Str)) (i : Nat) : List Str := (ps.take i).flatten
theorem seenP_next {ps : List (List Str)} {i : Nat} {p : List Str} (h : ps[i]? = some p) : seenP ps (i + 1) = seenP ps i ++ p := by
  unfold seenP
  rw [List.take_add_one, h, Option.toList_some, List.flatten_append, List.flatten_singleton]
theorem take_next {α : Type} {l : List α} {k : Nat} {x : α} (h : l[k]? = some x) : l.take (k + 1) = l.take k ++ [x] := by
  rw [List.take_add_one, h]; rfl
def sumN (fs : List Fl) : Int := (fs.map (·.n)).sum
theorem sumN_app (a b : List Fl) : sumN (a ++ b) = sumN a + sumN b := by
  unfold sumN
  rw [List.map_append, List.sum_append]
theorem sumN_nonneg : ∀ {fs : List Fl}, (∀ f ∈ fs, 0 ≤ f.n) → 0 ≤ sumN fs
  | [], _ => by decide
  | f :: fs, h => by
    have h1 := h f (by simp)
    have h2 := sumN_nonneg (fs := fs) fun x hx => h x (by simp [hx])
    have : sumN (f :: fs) = f.n + sumN fs := by unfold sumN; rw [List.map_cons, List.sum_cons]
    omega
theorem right_n {l : List Fl} (h : RightL l) {f : Fl} (hf : f ∈ l) : 1 ≤ f.n ∧ f.n ≤ 40 := (check_near (h.ok f hf)).2.2.2
structure KeepAt (least : Int) (L : List Fl) (i k : Nat) (fs : List Fl) (f : Fl) : Prop where
  fd : ∃ j : Nat, findV L f.path = j ∧ L[j]? = some f
  new : f.path ∉ seenP ((planF least L).map fun fs => fs.map (·.path)) i ++ (fs.map (·.path)).take k
  dat : isG f = false
  few : f.n < least
  part : f.part = (mkG fs).part
  nn : 0 ≤ f.n ∧ f.n ≤ 40
  sm : 0 ≤ sumN (fs.take k) ∧ sumN (fs.take k) + f.n ≤ 40
  nx : sumN (fs.take (k + 1)) = sumN (fs.take k) + f.n
theorem nodup_flat {α : Type} {s : List (List α)} {i : Nat} {fs : List α} {k : Nat} {f : α} (h : s.flatten.Nodup) (hi : s[i]? = some fs) (hk : fs[k]? = some f) : f ∉ (s.take i).flatten ++ fs.take k := by
  have e : s = s.take i ++ fs :: s.drop (i + 1) := by
    obtain ⟨h1, h2⟩ := List.getElem?_eq_some_iff.1 hi
    rw [← h2, ← List.drop_eq_getElem_cons h1, List.take_append_drop]
  have e2 : fs = fs.take k ++ f :: fs.drop (k + 1) := by
    obtain ⟨h1, h2⟩ := List.getElem?_eq_some_iff.1 hk
    rw [← h2, ← List.drop_eq_getElem_cons h1, List.take_append_drop]
  have hs : ((s.take i).flatten ++ (fs.take k ++ f :: fs.drop (k + 1))).Nodup := by
    refine h.sublist ?_
    rw [← e2]
    conv => rhs; rw [e]
    rw [List.flatten_append, List.flatten_cons, ← List.append_assoc]
    exact List.sublist_append_left _ _
  rw [← List.append_assoc] at hs
  intro hf
  exact (List.nodup_append.1 hs).2.2 f hf f (by simp) rfl
theorem keep_at {L : List Fl} (least : Int) (h : RightL L) {i k : Nat} {fs : List Fl} {f : Fl} (hi : (planF least L)[i]? = some fs) (hk : fs[k]? = some f) : KeepAt least L i k fs f := by
  obtain ⟨f1, f2⟩ := planF_facts least h
  obtain ⟨hg, -, hm⟩ := f1 fs (List.mem_of_getElem? hi)
  obtain ⟨hfL, hfs⟩ := hm f (List.mem_of_getElem? hk)
  have hs : isG f = false ∧ f.n < least := by
    unfold smallF at hfs
    simp only [Bool.and_eq_true, Bool.not_eq_true', decide_eq_true_eq] at hfs
    exact hfs
  have hn : ∀ x ∈ fs, 0 ≤ x.n := fun x hx => by have := right_n h (hm x hx).1; omega
  have e : sumN (fs.take (k + 1)) = sumN (fs.take k) + f.n := by
    rw [take_next hk, sumN_app]
    congr 1
    unfold sumN; simp
  have h1 : 0 ≤ sumN (fs.take k) := sumN_nonneg fun x hx => hn x (List.mem_of_mem_take hx)
  have h2 : 0 ≤ sumN (fs.drop (k + 1)) := sumN_nonneg fun x hx => hn x (List.mem_of_mem_drop hx)
  have h3 : sumN fs = sumN (fs.take (k + 1)) + sumN (fs.drop (k + 1)) := by rw [← sumN_app, List.take_append_drop]
  have h4 : sumN fs ≤ 40 := hg.n
  have h5 := hn f (List.mem_of_getElem? hk)
  refine ⟨find_one h.ris hfL, ?_, hs.1, hs.2, hg.part f (List.mem_of_getElem? hk), ⟨h5, by omega⟩, ⟨h1, by omega⟩, e⟩
  intro hin
  have hflat : seenP ((planF least L).map fun fs => fs.map (·.path)) i = ((planF least L).take i).flatten.map (·.path) := by
    unfold seenP
    rw [← List.map_take, List.map_flatten]
  rw [hflat, ← List.map_take, ← List.map_append] at hin
  obtain ⟨y, hy, e⟩ := List.mem_map.1 hin
  have hyL : y ∈ L := by
    rcases List.mem_append.1 hy with h' | h'
    · obtain ⟨gs, hgs, hyg⟩ := List.mem_flatten.1 h'
      exact ((f1 gs (List.mem_of_mem_take hgs)).2.2 y hyg).1
    · exact (hm y (List.mem_of_mem_take h')).1
  rw [right_inj h hyL hfL e] at hy
  exact nodup_flat f2 hi hk hy
/-- What is rewritten of the files ahead of the i-th. -/
def restF (least : Int) (L : List Fl) (f : Fl) : Bool := !isG f && !decide (f.path ∈ (planF least L).flatten.map (·.path))
def restR (os : List Ob) (s : Sn) (least : Int) (i : Nat) : List Rw := ((s.files.take i).filter (restF least s.files)).flatMap fun f => rewL os s [f.path]
def plansR (os : List Ob) (s : Sn) (least : Int) (i : Nat) : List Rw := ((planF least s.files).take i).flatMap fun fs => rewL os s (fs.map (·.path))
theorem restR_next {os : List Ob} {s : Sn} {least : Int} {i : Nat} {f : Fl} (h : s.files[i]? = some f) : restR os s least (i + 1) = restR os s least i ++ (if restF least s.files f then rewL os s [f.path] else []) := by
  unfold restR
  rw [take_next h, List.filter_append, List.flatMap_append]
  congr 1
  cases hf : restF least s.files f with
  | true => rw [List.filter_cons_of_pos hf]; simp
  | false => rw [List.filter_cons_of_neg (by rw [hf]; decide)]; simp
theorem plansR_next {os : List Ob} {s : Sn} {least : Int} {i : Nat} {fs : List Fl} (h : (planF least s.files)[i]? = some fs) : plansR os s least (i + 1) = plansR os s least i ++ rewL os s (fs.map (·.path)) := by
  unfold plansR
  rw [take_next h, List.flatMap_append]
  congr 1
  simp
theorem rew_one {os : List Ob} {s : Sn} (h : rowsE os s iMin iMax = .nil) {f : Fl} (hf : f ∈ s.files) (hg : isG f = false) : rewE os s [f.path] = .nil :=
  (rew_fine h (ps := [f.path]) fun p hp => by rw [List.mem_singleton.1 hp]; exact List.any_eq_true.2 ⟨f, hf, by simp [hg]⟩).1
theorem rew_group {os : List Ob} {s : Sn} {least : Int} (h : rowsE os s iMin iMax = .nil) {i : Nat} {fs : List Fl} (hi : (planF least s.files)[i]? = some fs) : rewE os s (fs.map (·.path)) = .nil := by
  obtain ⟨f1, -⟩ := planF_facts least (rowsE_nil h).1.lst
  obtain ⟨-, -, h3⟩ := f1 fs (List.mem_of_getElem? hi)
  refine (rew_fine h (ps := fs.map (·.path)) fun p hp => ?_).1
  obtain ⟨f, hf, rfl⟩ := List.mem_map.1 hp
  have h4 := (h3 f hf).2
  unfold smallF at h4
  simp only [Bool.and_eq_true, Bool.not_eq_true'] at h4
  exact List.any_eq_true.2 ⟨f, (h3 f hf).1, by simp [h4.1]⟩
theorem all_perm {os : List Ob} {s : Sn} (least : Int) (h : rowsE os s iMin iMax = .nil) : (restR os s least s.files.length ++ plansR os s least (planF least s.files).length).Perm (rowsL os s iMin iMax) := by
  have := pack_rows least h
  unfold restR plansR
  rw [List.take_length, List.take_length]
  exact this
theorem sub_flat {α β : Type} (g : α → List β) {a b : List α} (h : a.Sublist b) : (a.flatMap g).length ≤ (b.flatMap g).length := by
  induction h with
  | slnil => exact Nat.le_refl _
  | cons a _ ih => rw [List.flatMap_cons, List.length_append]; omega
  | cons_cons a _ ih => rw [List.flatMap_cons, List.flatMap_cons, List.length_append, List.length_append]; omega
theorem restR_len {os : List Ob} {s : Sn} (least : Int) (h : rowsE os s iMin iMax = .nil) (i : Nat) : (restR os s least i).length ≤ (rowsL os s iMin iMax).length := by
  have h1 := (all_perm least h).length_eq
  rw [List.length_append] at h1
  have h2 : (restR os s least i).length ≤ (restR os s least s.files.length).length := by
    unfold restR
    rw [List.take_length]
    exact sub_flat _ ((List.take_sublist ..).filter _)
  omega
theorem plansR_len {os : List Ob} {s : Sn} (least : Int) (h : rowsE os s iMin iMax = .nil) (i : Nat) : (restR os s least s.files.length ++ plansR os s least i).length ≤ (rowsL os s iMin iMax).length := by
  have h1 := (all_perm least h).length_eq
  rw [List.length_append] at h1 ⊢
  have h2 : (plansR os s least i).length ≤ (plansR os s least (planF least s.files).length).length := by
    unfold plansR
    rw [List.take_length]
    exact sub_flat _ (List.take_sublist ..)
  omega
/-- The plan of right files. -/
theorem plan_right {l : List Fl} {least : Int} (h : planE l least = .nil) : RightL l ∧ planL l least = (planF least l).map fun fs => fs.map (·.path) := by
  have h1 : listCheck l = .nil := by
    by_cases hc : listCheck l = .nil
    · exact hc
    · unfold planE at h; rw [if_pos hc] at h; exact h
  have hR := (right_iff l).1 h1
  refine ⟨hR, ?_⟩
  unfold planL
  rw [if_pos h]
  exact planAll_files least fun f hf => (right_n hR hf).2
theorem nodup_len {α : Type} : ∀ {l m : List α}, l.Nodup → (∀ x ∈ l, x ∈ m) → l.length ≤ m.length
  | [], _, _, _ => Nat.zero_le _
  | x :: l, m, hn, hs => by
    obtain ⟨h1, h2⟩ := List.nodup_cons.1 hn
    obtain ⟨s, t, e⟩ := List.append_of_mem (hs x (by simp))
    have h3 := nodup_len (l := l) (m := s ++ t) h2 fun y hy => by
      have := hs y (by simp [hy])
      rw [e] at this
      simp only [List.mem_append, List.mem_cons] at this ⊢
      rcases this with h | rfl | h
      · exact .inl h
      · exact absurd hy h1
      · exact .inr h
    rw [e]
    simp only [List.length_append, List.length_cons] at h3 ⊢
    omega
theorem seen_len {L : List Fl} (least : Int) (h : RightL L) {i : Nat} {fs : List Fl} (hi : (planF least L)[i]? = some fs) (k : Nat) : (seenP ((planF least L).map fun fs => fs.map (·.path)) i ++ (fs.map (·.path)).take k).length ≤ L.length := by
  obtain ⟨f1, f2⟩ := planF_facts least h
  have h1 : (planF least L).flatten.length ≤ L.length := nodup_len f2 fun x hx => by
    obtain ⟨gs, hgs, hx⟩ := List.mem_flatten.1 hx
    exact ((f1 gs hgs).2.2 x hx).1
  obtain ⟨h3, h4⟩ := List.getElem?_eq_some_iff.1 hi
  have h2 : (planF least L).flatten.length = ((planF least L).take i).flatten.length + (fs.length + ((planF least L).drop (i + 1)).flatten.length) := by
    conv => lhs; rw [← List.take_append_drop i (planF least L), List.drop_eq_getElem_cons h3, h4]
    rw [List.flatten_append, List.length_append, List.flatten_cons, List.length_append]
  have h5 : (seenP ((planF least L).map fun fs => fs.map (·.path)) i).length = ((planF least L).take i).flatten.length := by
    unfold seenP
    rw [← List.map_take, ← List.map_flatten, List.length_map]
  rw [List.length_append, h5, List.length_take, List.length_map]
  omega
theorem plan_two {L : List Fl} (least : Int) (h : RightL L) {i : Nat} {fs : List Fl} (hi : (planF least L)[i]? = some fs) : 2 ≤ fs.length := ((planF_facts least h).1 fs (List.mem_of_getElem? hi)).2.1
theorem planL_bad {l : List Fl} {least : Int} (h : planE l least ≠ .nil) : planL l least = [] := if_neg h
end Go.Proofs.YtpfohfihkmjnaaaGreatDoor
namespace Go.Proofs.YtpfohfihkmjnaaaGreatDoor
open Go.RowKit Go.Maps
theorem rows_lenK {os : List Ob} {s : Sn} {lo hi : Int} (h : rowsE os s lo hi = .nil) : (rowsL os s lo hi).length ≤ 2400 := by
  unfold rowsL
  rw [if_pos h, sort_len]
  obtain ⟨hr, hf⟩ := rowsE_nil h
  have h1 := allUp_len (os := os) (l := pruneL s.files lo hi) (lo := lo) (hi := hi) hf
  have h2 : (pruneL s.files lo hi).length ≤ s.files.length := List.length_filter_le _ _
  have h3 := hr.lst.len
  unfold allO
  omega
theorem str_newK (w : World) (p : Str) : StrsAt (w.alloc (.cells #[S p] 9)) (.slice (some ⟨w.heap.size, 0, none⟩) 1 1) [p] := by
  refine ⟨_, 1, w.heap.size, 0, rfl, fun _ => rfl, Nat.le_refl _, by unfold maxLen; omega, fun k x hk j u hu => ?_⟩
  obtain ⟨rfl, rfl⟩ : k = 0 ∧ x = p := by
    cases k with
    | zero => exact ⟨rfl, by simpa using hk.symm⟩
    | succ k => simp at hk
  obtain ⟨rfl, rfl⟩ : j = 0 ∧ u = S x := by
    cases j with
    | zero => exact ⟨rfl, by simpa using hu.symm⟩
    | succ j => simp at hu
  rw [cell_of_row _ _ _ _ _ (0, 0) (heap_alloc_new w _)]; rfl
theorem plans_open {w : World} {u : Value} {G : List (List Fl)} (h : ListsAt w u (G.map fun fs => fs.map (·.path))) : ∃ (a : Option Addr) (c b o : Nat), u = .slice a G.length c ∧ (0 < G.length → a = some ⟨b, o, none⟩) ∧ G.length ≤ c ∧ c ≤ maxLen ∧
    ∀ (k : Nat) (fs : List Fl), G[k]? = some fs → 0 < fs.length → ∃ b1 o1 c1 : Nat, w.cell? ⟨b, o + k, none⟩ = some (.slice (some ⟨b1, o1, none⟩) fs.length c1) ∧ StrsAt w (.slice (some ⟨b1, o1, none⟩) fs.length c1) (fs.map (·.path)) ∧ ∀ (j : Nat) (f : Fl), fs[j]? = some f → w.cell? ⟨b1, o1 + j, none⟩ = some (S f.path) := by
  obtain ⟨xs, hxl, hat, hst⟩ := h
  obtain ⟨a, c, b, o, hv, ha, hc, hcm, hx⟩ := hat
  rw [List.length_map] at hxl
  rw [hxl] at hv ha hc
  refine ⟨a, c, b, o, hv, ha, hc, hcm, fun k fs hk hp => ?_⟩
  obtain ⟨x, hxk⟩ := get_ex (l := xs) (k := k) (by rw [hxl]; exact (List.getElem?_eq_some_iff.1 hk).1)
  have h0 := hx k x hxk 0 _ rfl
  simp only [Nat.mul_one, Nat.add_zero] at h0
  have h1 := hst k x (fs.map (·.path)) hxk (by rw [List.getElem?_map, hk]; rfl)
  obtain ⟨a1, c1, b1, o1, hv1, ha1, hc1, hcm1, hx1⟩ := h1
  rw [List.length_map] at hv1 ha1
  obtain rfl := ha1 hp
  have e : slV x = .slice (some ⟨b1, o1, none⟩) fs.length c1 := hv1
  refine ⟨b1, o1, c1, h0.trans (congrArg some e), ⟨_, c1, b1, o1, by rw [List.length_map], fun _ => rfl, hc1, hcm1, hx1⟩, fun j f hj => ?_⟩
  have := hx1 j f.path (by rw [List.getElem?_map, hj]; rfl) 0 _ rfl
  simpa using this
set_option maxHeartbeats 4000000 in
set_option maxRecDepth 20000 in
theorem packKeeps_any (E : Nat → Addr) (B : Nat) (vp : Value) (l : List Pc) (v : Value) (s : Sn) (least : Int) (w : World) (hE : Errs [1, 2, 3, 4, 5, 6, 7, 8, 9, 10, 12] E B w) (hT : LNum B w) (hM : LMax B w) (hlp : PiecesAt w vp l) (hh : HeldPc w l) (hl : FilesAt w v s.files) :
    Calls Tryz.prog 3 #[vp, snapV s v, .int .i64 least] w fun e w' => e = .returned (.bool true) ∧ Below w.heap.size w w' := by
  have hBw := hE.le
  have hif := isIfaceE
  have X := Lib.hid (fun W (h : Below w.heap.size w W) => (⟨hE.below' h hBw, hT.below' h hBw, hM.below' h hBw⟩ : Errs [1, 2, 3, 4, 5, 6, 7, 8, 9, 10, 12] E B W ∧ LNum B W ∧ LMax B W))
  have XF := Lib.hid (fun W (h : Below w.heap.size w W) => (⟨hlp.below h, hh.below h, hl.below h⟩ : PiecesAt W vp l ∧ HeldPc W l ∧ FilesAt W v s.files))
  obtain ⟨a, c, rfl, -, -⟩ := At.form' hl
  obtain ⟨ap, cp, rfl, -, -⟩ := At.form' hlp
  have hba : Below w.heap.size w (w.alloc (.cells #[.int .i64 s.id, .int .i64 s.parent, .int .i64 s.seq, .int .i64 s.day, .int .i64 s.index, S s.op, .slice a s.files.length c] 25)) := (Below.refl _ _).alloc (Nat.le_refl _) _
  have hg0 := heap_alloc_new w (.cells #[.int .i64 s.id, .int .i64 s.parent, .int .i64 s.seq, .int .i64 s.day, .int .i64 s.index, S s.op, .slice a s.files.length c] 25)
  have HG := Lib.hid (fun W (h : Below (w.alloc (.cells #[.int .i64 s.id, .int .i64 s.parent, .int .i64 s.seq, .int .i64 s.day, .int .i64 s.index, S s.op, .slice a s.files.length c] 25)).heap.size (w.alloc (.cells #[.int .i64 s.id, .int .i64 s.parent, .int .i64 s.seq, .int .i64 s.day, .int .i64 s.index, S s.op, .slice a s.files.length c] 25)) W) => rowKept hg0 h)
  have HSz := Lib.hid (Array.getElem?_eq_some_iff.1 hg0).1
  clear hE hT hM hlp hh hl hg0
  go_enter Tryz.func3, Tryz.ntmps3
  go_upto_region 1 with fail
  generalize w.alloc (.cells #[.int .i64 s.id, .int .i64 s.parent, .int .i64 s.seq, .int .i64 s.day, .int .i64 s.index, S s.op, .slice a s.files.length c] 25) = w0 at *
  have HSc := Lib.hid (packed_any E B w0 ((X.out _ hba).1.sub (by decide)) (X.out _ hba).2.1 (X.out _ hba).2.2)
  go_wp2_with fail
  refine HSc.out.mono ?_
  rintro e w1 ⟨rfl, hb1⟩
  have hbw1 := hba.trans (hb1.mono hba.size)
  have hlp := longPiecesD_any (.slice ap l.length cp) l w1 (XF.out _ hbw1).1 (XF.out _ hbw1).2.1
  clear HSc
  rcases Decidable.em (shortPcs l) with hsp | hsp
  case inr =>
    rw [decide_eq_false hsp, Bool.not_false] at hlp
    have HLp := Lib.hid hlp
    clear hsp hlp
    go_wp2_with fail
    refine HLp.out.mono ?_
    rintro e w2 ⟨rfl, rfl⟩
    go_wp2_with fail
    go_ret
    exact ⟨rfl, hbw1⟩
  rw [decide_eq_true hsp, Bool.not_true] at hlp
  have HLp := Lib.hid hlp
  have HSp := Lib.hid hsp
  clear hsp hlp
  obtain ⟨c0, c1, c2, c3, c4, c5, c6⟩ := snRow7 (HG.out _ hb1)
  have hls := longSnapD_any s _ w1 (XF.out _ hbw1).2.2
  rcases Decidable.em (shortS s) with hss | hss
  case inr =>
    rw [if_neg hss] at hls
    have HLs := Lib.hid hls
    clear hss hls
    go_wp2_with fail
    refine HLp.out.mono ?_
    rintro e w2 ⟨rfl, rfl⟩
    go_wp2_with fail
    refine HLs.out.mono ?_
    rintro e w2 ⟨rfl, hb2⟩
    go_wp2_with fail
    go_ret
    exact ⟨rfl, hbw1.trans (hb2.mono hbw1.size)⟩
  rw [if_pos hss] at hls
  have HLs := Lib.hid hls
  have HMs := Lib.hid hss.2.mid
  clear hss hls
  go_wp2_with fail
  refine HLp.out.mono ?_
  rintro e w2 ⟨rfl, rfl⟩
  go_wp2_with fail
  refine HLs.out.mono ?_
  rintro e w2 ⟨rfl, hb2⟩
  have hbw2 := hbw1.trans (hb2.mono hbw1.size)
  have hb02 := hb1.trans (hb2.mono hb1.size)
  clear c0 c1 c2 c3 c4 c5 c6 HLp HLs
  have HTa := Lib.hid (tableL_any E B _ l w2 ((X.out _ hbw2).1.sub (by decide)) (XF.out _ hbw2).1 (XF.out _ hbw2).2.1 HSp.out)
  have hTb := TbOk.of (l := l) (fun p hp => (HSp.out.2 p hp).2.2.1) (by have := HSp.out.1; omega)
  have HTn : Hid (l.length ≤ 15) := Lib.hid HSp.out.1
  obtain ⟨t, ht⟩ : ∃ t, tableTb l = t := ⟨_, rfl⟩
  rw [ht] at HTa hTb
  have HTb := Lib.hid hTb
  have HTx : Hid (∀ o ∈ t.1.objs, o.text.length ≤ 10000) := Lib.hid (fun o ho => by have := hTb.txt o ho; omega)
  clear ht hTb
  go_wp2_with fail
  refine HTa.out.mono ?_
  rintro e w3 ⟨sb, mb, xb, vm, u, rfl, htw, hfl⟩
  have hb23 := htw.bel
  have hbw3 := hbw2.trans (hb23.mono hbw2.size)
  have hb03 := hb02.trans (hb23.mono hb02.size)
  have HN : Hid (w.heap.size ≠ sb ∧ w.heap.size ≠ mb ∧ w.heap.size ≠ xb) := Lib.hid (by have h1 := HSz.out; have h2 := htw.h1; have h3 := htw.h2; have h4 := htw.h3; have h5 := hb02.size; omega)
  have HTw := Lib.hid (htw.base hbw2)
  have HFl := Lib.hid hfl
  obtain ⟨au, cu, rfl, -, -⟩ := At.form' hfl
  clear HTa htw hfl hb23
  have hg3 := HG.out _ hb03
  have f6 := frozen_row (i := 6) hg3
  have q6 : w3.cell? ⟨w.heap.size, 6, none⟩ = some (.slice a s.files.length c) := by rw [cell_of_row w3 _ _ _ _ (0, 0) hg3]; rfl
  have hgS := snap_set (u := .slice au t.2.length cu) hg3
  have htwS := HTw.out.away hg3 (Nat.le_refl _) HN.out.1 HN.out.2.1 HN.out.2.2 (i := 6) (.slice au t.2.length cu)
  have hflS := filesAt_snap hg3 rfl (.slice au t.2.length cu) HFl.out
  have hbwS := htwS.bel
  clear hg3 HTw HFl
  go_upto_region 8 with fail
  clear f6 q6
  generalize w3.setCell ⟨w.heap.size, 6, none⟩ (.slice au t.2.length cu) = w4 at *
  obtain ⟨s1, hs1⟩ : ∃ s1 : Sn, s1 = { s with files := t.2 } := ⟨_, rfl⟩
  have hf1 : s1.files = t.2 := by rw [hs1]
  have hgS1 : w4.heap[w.heap.size]? = some (.cells #[.int .i64 s1.id, .int .i64 s1.parent, .int .i64 s1.seq, .int .i64 s1.day, .int .i64 s1.index, S s1.op, .slice au t.2.length cu] 25 (0, 0)) := by rw [hs1]; exact hgS
  have HGS := Lib.hid (fun W (h : Below w4.heap.size w4 W) => rowKept hgS1 h)
  have HX4 := Lib.hid (fun W (h : Below w4.heap.size w4 W) => X.out W (hbwS.trans (h.mono hbwS.size)))
  have HFS := Lib.hid hflS
  have HStS := Lib.hid htwS.sto
  have HMi := Lib.hid HTb.out.mid
  have HF1 := Lib.hid hf1
  have HLt : Hid (t.2.length ≤ 15) := Lib.hid (by have h1 := HTb.out.len; have h2 := HTn.out; omega)
  have HOf := Lib.hid (ownFiles_any (.slice au t.2.length cu) t.2 w4 HFS.out (by have := HLt.out; omega))
  clear hs1 hf1 hgS hgS1 hflS htwS
  go_wp2_with fail
  refine HOf.out.mono ?_
  rintro e w5 ⟨v5, rfl, hv5, hb5⟩
  obtain ⟨a5, c5, rfl, -, -⟩ := At.form' (hv5.at encF_enc)
  have HPl := Lib.hid (packPlan_any E B _ t.2 least w5 ((HX4.out _ hb5).1.sub (by decide)) (HX4.out _ hb5).2.1 (HX4.out _ hb5).2.2 (hv5.at encF_enc) HMi.out (by have := HLt.out; omega))
  clear hv5 HOf
  go_wp2_with fail
  refine HPl.out.mono ?_
  rintro e w6 ⟨u6, ev, rfl, hev, hu6, hb6⟩
  have hb46 := hb5.trans (hb6.mono hb5.size)
  clear HPl
  by_cases hE : planE t.2 least = .nil
  case neg =>
    rw [planL_bad hE] at hu6
    obtain ⟨t1, x1, rfl⟩ := hev.iface hE
    obtain ⟨xs, hxl, hat, -⟩ := hu6
    obtain rfl : xs = [] := List.eq_nil_of_length_eq_zero hxl
    obtain ⟨a6, c6, rfl, -, -⟩ := At.form' hat
    have hbw6 := hbwS.trans (hb46.mono hbwS.size)
    clear hE hat hev hxl
    simp only [List.length_nil]
    go_wp2_with fail
    go_ret
    exact ⟨rfl, hbw6⟩
  rw [hE] at hev
  obtain rfl : ev = .nilIface := hev
  obtain ⟨hR, hP⟩ := plan_right hE
  rw [hP] at hu6
  have HK := Lib.hid (fun i k fs f hi hk => keep_at (i := i) (k := k) (fs := fs) (f := f) least hR hi hk)
  have HSl := Lib.hid (fun i fs hi k => seen_len (i := i) (fs := fs) least hR hi k)
  have HTwo := Lib.hid (fun i fs hi => plan_two (i := i) (fs := fs) least hR hi)
  have HAp := Lib.hid (fun os (h : rowsE os s1 iMin iMax = .nil) => (⟨fun f hf hg => rew_one h (f := f) hf hg, fun i fs hi => rew_group h (i := i) (fs := fs) (least := least) hi, all_perm least h, restR_len least h, plansR_len least h⟩ : (∀ f, f ∈ s1.files → isG f = false → rewE os s1 [f.path] = .nil) ∧ (∀ i fs, (planF least s1.files)[i]? = some fs → rewE os s1 (fs.map (·.path)) = .nil) ∧ (restR os s1 least s1.files.length ++ plansR os s1 least (planF least s1.files).length).Perm (rowsL os s1 iMin iMax) ∧ (∀ i, (restR os s1 least i).length ≤ (rowsL os s1 iMin iMax).length) ∧ (∀ i, (restR os s1 least s1.files.length ++ plansR os s1 least i).length ≤ (rowsL os s1 iMin iMax).length)))
  obtain ⟨G, hG⟩ : ∃ G, planF least t.2 = G := ⟨_, rfl⟩
  rw [hG] at hu6 HK HSl HTwo
  have HGe : Hid (planF least s1.files = G) := Lib.hid (by rw [HF1.out, hG])
  have HKn := Lib.hid (fun i k fs f hi hk => by have := (HK.out i k fs f hi hk).new; rw [hG] at this; exact this)
  obtain ⟨a6, c6, b6, o6, rfl, ha6, hc6, hcm6, hx6⟩ := plans_open hu6
  obtain ⟨P, hPe⟩ : ∃ P, (G.map fun fs => fs.map (·.path)) = P := ⟨_, rfl⟩
  rw [hPe] at HKn HSl
  have HPe := Lib.hid hPe
  have HX6 := Lib.hid hx6
  have HA6 := Lib.hid ha6
  unfold maxLen at hcm6
  obtain ⟨au', cu', bu, ou, hvu, hau, hcu, hcmu, hxu⟩ := HFS.out
  obtain ⟨rfl, rfl⟩ : au = au' ∧ cu = cu' := by simpa using hvu
  unfold maxLen at hcmu
  have HXu := Lib.hid hxu
  have HAu := Lib.hid hau
  clear hE hR hP hu6 hG hPe hx6 ha6 hvu hau hxu
  go_wp2_with fail
  go_loopw [13, 14, 15, 16, 17, 18, 19] (fun sv i _ _ _ _ _ wr => ∃ (k : Nat) (vs : Value), k ≤ G.length ∧ i = .int .i64 k ∧ vs = sv ∧ Hid (Own encS 9 1 w6.heap.size wr vs (seenP P k)) ∧ Below w6.heap.size w6 wr) (fun _ i _ _ _ _ _ _ => G.length - (intOf i).toNat)
  case atStart => exact ⟨0, _, by omega, rfl, rfl, Lib.hid (Own.nil _ _ _ _ _), Below.refl _ _⟩
  case round =>
    obtain ⟨k, vs, hk, rfl, rfl, ho, hb⟩ := hrel
    obtain ⟨wo, rfl⟩ : ∃ wo, wo = wr := ⟨wr, rfl⟩
    by_cases hlt : k < G.length
    case neg =>
      obtain rfl : k = G.length := by omega
      have f1 : decide ((G.length : Int) < (G.length : Int)) = false := by simp
      have hb4o := hb46.trans (hb.mono hb46.size)
      have hse : seenP P G.length = (planF least s1.files).flatten.map (·.path) := by
        rw [HGe.out, ← HPe.out]
        unfold seenP
        rw [List.take_of_length_le (by simp), List.map_flatten]
      have hso := ho.out.at encS_enc
      rw [hse] at hso
      have HSo := Lib.hid hso
      have HOwn := Lib.hid (fun W (h : Below w4.heap.size w4 W) => ownSnap_any s1 (.slice au t.2.length cu) W (by rw [HF1.out]; exact HFS.out.below h) (by rw [HF1.out]; have := HLt.out; omega))
      have HRwr := Lib.hid (fun W u vp ps (h : Below w4.heap.size w4 W) (hu : FilesAt W u s1.files) (hp : StrsAt W vp ps) (hn : ps.length ≤ 10000) => packRewrite_any E B sb mb t.1 s1 u vp ps W ((HX4.out _ h).1.sub (by decide)) (HX4.out _ h).2.1 (HX4.out _ h).2.2 (HStS.out.below h) HTx.out hu (by rw [HF1.out]; exact HMi.out) hp hn)
      have HOw := Lib.hid (HOwn.out wo hb4o)
      obtain ⟨c0, c1, c2, c3, c4, c5, c6⟩ := snRow7 (HGS.out wo hb4o)
      clear hso hse ho
      go_wp2_with fail
      refine HOw.out.mono ?_
      rintro e w7 ⟨u0, rfl, hu0, hb7⟩
      clear c0 c1 c2 c3 c4 c5 c6 HOw
      have hb47 := hb4o.trans (hb7.mono hb4o.size)
      obtain ⟨a7, c7, rfl, -, -⟩ := At.form' hu0
      have HRo := Lib.hid (scanRows_any E B sb mb t.1 s1 _ iMin iMax w7 ((HX4.out _ hb47).1.sub (by decide)) (HX4.out _ hb47).2.1 (HX4.out _ hb47).2.2 (HStS.out.below hb47) HTx.out hu0 (by rw [HF1.out]; exact HMi.out))
      clear hu0
      go_wp2_with fail
      refine HRo.out.mono ?_
      rintro e w8 ⟨u1, ev, rfl, hev, hu1, hb8⟩
      have hb48 := hb47.trans (hb8.mono hb47.size)
      have hbw8 := hbwS.trans (hb48.mono hbwS.size)
      clear HRo
      by_cases hE : rowsE t.1.objs s1 iMin iMax = .nil
      case neg =>
        obtain ⟨t1, x1, rfl⟩ := hev.iface hE
        clear hE hu1 hev
        go_wp2_with fail
        go_ret
        exact ⟨rfl, hbw8⟩
      rw [hE] at hev
      obtain rfl : ev = .nilIface := hev
      obtain ⟨hA1, hA2, hA3, hA4, hA5⟩ := HAp.out t.1.objs hE
      have hlen := rows_lenK hE
      obtain ⟨A, hA⟩ : ∃ A, rowsL t.1.objs s1 iMin iMax = A := ⟨_, rfl⟩
      rw [hA] at hA3 hA4 hA5 hu1 hlen
      rw [HGe.out] at hA2 hA3
      obtain ⟨a8, c8, rfl, -, -⟩ := At.form' hu1
      have HU1 := Lib.hid hu1
      have HA1 := Lib.hid hA1
      have HA2 := Lib.hid hA2
      have HA3 := Lib.hid hA3
      have HA4 := Lib.hid (fun i => Nat.le_trans (hA4 i) hlen)
      have HA5' := Lib.hid (fun i => Nat.le_trans (hA5 i) hlen)
      have HLA : Hid (A.length ≤ 2400) := Lib.hid hlen
      have HSo8 := Lib.hid (HSo.out.below (hb7.trans (hb8.mono hb7.size)))
      have HP8 := Lib.hid (hb.trans ((hb7.trans (hb8.mono hb7.size)).mono hb.size))
      have HRs := Lib.hid (fun i f (h : t.2[i]? = some f) => restR_next (os := t.1.objs) (s := s1) (least := least) (i := i) (f := f) (by rw [HF1.out]; exact h))
      have HRp := Lib.hid (fun i fs (h : G[i]? = some fs) => plansR_next (os := t.1.objs) (s := s1) (least := least) (i := i) (fs := fs) (by rw [HGe.out]; exact h))
      have HRf : Hid (∀ f : Fl, restF least s1.files f = (!isG f && !decide (f.path ∈ (planF least s1.files).flatten.map (·.path)))) := Lib.hid fun f => rfl
      have HRn : Hid (restR t.1.objs s1 least 0 = []) := Lib.hid (by unfold restR; simp)
      have HPn : Hid (plansR t.1.objs s1 least 0 = []) := Lib.hid (by unfold plansR; simp)
      have HFl1 : Hid (s1.files.length = t.2.length) := Lib.hid (by rw [HF1.out])
      obtain ⟨RR, hRR⟩ : ∃ RR : Nat → List Rw, (fun i => restR t.1.objs s1 least i) = RR := ⟨_, rfl⟩
      obtain ⟨PP, hPP⟩ : ∃ PP : Nat → List Rw, (fun i => plansR t.1.objs s1 least i) = PP := ⟨_, rfl⟩
      obtain ⟨SS, hSS⟩ : ∃ SS, (planF least s1.files).flatten.map (·.path) = SS := ⟨_, rfl⟩
      have hr' : ∀ i, restR t.1.objs s1 least i = RR i := fun i => congrFun hRR i
      have hp' : ∀ i, plansR t.1.objs s1 least i = PP i := fun i => congrFun hPP i
      simp only [hr', hp', hSS] at HA3 HA4 HA5' HRs HRp HRf HRn HPn HSo8
      clear hE hA hu1 hA1 hA2 hA3 hA4 hA5 hlen hRR hPP hSS hr' hp' HSo
      go_wp2_with fail
      go_loopw [21, 22, 23, 24, 25] (fun rv i _ _ _ wr => ∃ (k : Nat) (vr : Value), k ≤ t.2.length ∧ i = .int .i64 k ∧ vr = rv ∧ Hid (Own encR 106 3 w8.heap.size wr vr (RR k)) ∧ Below w8.heap.size w8 wr) (fun _ i _ _ _ _ => t.2.length - (intOf i).toNat)
      case atStart => exact ⟨0, _, by omega, rfl, rfl, Lib.hid (by rw [HRn.out]; exact Own.nil _ _ _ _ _), Below.refl _ _⟩
      case round =>
        obtain ⟨k, vr, hk, rfl, rfl, hor, hb⟩ := hrel
        obtain ⟨wj, rfl⟩ : ∃ wj, wj = wr := ⟨wr, rfl⟩
        have hb4j := hb48.trans (hb.mono hb48.size)
        by_cases hlt : k < t.2.length
        case neg =>
          obtain rfl : k = t.2.length := by omega
          have f3 : decide ((t.2.length : Int) < (t.2.length : Int)) = false := by simp
          clear HRs HRf HRn HA1 HSo8 hb4j
          go_wp2_with fail
          go_loopw [21, 26, 27, 28] (fun rv i _ _ wr => ∃ (m : Nat) (vm : Value), m ≤ G.length ∧ i = .int .i64 m ∧ vm = rv ∧ Hid (Own encR 106 3 w8.heap.size wr vm (RR t.2.length ++ PP m)) ∧ Below w8.heap.size w8 wr) (fun _ i _ _ _ => G.length - (intOf i).toNat)
          case atStart => exact ⟨0, vr, by omega, rfl, rfl, Lib.hid (by rw [HPn.out, List.append_nil]; exact hor.out), hb⟩
          case round =>
            obtain ⟨m, vm, hm, rfl, rfl, hom, hbm⟩ := hrel
            obtain ⟨wm, rfl⟩ : ∃ wm, wm = wr := ⟨wr, rfl⟩
            have hb4m := hb48.trans (hbm.mono hb48.size)
            by_cases hltm : m < G.length
            case neg =>
              obtain rfl : m = G.length := by omega
              have f4 : decide ((G.length : Int) < (G.length : Int)) = false := by simp
              have hlq := HA5'.out G.length
              have hla := HLA.out
              have hperm := HA3.out
              rw [HFl1.out] at hperm
              obtain ⟨QQ, hQQ⟩ : ∃ QQ, RR t.2.length ++ PP G.length = QQ := ⟨_, rfl⟩
              rw [hQQ] at hom hperm
              have hlq' : QQ.length ≤ 2400 := by rw [← hQQ]; rw [HFl1.out] at hlq; exact hlq
              obtain ⟨a9, c9, rfl, -, -⟩ := At.form' (hom.out.at encR_enc)
              have hsame := rowSame_any (.slice a9 QQ.length c9) (.slice a8 A.length c8) QQ A wm (hom.out.at encR_enc) (HU1.out.below hbm) (by omega) (by omega)
              rw [decide_eq_true (sort_eq.2 hperm)] at hsame
              have HSame := Lib.hid hsame
              clear hsame hperm hQQ hlq hlq' hla hom
              go_wp2_with fail
              refine HSame.out.mono ?_
              rintro e wy ⟨rfl, hby⟩
              go_wp2_with fail
              go_ret
              exact ⟨rfl, hbw8.trans ((hbm.trans (hby.mono hbm.size)).mono hbw8.size)⟩
            have f4 : (m : Int) < (G.length : Int) := by omega
            obtain ⟨fs, hfs⟩ := get_ex hltm
            have h2 := HTwo.out m fs hfs
            obtain ⟨b1, o1, c1', e1, e2, -⟩ := HX6.out m fs hfs (by omega)
            have i1 := idx_at (c := c6) 1 Tryz.underlying33 (fun w => by kernel_rfl) HA6.out m hltm
            simp only [Nat.mul_one] at i1
            have HE1 := Lib.hid e1
            have HE2 := Lib.hid e2
            have HRe := Lib.hid (HA2.out m fs hfs)
            have HRn2 := Lib.hid (HRp.out m fs hfs)
            have hf15 : Hid (fs.length ≤ 15) := Lib.hid (by
              have h1 := HSl.out m fs hfs fs.length
              rw [List.length_append, List.length_take, List.length_map] at h1
              have := HLt.out
              omega)
            have hb6m := HP8.out.trans (hbm.mono HP8.out.size)
            have hd : Below wm.heap.size wm wm.drew := (Below.refl _ _).drew
            have hb4d := hb4m.trans (hd.mono hb4m.size)
            have hb6d := hb6m.trans (hd.mono hb6m.size)
            clear hfs e1 e2
            go_upto_region 48 with fail
            go_cut [27, 28] (fun u ev wx => ∃ u', u' = u ∧ ev = .nilIface ∧ Hid (RowsAt wx u' (rewL t.1.objs s1 (fs.map (·.path)))) ∧ Below wm.heap.size wm wx)
            case first =>
              obtain ⟨c0, c1, c2, c3, c4, c5, c6'⟩ := snRow7 (HGS.out _ hb4d)
              have x0 := (hb6d.cell (World.block_lt_of_cell? _ _ HE1.out)).trans HE1.out
              have hoX := HOwn.out _ hb4d
              unfold snapV at hoX
              have HoX := Lib.hid hoX
              clear hoX
              go_region_with (first
                | (go_at_call 15; (with_reducible refine HoX.out.mono ?_); rintro e w9 ⟨u9, rfl, hu9, hb9⟩; have hbX := hd.trans (hb9.mono hd.size); have hb6X := hb6m.trans (hbX.mono hb6m.size); obtain ⟨a9, c9, rfl, -, -⟩ := At.form' hu9; clear c0 c1 c2 c3 c4 c5 c6' x0; have x0 := (hb6X.cell (World.block_lt_of_cell? _ _ HE1.out)).trans HE1.out; have hRz := HRwr.out w9 _ _ (fs.map (·.path)) (hb4m.trans (hbX.mono hb4m.size)) hu9 (HE2.out.below hb6X) (by have := hf15.out; rw [List.length_map]; omega); unfold snapV at hRz; have HRz := Lib.hid hRz; clear hRz hu9 hb9)
                | (go_at_call 16; (with_reducible refine HRz.out.mono ?_); rintro e wz ⟨uz, ev, rfl, hev, huz, hbz⟩; rw [HRe.out] at hev; obtain rfl : ev = .nilIface := hev; have hbZ2 := hbX.trans (hbz.mono hbX.size); have HUz := Lib.hid huz; clear huz hbz))
              all_goals
                go_wp2_with fail
                go_meet
                exact ⟨_, rfl, rfl, HUz, hbZ2⟩
            case rest =>
            obtain ⟨u', rfl, rfl, hru, hbx⟩ := hcut
            obtain ⟨wx, rfl⟩ : ∃ wx, wx = wc := ⟨wc, rfl⟩
            obtain ⟨L1, hL1⟩ : ∃ L1, rewL t.1.objs s1 (fs.map (·.path)) = L1 := ⟨_, rfl⟩
            rw [hL1] at hru HRn2
            have hbmx := hbm.trans (hbx.mono hbm.size)
            obtain ⟨a9, c9, rfl, -, -⟩ := At.form' hru.out
            have hsrc := hru.out.src encR_enc (by decide)
            have hq1 := HA5'.out (m + 1)
            rw [HFl1.out, HRn2.out, ← List.append_assoc, List.length_append] at hq1
            obtain ⟨QQ, hQQ⟩ : ∃ QQ, RR t.2.length ++ PP m = QQ := ⟨_, rfl⟩
            rw [hQQ] at hq1
            have HOx : Hid (Own encR 106 3 w8.heap.size wx vm QQ) := Lib.hid (by rw [← hQQ]; exact hom.out.below hbx)
            have HQe : Hid (RR t.2.length ++ PP (m + 1) = QQ ++ L1) := Lib.hid (by rw [HRn2.out, ← List.append_assoc, hQQ])
            clear hL1 hru hom hQQ
            go_wp2_with (at_builtin; refine wpList_app rfl _ _ _ rfl w8.heap.size elRw vm QQ.length _ rfl HOx.out _ _ _ rfl hsrc (by unfold maxLen; omega) (by omega) hbmx.size ?_; intro vy wy hown hgy _)
            have hoy := own_app hown
            go_roundw
            case rel => exact ⟨m + 1, vy, by omega, by go_num, rfl, Lib.hid (by rw [HQe.out]; exact hoy), Bapp hbmx HOx.out hgy (Nat.le_refl _) hbmx.size⟩
            case measure => simp [intOf]; omega
        have f3 : (k : Int) < (t.2.length : Int) := by omega
        obtain ⟨f, hf⟩ := get_ex hlt
        obtain ⟨d0, d1, d2, d3, d4, d5⟩ := flCells HXu.out hb4j hf
        have i1 := idx_at (c := cu) 6 Tryz.underlying23 szFl HAu.out k hlt
        have hrn := HRs.out k f hf
        rw [HRf.out] at hrn
        cases hg : isG f with
        | true =>
          have g1 : (f.part == [45]) = true := hg
          rw [hg, Bool.not_true, Bool.false_and, if_neg (by decide), List.append_nil] at hrn
          have HRn1 := Lib.hid hrn
          clear hrn hg hf
          go_wp2_with fail
          go_roundw
          case rel => exact ⟨k + 1, vr, by omega, by go_num, rfl, Lib.hid (by rw [HRn1.out]; exact hor.out), hb⟩
          case measure => simp [intOf]; omega
        | false =>
        have g1 : (f.part == [45]) = false := hg
        rw [hg, Bool.not_false, Bool.true_and] at hrn
        have hin := inTexts_any f.path vs SS wj (HSo8.out.below hb)
        by_cases hmem : f.path ∈ SS
        case pos =>
          rw [decide_eq_true hmem] at hin hrn
          rw [Bool.not_true, if_neg (by decide), List.append_nil] at hrn
          have HRn1 := Lib.hid hrn
          have HIn := Lib.hid hin
          clear hrn hg hf hin hmem
          go_wp2_with fail
          refine HIn.out.mono ?_
          rintro e wk ⟨rfl, hbk⟩
          go_wp2_with fail
          go_roundw
          case rel => exact ⟨k + 1, vr, by omega, by go_num, rfl, Lib.hid (by rw [HRn1.out]; exact hor.out.below hbk), hb.trans (hbk.mono hb.size)⟩
          case measure => simp [intOf]; omega
        rw [decide_eq_false hmem] at hin hrn
        rw [Bool.not_false, if_pos rfl] at hrn
        have HRn1 := Lib.hid hrn
        have HIn := Lib.hid hin
        have HRe := Lib.hid (HA1.out f (by rw [HF1.out]; exact List.mem_of_getElem? hf) hg)
        have HFc := Lib.hid (fun W (h : Below w4.heap.size w4 W) => flCells HXu.out h hf)
        clear hrn hg hf hin hmem
        go_wp2_with fail
        refine HIn.out.mono ?_
        rintro e wk ⟨rfl, hbk⟩
        have hb8k := hb.trans (hbk.mono hb.size)
        have hb4k := hb48.trans (hb8k.mono hb48.size)
        have Hor := Lib.hid (hor.out.below hbk)
        clear hor d0 d1 d2 d3 d4 d5
        go_upto_region 41 with fail
        have hd : Below wk.heap.size wk wk.drew := (Below.refl _ _).drew
        have hdA : Below wk.heap.size wk ((wk.alloc (.cells #[S f.path] 9)).drew) := ((Below.refl _ _).alloc (Nat.le_refl _) _).drew
        have hb4d := hb4k.trans (hd.mono hb4k.size)
        have hb4A := hb4k.trans (hdA.mono hb4k.size)
        go_cut [24, 25] (fun u ev wx => ∃ u', u' = u ∧ ev = .nilIface ∧ Hid (RowsAt wx u' (rewL t.1.objs s1 [f.path])) ∧ Below wk.heap.size wk wx)
        case first =>
          obtain ⟨c0, c1, c2, c3, c4, c5, c6⟩ := snRow7 (HGS.out _ hb4d)
          obtain ⟨e0, e1, e2, e3, e4, e5, e6⟩ := snRow7 (HGS.out _ hb4A)
          obtain ⟨d0, -, -, -, -, -⟩ := HFc.out _ hb4d
          have hoX := HOwn.out _ hb4d
          have hoY := HOwn.out _ hb4A
          unfold snapV at hoX hoY
          have HoX := Lib.hid hoX
          have HoY := Lib.hid hoY
          clear hoX hoY
          have HsY : Hid (StrsAt ((wk.alloc (.cells #[S f.path] 9)).drew) (.slice (some ⟨wk.heap.size, 0, none⟩) 1 1) [f.path]) := Lib.hid ((str_newK wk f.path).below (Below.refl _ _).drew)
          go_region_with (first
            | (go_at_call 15; (with_reducible refine HoX.out.mono ?_); go_loud (rintro e w9 ⟨u9, rfl, hu9, hb9⟩; have hbX := hd.trans (hb9.mono hd.size); have hbX4 := hb4k.trans (hbX.mono hb4k.size); obtain ⟨a9, c9, rfl, -, -⟩ := At.form' hu9; clear c0 c1 c2 c3 c4 c5 c6 e0 e1 e2 e3 e4 e5 e6 d0; obtain ⟨d0, -, -, -, -, -⟩ := HFc.out _ hbX4; have hbb : Below w9.heap.size w9 (w9.alloc (.cells #[S f.path] 9)) := (Below.refl _ _).alloc (Nat.le_refl _) _; have hbZ := hbX.trans (hbb.mono hbX.size); have hRz := HRwr.out _ _ _ [f.path] (hb4k.trans (hbZ.mono hb4k.size)) (hu9.below hbb) (str_newK w9 f.path) (by simp); unfold snapV at hRz; have HRz := Lib.hid hRz; clear hRz; clear hu9 hb9))
            | (go_at_call 15; (with_reducible refine HoY.out.mono ?_); rintro e w9 ⟨u9, rfl, hu9, hb9⟩; have hbZ := hdA.trans (hb9.mono hdA.size); obtain ⟨a9, c9, rfl, -, -⟩ := At.form' hu9; clear c0 c1 c2 c3 c4 c5 c6 e0 e1 e2 e3 e4 e5 e6 d0; have hRz := HRwr.out _ _ _ [f.path] (hb4k.trans (hbZ.mono hb4k.size)) hu9 (HsY.out.below hb9) (by simp); unfold snapV at hRz; have HRz := Lib.hid hRz; clear hRz; clear hu9 hb9)
            | (go_at_call 16; (with_reducible refine HRz.out.mono ?_); rintro e wz ⟨uz, ev, rfl, hev, huz, hbz⟩; rw [HRe.out] at hev; obtain rfl : ev = .nilIface := hev; have hbZ2 := hbZ.trans (hbz.mono hbZ.size); have HUz := Lib.hid huz; clear huz hbz))
          all_goals
            go_wp2_with fail
            go_meet
            exact ⟨_, rfl, rfl, HUz, hbZ2⟩
        case rest =>
        obtain ⟨u', rfl, rfl, hru, hbx⟩ := hcut
        obtain ⟨wx, rfl⟩ : ∃ wx, wx = wc := ⟨wc, rfl⟩
        obtain ⟨L1, hL1⟩ : ∃ L1, rewL t.1.objs s1 [f.path] = L1 := ⟨_, rfl⟩
        rw [hL1] at hru HRn1
        have hb8x := hb8k.trans (hbx.mono hb8k.size)
        obtain ⟨a9, c9, rfl, -, -⟩ := At.form' hru.out
        have hsrc := hru.out.src encR_enc (by decide)
        have HOx := Lib.hid (Hor.out.below hbx)
        have hq1 := HA4.out (k + 1)
        rw [HRn1.out, List.length_append] at hq1
        clear hL1 hru
        go_wp2_with (at_builtin; refine wpList_app rfl _ _ _ rfl w8.heap.size elRw vr (RR k).length _ rfl HOx.out _ _ _ rfl hsrc (by unfold maxLen; omega) (by omega) hb8x.size ?_; intro vy wy hown hgy _)
        have hoy := own_app hown
        go_roundw
        case rel => exact ⟨k + 1, vy, by omega, by go_num, rfl, Lib.hid (by rw [HRn1.out]; exact hoy), Bapp hb8x HOx.out hgy (Nat.le_refl _) hb8x.size⟩
        case measure => simp [intOf]; omega
    have f1 : (k : Int) < (G.length : Int) := by omega
    obtain ⟨fs, hfs⟩ := get_ex hlt
    have h2 := HTwo.out k fs hfs
    obtain ⟨b1, o1, c1', e1, e2, e3⟩ := HX6.out k fs hfs (by omega)
    have x0 := (hb.cell (World.block_lt_of_cell? _ _ e1)).trans e1
    have i1 := idx_at (c := c6) 1 Tryz.underlying33 (fun w => by kernel_rfl) HA6.out k hlt
    simp only [Nat.mul_one] at i1
    have HE1 := Lib.hid e1
    have HE3 := Lib.hid e3
    have HKf := Lib.hid (fun m f hm => (⟨HK.out k m fs f hfs hm, HKn.out k m fs f hfs hm⟩ : KeepAt least t.2 k m fs f ∧ f.path ∉ seenP P k ++ (fs.map (·.path)).take m))
    have HSk := Lib.hid (fun m => HSl.out k fs hfs m)
    have hf15 : fs.length ≤ 15 := by
      have h1 := HSk.out fs.length
      rw [List.length_append, List.length_take, List.length_map] at h1
      have := HLt.out
      omega
    have HNx : Hid (seenP P (k + 1) = seenP P k ++ (fs.map (·.path)).take fs.length) := Lib.hid (by
      rw [seenP_next (p := fs.map (·.path)) (by rw [← HPe.out, List.getElem?_map, hfs]; rfl)]
      congr 1
      exact (List.take_of_length_le (by simp)).symm)
    have HS0 : Hid (seenP P k = seenP P k ++ (fs.map (·.path)).take 0) := Lib.hid (by simp)
    have HTk := Lib.hid (fun m f (hm : fs[m]? = some f) => (by rw [take_next (by rw [List.getElem?_map, hm]; rfl), List.append_assoc] : seenP P k ++ (fs.map (·.path)).take (m + 1) = (seenP P k ++ (fs.map (·.path)).take m) ++ [f.path]))
    clear hfs e1 e2 e3
    go_wp2_with fail
    go_loopw [13, 15, 16, 17, 18, 19] (fun sv n pt j _ _ wq => ∃ (m : Nat) (vi : Value) (q : Str) (nn : Int), m ≤ fs.length ∧ j = .int .i64 m ∧ vi = sv ∧ n = .int .i64 nn ∧ pt = S q ∧ Hid (nn = sumN (fs.take m)) ∧ Hid (m = 0 ∨ q = (mkG fs).part) ∧ (0 ≤ nn ∧ nn ≤ 40) ∧ Hid (Own encS 9 1 w6.heap.size wq vi (seenP P k ++ (fs.map (·.path)).take m)) ∧ Below w6.heap.size w6 wq) (fun _ _ _ j _ _ _ => fs.length - (intOf j).toNat)
    case atStart => exact ⟨0, vs, [], 0, by omega, rfl, rfl, rfl, rfl, Lib.hid rfl, Lib.hid (.inl rfl), by omega, Lib.hid (by rw [← HS0.out]; exact ho.out), hb⟩
    case round =>
      obtain ⟨m, vi, q, nn, hm, rfl, rfl, rfl, rfl, hnn, hq, hn4, hoi, hbi⟩ := hrel
      obtain ⟨wi, rfl⟩ : ∃ wi, wi = wr := ⟨wr, rfl⟩
      have x0 := (hbi.cell (World.block_lt_of_cell? _ _ HE1.out)).trans HE1.out
      by_cases hlm : m < fs.length
      case neg =>
        obtain rfl : m = fs.length := by omega
        have f2 : decide ((fs.length : Int) < (fs.length : Int)) = false := by simp
        have f3 : decide ((fs.length : Int) < 2) = false := by simp; omega
        have f4 : decide (fs.length < 2) = false := by simp; omega
        have f5 : decide (40 < nn) = false := by simp; omega
        go_wp2_with fail
        go_roundw
        case rel => exact ⟨k + 1, vi, by omega, by go_num, rfl, Lib.hid (by rw [HNx.out]; exact hoi.out), hbi⟩
        case measure => simp [intOf]; omega
      have f2 : (m : Int) < (fs.length : Int) := by omega
      obtain ⟨f, hf⟩ := get_ex hlm
      obtain ⟨hK, hKn⟩ := HKf.out m f hf
      obtain ⟨j, hj, hjf⟩ := hK.fd
      have hjl := (List.getElem?_eq_some_iff.1 hjf).1
      have p0 := (hbi.cell (World.block_lt_of_cell? _ _ (HE3.out m f hf))).trans (HE3.out m f hf)
      have i2 := idx_at (c := c1') 1 Tryz.underlying39 szStr (a := some ⟨b1, o1, none⟩) (n := fs.length) (fun _ => rfl) m hlm
      simp only [Nat.mul_one] at i2
      have hfo := findOf_any (.slice au t.2.length cu) t.2 f.path wi (HFS.out.below (hb46.trans (hbi.mono hb46.size)))
      rw [hj] at hfo
      have HFo := Lib.hid hfo
      have hin := inTexts_any f.path vi _ wi (hoi.out.at encS_enc)
      rw [decide_eq_false hKn] at hin
      have HIn := Lib.hid hin
      have HKe := Lib.hid hK
      have g0 : decide ((j : Int) < 0) = false := by simp
      have HP0 := Lib.hid (HE3.out m f hf)
      have HTm := Lib.hid (HTk.out m f hf)
      have HXj := Lib.hid (fun W (h : Below w4.heap.size w4 W) => flCells HXu.out h hjf)
      have HSm := HSk.out m
      clear hf hK hKn hj hfo hin hjf
      go_wp2_with fail
      refine HFo.out.mono ?_
      rintro e w7 ⟨rfl, rfl⟩
      clear HFo
      go_wp2_with fail
      refine HIn.out.mono ?_
      rintro e w8 ⟨rfl, hb8⟩
      have hb68 := hbi.trans (hb8.mono hbi.size)
      have hb48 := hb46.trans (hb68.mono hb46.size)
      have Ho8 := Lib.hid (hoi.out.below hb8)
      clear HIn x0 p0
      obtain ⟨d0, d1, d2, d3, d4, d5⟩ := HXj.out w8 hb48
      have i3 := idx_at (c := cu) 6 Tryz.underlying23 szFl HAu.out j hjl
      have hji : (j : Int) < (t.2.length : Int) := by omega
      have hA : Below w8.heap.size w8 (w8.alloc (fileO f)) := (Below.refl _ _).alloc (Nat.le_refl _) _
      have hgA := heap_alloc_new w8 (fileO f)
      have HoA := Lib.hid (Ho8.out.below hA)
      have hb6A := hb68.trans (hA.mono hb68.size)
      go_upto_region 24 with fail
      clear d0 d1 d2 d3 d4 d5 i3
      generalize w8.alloc (fileO f) = wA at *
      obtain ⟨Q, hQ⟩ : ∃ Q, w8.heap.size = Q := ⟨_, rfl⟩
      rw [hQ] at hgA ⊢
      clear hQ
      obtain ⟨c0, c1, c2, c3, c4, c5⟩ := rowF6 hgA
      clear hgA
      have x0 := (hb6A.cell (World.block_lt_of_cell? _ _ HE1.out)).trans HE1.out
      have p0 := (hb6A.cell (World.block_lt_of_cell? _ _ HP0.out)).trans HP0.out
      have g1 : (f.part == [45]) = false := HKe.out.dat
      have g2 : f.n < least := HKe.out.few
      have g3 : decide (least ≤ f.n) = false := by simp; omega
      have hsm := HKe.out.sm
      have hfn := HKe.out.nn
      have hnn' := hnn.out
      have hw : wrap64 (nn + f.n) = nn + f.n := IntWalk.wrap64_in _ (by omega)
      have HNn : Hid (nn + f.n = sumN (fs.take (m + 1))) := Lib.hid (by rw [hnn', HKe.out.nx])
      have hn40 : 0 ≤ nn + f.n ∧ nn + f.n ≤ 40 := by omega
      have HL1 : Hid ((seenP P k ++ (fs.map (·.path)).take m).length ≤ 15) := Lib.hid (by have := HLt.out; omega)
      have HPt := Lib.hid HKe.out.part
      clear hsm hnn' HKe HSm
      obtain ⟨L1, hL1⟩ : ∃ L1, seenP P k ++ (fs.map (·.path)).take m = L1 := ⟨_, rfl⟩
      rw [hL1] at HoA HTm HL1
      clear hL1
      by_cases hm0 : m = 0
      case pos =>
        have g5 : decide (0 < m) = false := by simp; omega
        have g6 : decide ((0 : Int) < (m : Int)) = false := by simp; omega
        clear hm0
        go_wp2_with (at_builtin; refine wpList_app rfl _ _ _ rfl w6.heap.size elStr vi L1.length _ rfl (HoA.out.alloc _) (.slice (some ⟨wA.heap.size, 0, none⟩) 1 1) 1 (encS f.path) rfl (src_one rfl rfl (by simp [Value.oneCell'])) (by have := HL1.out; unfold maxLen; omega) (by have := HL1.out; omega) (by have h2 := hb6A.size; simp; omega) ?_; intro v3 w3 hown hg3 _)
        have ho3 := Own.snoc hown
        go_roundw
        case rel => exact ⟨m + 1, v3, f.part, nn + f.n, by omega, by go_num, rfl, rfl, rfl, HNn, Lib.hid (.inr HPt.out), hn40, Lib.hid (by rw [HTm.out]; exact ho3), Bapp (hb6A.alloc hb6A.size _) (HoA.out.alloc _) hg3 (Nat.le_refl _) (by have := hb6A.size; simp; omega)⟩
        case measure => simp [intOf]; omega
      have g5 : 0 < m := by omega
      have g6 : (0 : Int) < (m : Int) := by omega
      obtain rfl : q = f.part := by rw [HPt.out]; exact hq.out.resolve_left hm0
      have g7 : (f.part != f.part) = false := by simp
      clear hm0
      go_wp2_with (at_builtin; refine wpList_app rfl _ _ _ rfl w6.heap.size elStr vi L1.length _ rfl (HoA.out.alloc _) (.slice (some ⟨wA.heap.size, 0, none⟩) 1 1) 1 (encS f.path) rfl (src_one rfl rfl (by simp [Value.oneCell'])) (by have := HL1.out; unfold maxLen; omega) (by have := HL1.out; omega) (by have h2 := hb6A.size; simp; omega) ?_; intro v3 w3 hown hg3 _)
      have ho3 := Own.snoc hown
      go_roundw
      case rel => exact ⟨m + 1, v3, f.part, nn + f.n, by omega, by go_num, rfl, rfl, rfl, HNn, Lib.hid (.inr HPt.out), hn40, Lib.hid (by rw [HTm.out]; exact ho3), Bapp (hb6A.alloc hb6A.size _) (HoA.out.alloc _) hg3 (Nat.le_refl _) (by have := hb6A.size; simp; omega)⟩
      case measure => simp [intOf]; omega
end Go.Proofs.YtpfohfihkmjnaaaGreatDoor
namespace Go.Proofs.YtpfohfihkmjnaaaGreatDoor
open Go.RowKit Go.ChangeShapes Go.WideShapes
def errName : Nat → String
  | 1 => "deedbox/api.ErrText" | 2 => "deedbox/api.ErrBound" | 3 => "deedbox/api.ErrShape" | 4 => "deedbox/api.ErrKind" | 5 => "deedbox/api.ErrName" | 6 => "deedbox/api.ErrNone"
  | 7 => "deedbox/api.ErrExist" | 8 => "deedbox/api.ErrFull" | 9 => "deedbox/api.ErrOrder" | 10 => "deedbox/api.ErrSum" | 11 => "deedbox/api.ErrStale" | _ => "deedbox/api.ErrOff"
theorem errName_inj : ∀ c ∈ allE, ∀ d ∈ allE, errName c = errName d → c = d := by decide
theorem laidVars_get {P : Program} {w : World} : ∀ {L : List (String × DataW Unit)} {ps : List MemPlace} {i : Nat} {n : String} {d : DataW Unit}, DataW.LaidVars P w L ps → L[i]? = some (n, d) →
    ∃ g t cs fuel p, P.globalNamed n = some g ∧ (P.globals[g]?).map (·.type) = some t ∧ w.var? P n = some cs ∧ DataW.trod (fun _ => ()) P w 0 (fun _ => true) false fuel t cs.toList = some (d, p) ∧ ∀ x ∈ MemPlace.row ⟨g, 0, none⟩ cs.size ++ p, x ∈ ps
  | [], _, i, n, d, _, hi => by simp at hi
  | (n0, d0) :: r, ps, 0, n, d, h, hi => by
    obtain ⟨g, t, cs, fuel, p, q, h1, h2, h3, h4, _, rfl⟩ := h
    simp only [List.getElem?_cons_zero, Option.some.injEq, Prod.mk.injEq] at hi
    obtain ⟨rfl, rfl⟩ := hi
    exact ⟨g, t, cs, fuel, p, h1, h2, h3, h4, fun x hx => List.mem_append_left _ hx⟩
  | (n0, d0) :: r, ps, i + 1, n, d, h, hi => by
    obtain ⟨g, t, cs, fuel, p, q, _, _, _, _, h5, rfl⟩ := h
    obtain ⟨g', t', cs', fuel', p', h1, h2, h3, h4, h6⟩ := laidVars_get h5 (by simpa using hi)
    exact ⟨g', t', cs', fuel', p', h1, h2, h3, h4, fun x hx => List.mem_append_right _ (h6 x hx)⟩
theorem laidVars_apart {P : Program} {w : World} : ∀ {L : List (String × DataW Unit)} {ps : List MemPlace} {i j : Nat} {n m : String} {d e : DataW Unit}, DataW.LaidVars P w L ps → ps.Nodup → i < j → L[i]? = some (n, d) → L[j]? = some (m, e) →
    ∃ (g : Nat) (t : TypeId) (cs : Array Value) (fuel : Nat) (p : List MemPlace) (g' : Nat) (t' : TypeId) (cs' : Array Value) (fuel' : Nat) (p' : List MemPlace), P.globalNamed n = some g ∧ (P.globals[g]?).map (·.type) = some t ∧ w.var? P n = some cs ∧ DataW.trod (fun _ => ()) P w 0 (fun _ => true) false fuel t cs.toList = some (d, p) ∧
      P.globalNamed m = some g' ∧ (P.globals[g']?).map (·.type) = some t' ∧ w.var? P m = some cs' ∧ DataW.trod (fun _ => ()) P w 0 (fun _ => true) false fuel' t' cs'.toList = some (e, p') ∧ ∀ x ∈ p, x ∉ p'
  | [], _, i, j, n, m, d, e, _, _, _, hi, _ => by simp at hi
  | (n0, d0) :: r, ps, 0, j + 1, n, m, d, e, h, hnd, _, hi, hj => by
    obtain ⟨g, t, cs, fuel, p, q, h1, h2, h3, h4, h5, rfl⟩ := h
    simp only [List.getElem?_cons_zero, Option.some.injEq, Prod.mk.injEq] at hi
    obtain ⟨rfl, rfl⟩ := hi
    obtain ⟨g', t', cs', fuel', p', h1', h2', h3', h4', h6⟩ := laidVars_get h5 (by simpa using hj)
    refine ⟨g, t, cs, fuel, p, g', t', cs', fuel', p', h1, h2, h3, h4, h1', h2', h3', h4', fun x hx hx' => ?_⟩
    have hd := (List.nodup_append.1 hnd).2.2
    exact hd x (List.mem_append_right _ hx) x (h6 x (List.mem_append_right _ hx')) rfl
  | (n0, d0) :: r, ps, i + 1, j + 1, n, m, d, e, h, hnd, hij, hi, hj => by
    obtain ⟨g, t, cs, fuel, p, q, _, _, _, _, h5, rfl⟩ := h
    exact laidVars_apart (i := i) (j := j) h5 (List.nodup_append.1 hnd).2.1 (by omega) (by simpa using hi) (by simpa using hj)
  | _ :: _, _, _, 0, _, _, _, _, _, _, hij, _, _ => by omega
/-- Behind what address a variable's error lies. -/
noncomputable def addrOf (W : World) (c : Nat) : Addr :=
  match W.var? Tryz.prog (errName c) with
  | some #[.iface _ (.pointer (some a))] => a
  | _ => ⟨0, 0, none⟩
theorem gn1 : Tryz.prog.globalNamed (errName 1) = some (errG 1) := by kernel_rfl
theorem gn2 : Tryz.prog.globalNamed (errName 2) = some (errG 2) := by kernel_rfl
theorem gn3 : Tryz.prog.globalNamed (errName 3) = some (errG 3) := by kernel_rfl
theorem gn4 : Tryz.prog.globalNamed (errName 4) = some (errG 4) := by kernel_rfl
theorem gn5 : Tryz.prog.globalNamed (errName 5) = some (errG 5) := by kernel_rfl
theorem gn6 : Tryz.prog.globalNamed (errName 6) = some (errG 6) := by kernel_rfl
theorem gn7 : Tryz.prog.globalNamed (errName 7) = some (errG 7) := by kernel_rfl
theorem gn8 : Tryz.prog.globalNamed (errName 8) = some (errG 8) := by kernel_rfl
theorem gn9 : Tryz.prog.globalNamed (errName 9) = some (errG 9) := by kernel_rfl
theorem gn10 : Tryz.prog.globalNamed (errName 10) = some (errG 10) := by kernel_rfl
theorem gn12 : Tryz.prog.globalNamed (errName 12) = some (errG 12) := by kernel_rfl
theorem gt1 : (Tryz.prog.globals[errG 1]?).map (·.type) = some 35 := by kernel_rfl
theorem gt2 : (Tryz.prog.globals[errG 2]?).map (·.type) = some 35 := by kernel_rfl
theorem gt3 : (Tryz.prog.globals[errG 3]?).map (·.type) = some 35 := by kernel_rfl
theorem gt4 : (Tryz.prog.globals[errG 4]?).map (·.type) = some 35 := by kernel_rfl
theorem gt5 : (Tryz.prog.globals[errG 5]?).map (·.type) = some 35 := by kernel_rfl
theorem gt6 : (Tryz.prog.globals[errG 6]?).map (·.type) = some 35 := by kernel_rfl
theorem gt7 : (Tryz.prog.globals[errG 7]?).map (·.type) = some 35 := by kernel_rfl
theorem gt8 : (Tryz.prog.globals[errG 8]?).map (·.type) = some 35 := by kernel_rfl
theorem gt9 : (Tryz.prog.globals[errG 9]?).map (·.type) = some 35 := by kernel_rfl
theorem gt10 : (Tryz.prog.globals[errG 10]?).map (·.type) = some 35 := by kernel_rfl
theorem gt12 : (Tryz.prog.globals[errG 12]?).map (·.type) = some 35 := by kernel_rfl
theorem starE : "*" ++ "errors.errorString" = "*errors.errorString" := by decide
theorem rowE (u : TypeId) (h : Tryz.prog.typeName? 3 u = some "*errors.errorString") : u = 320 :=
  typeName_ptr_named (nm := "errors.errorString") (by rw [starE]; kernel_rfl) (by kernel_rfl) (by decide) u (by rw [starE]; exact h)
theorem cellsErrStr : Tryz.prog.cellsOf 322 = 1 := by kernel_rfl
theorem cellsStr : Tryz.prog.cellsOf 9 = 1 := by kernel_rfl
set_option maxRecDepth 100000 in
/-- WHAT THE CONDITION GIVES THE WALKS: the sentinels of the numbers D, where the list L bears each at the place idx says. -/
theorem errs_of_laid {L : List (String × DataW Unit)} {W : World} (h : laidMet Tryz.prog L W) (D : List Nat) (idx : Nat → Nat) (hD : ∀ c ∈ D, c ∈ allE)
    (hg : ∀ c ∈ D, Tryz.prog.globalNamed (errName c) = some (errG c)) (ht : ∀ c ∈ D, (Tryz.prog.globals[errG c]?).map (·.type) = some 35)
    (hL : ∀ c ∈ D, ∃ text, L[idx c]? = some (errName c, .iface "*errors.errorString" (.ptr (.agg [.lit (.string text)])))) :
    Errs D (addrOf W) W.heap.size W := by
  obtain ⟨ps, hv, hnd, hrows⟩ := h
  have key : ∀ c ∈ D, ∀ {g t cs fuel p text}, Tryz.prog.globalNamed (errName c) = some g → (Tryz.prog.globals[g]?).map (·.type) = some t → W.var? Tryz.prog (errName c) = some cs →
      DataW.trod (fun _ => ()) Tryz.prog W 0 (fun _ => true) false fuel t cs.toList = some (.iface "*errors.errorString" (.ptr (.agg [.lit (.string text)])), p) → (∀ x ∈ MemPlace.row ⟨g, 0, none⟩ cs.size, x ∈ ps) →
      W.cell? ⟨errG c, 0, none⟩ = some (.iface 320 (.pointer (some (addrOf W c)))) ∧ (∃ s, W.cell? (addrOf W c) = some (.string s)) ∧ p = MemPlace.row (addrOf W c) 1 := by
    intro c hc g t cs fuel p text h1 h2 h3 h4 h5
    obtain rfl := Option.some.inj ((hg c hc).symm.trans h1)
    obtain rfl := Option.some.inj ((ht c hc).symm.trans h2)
    obtain ⟨l0⟩ := cs
    have ok0 : ∀ u v, l0 = [.iface u v] → Value.okWide Tryz.prog W .any 0 u v := fun u v e => by
      subst e
      exact (hrows (errG c) 0 (h5 _ (by simp [MemPlace.row]))).2 u v (by simpa using World.var?_cell h1 h3 0)
    obtain ⟨a0, s0, rfl, hc0, hs0, hz0, rfl⟩ := errorString_of_trod Tryz.underlying35 rowE Tryz.underlying320 Tryz.underlying322 rfl rfl Tryz.underlying9 cellsErrStr cellsStr h4 ok0
    have ea : addrOf W c = a0 := by
      unfold addrOf
      rw [h3]
      exact rfl
    refine ⟨?_, ⟨s0, by rw [ea]; exact hc0⟩, by rw [ea]⟩
    rw [ea]
    simpa using World.var?_cell h1 h3 0
  have get : ∀ c ∈ D, W.cell? ⟨errG c, 0, none⟩ = some (.iface 320 (.pointer (some (addrOf W c)))) ∧ (∃ s, W.cell? (addrOf W c) = some (.string s)) ∧ MemPlace.cell (addrOf W c).block (addrOf W c).off ∈ ps := by
    intro c hc
    obtain ⟨text, hl⟩ := hL c hc
    obtain ⟨g, t, cs, fuel, p, h1, h2, h3, h4, h5⟩ := laidVars_get hv hl
    obtain ⟨k1, k2, rfl⟩ := key c hc h1 h2 h3 h4 (fun x hx => h5 x (List.mem_append_left _ hx))
    exact ⟨k1, k2, h5 _ (List.mem_append_right _ (by simp [MemPlace.row]))⟩
  have apart : ∀ c ∈ D, ∀ d ∈ D, idx c < idx d → addrOf W c ≠ addrOf W d := by
    intro c hc d hd hlt he
    obtain ⟨t1, hl1⟩ := hL c hc
    obtain ⟨t2, hl2⟩ := hL d hd
    obtain ⟨g, t, cs, fuel, p, g', t', cs', fuel', p', a1, a2, a3, a4, b1, b2, b3, b4, hap⟩ := laidVars_apart hv hnd hlt hl1 hl2
    obtain ⟨g0, t0, cs0, f0, p0, u1, u2, u3, u4, u5⟩ := laidVars_get hv hl1
    obtain ⟨g0', t0', cs0', f0', p0', v1, v2, v3, v4, v5⟩ := laidVars_get hv hl2
    obtain rfl := Option.some.inj (a1.symm.trans u1)
    obtain rfl := Option.some.inj (a3.symm.trans u3)
    obtain rfl := Option.some.inj (b1.symm.trans v1)
    obtain rfl := Option.some.inj (b3.symm.trans v3)
    obtain ⟨_, _, rfl⟩ := key c hc a1 a2 a3 a4 (fun x hx => u5 x (List.mem_append_left _ hx))
    obtain ⟨_, _, rfl⟩ := key d hd b1 b2 b3 b4 (fun x hx => v5 x (List.mem_append_left _ hx))
    rw [he] at hap
    exact hap (.cell (addrOf W d).block (addrOf W d).off) (by simp [MemPlace.row]) (by simp [MemPlace.row])
  refine ⟨fun c hc => (get c hc).1, fun c hc => (hrows _ _ (get c hc).2.2).1, fun c hc => ?_, fun c hc d hd he => ?_, Nat.le_refl _⟩
  · obtain ⟨k1, ⟨s, k2⟩, _⟩ := get c hc
    exact ⟨World.block_lt_of_cell? W _ k2, World.block_lt_of_cell? W ⟨errG c, 0, none⟩ k1⟩
  · rcases Nat.lt_trichotomy (idx c) (idx d) with h | h | h
    · exact absurd he (apart c hc d hd h)
    · obtain ⟨t1, hl1⟩ := hL c hc
      obtain ⟨t2, hl2⟩ := hL d hd
      rw [h, hl2] at hl1
      have : errName d = errName c := by simpa using congrArg (fun x => x.1) (Option.some.inj hl1)
      exact errName_inj c (hD c hc) d (hD d hd) this.symm
    · exact absurd he.symm (apart d hd c hc h)
end Go.Proofs.YtpfohfihkmjnaaaGreatDoor
namespace Go.Proofs.YtpfohfihkmjnaaaGreatDoor
open Go.ChangeShapes Go.WideShapes Go.ChangeAt Go.RowKit
theorem handed_both {H : Type} {enc : TypeId × Value → H} {a : Assume} {C : Checked} {os : Os} {f : FuncId} {fn : Func} {s : ChangeSpec} {conds : List PathCond} {apart fresh handsOn again : Bool} {X : World → Array Value → Prop}
    (hX : ∀ (w w' : World) (args : Array Value), w.heap = w'.heap → X w args → X w' args)
    (own : ownKnob C.prog.godebug = none) (started : os.Started) (noInit : C.prog.inits.idxOf? f = none) (hfn : C.prog.funcs[f]? = some fn)
    (witness : ∃ (w : World) (tape : Tape) (i : Input), w.os = os ∧ (w.forCall tape i).Shaped C.prog ∧ i.vars = [] ∧ Input.okWide C.prog (w.forCall tape i) .any w.heap.size f i ∧
      ((s.pre enc C.prog fn conds apart (w.forCall tape i).memory i.args ∧ X (w.forCall tape i).memory i.args) ∧ sizedMet enc C.prog fn (OpenSpec.ofChange s) apart (w.forCall tape i).memory i.args) ∧ a.holds C.prog (lone (Frame.enter C.prog f i.args .normal) [] (w.forCall tape i)))
    (contract : ∀ (W : World) (base : Nat) (args : Array Value) (ds gs : List (DataW H)) (before : List MemPlace),
      (∀ (j : Nat) t v, fn.params[j]? = some t → args[j]? = some v → Value.okWide C.prog W .any base t v) →
      DataW.Whole enc C.prog fn.params.toList s.vars apart W args.toList ds gs before → X W args → W.ShapedOpen C.prog →
      Calls C.prog f args W fun e W' => ∃ v, e = .returned v ∧ s.post enc C.prog fn apart fresh handsOn again W args v W') :
    ReturnsInHanded a C os f .any (fun w args => (s.pre enc C.prog fn conds apart w args ∧ X w args) ∧ sizedMet enc C.prog fn (OpenSpec.ofChange s) apart w args) (s.post enc C.prog fn apart fresh handsOn again) := by
  refine returnsInHanded_of_calls own started noInit witness ?_
  intro w tape i _ hsh _ hok hpre _
  obtain ⟨_, _, _, fn', hfn', _, _, _, _, hval⟩ := hok
  have e : fn' = fn := Option.some.inj (hfn'.symm.trans hfn)
  subst e
  obtain ⟨⟨⟨ds, gs, before, hw, hc⟩, hx⟩, hz⟩ := hpre
  have hw' := DataW.Whole.of_heap (w' := w.forCall tape i) (by rfl) hw
  refine (contract (w.forCall tape i) w.heap.size i.args ds gs before hval hw' (hX _ _ _ (by rfl) hx) hsh).mono fun e W' ⟨v, he, hp⟩ => ?_
  subst he
  exact ChangeSpec.post_blind hp
theorem cellsInt : Tryz.prog.cellsOf 3 = 1 := by kernel_rfl
theorem laidOut : laidOutB Tryz.prog = true := by kernel_rfl
theorem global_lt {P : Program} {W : World} {g : Nat} (h : W.ShapedOpen P) (hg : g < P.globals.size) (h0 : (((begin P (fun _ _ => 0) default).world.heap[g]?).bind Obj.row?).isSome = true) : g < W.heap.size := by
  obtain ⟨⟨zero, t⟩, hx⟩ := Option.isSome_iff_exists.1 h0
  obtain ⟨cs, hh, _⟩ := h.1 g zero t hg hx
  exact (Array.getElem?_eq_some_iff.1 hh).1
theorem lastG : ((((begin Tryz.prog (fun _ _ => 0) default).world.heap[21 - 1]?).bind Obj.row?).isSome) = true := by kernel_rfl
theorem globals_le {W : World} (h : W.ShapedOpen Tryz.prog) : 21 ≤ W.heap.size := by
  have := global_lt h (g := 21 - 1) (of_decide_eq_true (by kernel_rfl)) lastG
  omega
theorem max_begin : ((begin Tryz.prog (fun _ _ => 0) default).world.heap[12]?).bind Obj.row? = some (#[.int .i64 0], 3) := by kernel_rfl
theorem lmax_of {W : World} (h : W.ShapedOpen Tryz.prog) : LMax W.heap.size W :=
  ⟨cell_of_shapedOpen_int (g := 12) (t := 3) h (of_decide_eq_true (by kernel_rfl)) max_begin rfl (by kernel_rfl) (by kernel_rfl) Tryz.underlying3, globals_le h, Nat.le_refl _⟩
theorem tabT : (Tryz.prog.globals[18]?).map (·.type) = some 324 := by kernel_rfl
theorem synG : Tryz.prog.globalNamed "strconv.ErrSyntax" = some 16 := by kernel_rfl
theorem synT : (Tryz.prog.globals[16]?).map (·.type) = some 35 := by kernel_rfl
theorem rngG : Tryz.prog.globalNamed "strconv.ErrRange" = some 17 := by kernel_rfl
theorem rngT : (Tryz.prog.globals[17]?).map (·.type) = some 35 := by kernel_rfl
theorem cells20 : Tryz.prog.cellsOf 324 = 20 := by kernel_rfl
theorem cellsU64 : Tryz.prog.cellsOf 282 = 1 := by kernel_rfl
theorem under20 : Tryz.prog.underlying 324 = some (.array 20 282) := by kernel_rfl
theorem underU64 : Tryz.prog.underlying 282 = some (.int .u64) := by kernel_rfl
theorem iface_laid {W : World} {L : List (String × DataW Unit)} {ps : List MemPlace} {i g : Nat} {n nm : String} {d : DataW Unit} (hv : DataW.LaidVars Tryz.prog W L ps) (hi : L[i]? = some (n, .iface nm d)) (hg : Tryz.prog.globalNamed n = some g) (ht : (Tryz.prog.globals[g]?).map (·.type) = some 35) :
    ∃ te pe, W.cell? ⟨g, 0, none⟩ = some (.iface te pe) := by
  obtain ⟨g', t, cs, fuel, p, h1, h2, h3, h4, h5⟩ := laidVars_get hv hi
  obtain rfl := Option.some.inj (hg.symm.trans h1)
  obtain rfl := Option.some.inj (ht.symm.trans h2)
  obtain ⟨l0⟩ := cs
  obtain ⟨f1, u, v, rfl, _, _⟩ := iface_of_trod Tryz.underlying35 h4
  exact ⟨u, v, by simpa using World.var?_cell hg h3 0⟩
theorem lnum_of {W : World} {L : List (String × DataW Unit)} {i j k : Nat} {n1 n2 : String} {d1 d2 : DataW Unit} (h : laidMet Tryz.prog L W) (hsh : W.ShapedOpen Tryz.prog) (hi : L[i]? = some ("internal/strconv.uint64pow10", Lib.tabData .u64 Lib.pow10Tab))
    (hj : L[j]? = some ("strconv.ErrSyntax", .iface n1 d1)) (hk : L[k]? = some ("strconv.ErrRange", .iface n2 d2)) : LNum W.heap.size W := by
  obtain ⟨ps, hv, _, _⟩ := h
  refine ⟨?_, iface_laid hv hj synG synT, iface_laid hv hk rngG rngT, globals_le hsh, Nat.le_refl _⟩
  obtain ⟨g', t, cs, fuel, p, h1, h2, h3, h4, h5⟩ := laidVars_get hv hi
  obtain rfl := Option.some.inj (pow10G.symm.trans h1)
  obtain rfl := Option.some.inj (tabT.symm.trans h2)
  unfold Lib.TabIs
  rw [h3, ← Lib.cells_of_tab under20 underU64 cellsU64 cells20 h4]
end Go.Proofs.YtpfohfihkmjnaaaGreatDoor
