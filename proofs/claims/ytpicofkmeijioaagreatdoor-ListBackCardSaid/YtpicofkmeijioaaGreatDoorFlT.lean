/- Lists of files written and read, in plain words. Of no program. -/
import Derived.Test.YtpicofkmeijioaaGreatDoorFl
import Derived.Test.YtpicofkmeijioaaGreatDoorDig
import Derived.Test.YtpicofkmeijioaaGreatDoorCut
namespace Go.Proofs.YtpicofkmeijioaaGreatDoor
open Go.RowKit

theorem cut_app1 {c : UInt8} {p q : Str} (h : c ∉ p) : Lib.cut (p ++ c :: q) [c] = (p, q, true) := by
  unfold Lib.cut
  rw [index_app1 h, if_pos (by omega), Int.toNat_natCast, List.take_left' rfl, show p.length + [c].length = p.length + 1 from rfl, ← List.drop_drop, List.drop_left' rfl]
  rfl
theorem cut_none1 {c : UInt8} {s : Str} (h : c ∉ s) : Lib.cut s [c] = (s, [], false) := by
  unfold Lib.cut
  rw [index_none1 h, if_neg (by omega)]

/-- What numbers follow, a blank ahead of each. -/
def numsTail (l : List Int) : Str := l.flatMap fun n => 32 :: Lib.itoa n
def fileLine (f : Fl) : Str := f.path ++ 32 :: f.part ++ numsTail [f.n, f.lo, f.hi, f.seq]
def fileText (f : Fl) : Str := if checkF f = 0 then fileLine f else []
def zeroF : Fl := ⟨[], [], 0, 0, 0, 0⟩
/-- A file of six words. -/
def fileOf : List Str → Option Fl
  | [p, q, a, b, c, d] =>
    match numsOf [a, b, c, d] with
    | some [n, lo, hi, seq] => some ⟨p, q, n, lo, hi, seq⟩
    | _ => none
  | _ => none
/-- A file read: an error's number. -/
def fileRead (s : Str) : Fl × Nat :=
  match fileOf (cutAt 32 s) with
  | none => (zeroF, 1)
  | some f => if checkF f = 0 then (f, 0) else (zeroF, checkF f)

theorem cut_nums : ∀ (l : List Int) (p : Str), (32 : UInt8) ∉ p → cutAt 32 (p ++ numsTail l) = p :: l.map Lib.itoa
  | [], p, hp => by simp [numsTail, cutAt_none hp]
  | n :: r, p, hp => by
    have e : p ++ numsTail (n :: r) = p ++ 32 :: (Lib.itoa n ++ numsTail r) := by simp [numsTail]
    rw [e, cutAt_app hp, cut_nums r _ (not_mem_itoa' (by decide) (by decide))]
    rfl
theorem numsOf_map : ∀ (l : List Int), (∀ x ∈ l, -10000000000 < x ∧ x < 10000000000) → numsOf (l.map Lib.itoa) = some l
  | [], _ => rfl
  | n :: r, hl => by
    have h1 := hl n (by simp)
    have h2 := numsOf_map r (fun x hx => hl x (by simp [hx]))
    unfold numsOf at h2 ⊢
    simp [List.mapM_cons, numOf_itoa' h1.1 h1.2, h2]

theorem checkF_zero {f : Fl} (h : checkF f = 0) : ∃ k n, pathF f.path = some (k, n) ∧ partOk k f.part = true ∧ ¬ boundF f := by
  unfold checkF at h
  split at h
  · cases h
  · rename_i h1
    split at h
    · cases h
    · rename_i h2
      split at h
      · cases h
      · rename_i h3
        cases hp : pathF f.path with
        | none => exact absurd hp h1
        | some kn =>
          obtain ⟨k, n⟩ := kn
          refine ⟨k, n, rfl, ?_, h3⟩
          have : kindF f.path = k := by simp [kindF, hp]
          rw [this] at h2
          simpa using h2
/-- A right path is its kind, a stroke, a numeral. -/
theorem pathF_form {p k : Str} {n : Int} (h : pathF p = some (k, n)) : p = k ++ 47 :: Lib.itoa n ∧ (k = kData ∨ k = kGone) ∧ 1 ≤ n ∧ n ≤ 1073741824 := by
  obtain ⟨h1, h2, h3⟩ := pathF_some h
  refine ⟨?_, h1, h2, h3⟩
  unfold pathF at h
  split at h
  · rename_i hc
    by_cases hm : (47 : UInt8) ∈ p
    · obtain ⟨a, b, hab, ha⟩ := List.eq_append_cons_of_mem hm
      subst hab
      rw [cut_app1 ha] at h hc
      simp only at h hc
      cases hn : numOf b with
      | none => rw [hn] at h; cases h
      | some m =>
        rw [hn, Option.bind_some] at h
        split at h
        · cases h
        · simp only [Option.some.injEq, Prod.mk.injEq] at h
          obtain ⟨rfl, rfl⟩ := h
          rw [numOf_text hn]
    · rw [cut_none1 hm] at hc
      exact absurd hc.1 (by simp)
  · cases h
theorem path_sign {p k : Str} {n : Int} (h : pathF p = some (k, n)) : ∀ c ∈ p, c = 45 ∨ 47 ≤ c.toNat := by
  obtain ⟨rfl, hk, h1, h2⟩ := pathF_form h
  intro c hc
  rcases List.mem_append.1 hc with h | h
  · rcases hk with rfl | rfl <;> (simp at h; rcases h with rfl | rfl | rfl | rfl <;> decide)
  · rcases List.mem_cons.1 h with rfl | h
    · decide
    · rcases itoa_sign n c h with h | h
      · exact .inl h
      · exact .inr (by omega)
theorem part_sign {k s : Str} (h : partOk k s = true) : ∀ c ∈ s, c = 45 ∨ 47 ≤ c.toNat := by
  unfold partOk at h
  intro c hc
  split at h
  · have : s = [45] := by simpa using h
    subst this
    simp at hc; exact .inl hc
  · simp only [Bool.and_eq_true, List.all_eq_true] at h
    have := h.2.2 c hc
    have hm : c ∈ partSigns := by simpa using this
    refine .inr ?_
    simp only [partSigns, List.mem_cons, List.mem_nil_iff, or_false] at hm
    rcases hm with rfl | rfl | rfl | rfl | rfl | rfl | rfl | rfl | rfl | rfl | rfl | rfl | rfl | rfl | rfl | rfl | rfl | rfl | rfl | rfl | rfl | rfl | rfl | rfl | rfl | rfl | rfl | rfl | rfl | rfl | rfl | rfl | rfl | rfl | rfl | rfl <;> decide
theorem not_mem_sign {s : Str} (h : ∀ c ∈ s, c = 45 ∨ 47 ≤ c.toNat) {c : UInt8} (h1 : c ≠ 45) (h2 : c.toNat < 47) : c ∉ s := fun hc => (h c hc).elim h1 (by omega)

/-- A file is read as it was written. -/
theorem fileRead_line {f : Fl} (h : checkF f = 0) : fileRead (fileLine f) = (f, 0) := by
  obtain ⟨k, n, hp, hq, hb⟩ := checkF_zero h
  have h1 := not_mem_sign (path_sign hp) (c := 32) (by decide) (by decide)
  have h2 := not_mem_sign (part_sign hq) (c := 32) (by decide) (by decide)
  have hc : cutAt 32 (fileLine f) = f.path :: f.part :: [f.n, f.lo, f.hi, f.seq].map Lib.itoa := by
    unfold fileLine
    rw [List.append_assoc, List.cons_append, cutAt_app h1, cut_nums _ _ h2]
  have hn : numsOf ([f.n, f.lo, f.hi, f.seq].map Lib.itoa) = some [f.n, f.lo, f.hi, f.seq] := numsOf_map _ fun x hx => by
    unfold boundF farN at hb
    simp only [List.mem_cons, List.mem_nil_iff, or_false] at hx
    rcases hx with rfl | rfl | rfl | rfl <;> omega
  simp only [List.map_cons, List.map_nil] at hc hn
  unfold fileRead
  rw [hc]
  simp only [fileOf, hn]
  rw [if_pos h]
theorem nums_sign (l : List Int) : ∀ c ∈ numsTail l, c = 32 ∨ c = 45 ∨ 47 ≤ c.toNat := by
  intro c hc
  obtain ⟨n, _, h⟩ := List.mem_flatMap.1 hc
  rcases List.mem_cons.1 h with h | h
  · exact .inl h
  · rcases itoa_sign n c h with h | h
    · exact .inr (.inl h)
    · exact .inr (.inr (by omega))
theorem line_none {f : Fl} (h : checkF f = 0) : (10 : UInt8) ∉ fileLine f := by
  obtain ⟨k, n, hp, hq, hb⟩ := checkF_zero h
  have h1 := not_mem_sign (path_sign hp) (c := 10) (by decide) (by decide)
  have h2 := not_mem_sign (part_sign hq) (c := 10) (by decide) (by decide)
  unfold fileLine
  intro hc
  simp only [List.append_assoc, List.mem_append, List.cons_append, List.mem_cons] at hc
  rcases hc with hc | hc | hc | hc
  · exact h1 hc
  · exact absurd hc (by decide)
  · exact h2 hc
  · rcases nums_sign _ _ hc with h | h | h
    · exact absurd h (by decide)
    · exact absurd h (by decide)
    · exact absurd h (by decide)
theorem fileLine_len {f : Fl} (h : checkF f = 0) : (fileLine f).length ≤ 150 := by
  obtain ⟨k, n, hp, hq, hb⟩ := checkF_zero h
  obtain ⟨h1, hk, hn1, hn2⟩ := pathF_form hp
  have hl : ∀ m : Int, -1073741824 ≤ m → m ≤ 1073741824 → (Lib.itoa m).length ≤ 21 := fun m a b => itoa_len m (by omega) (by omega)
  have e1 : f.path.length ≤ 26 := by
    have h2 := hl n (by omega) (by omega)
    rw [h1]
    rcases hk with rfl | rfl <;> simp <;> omega
  have e2 : f.part.length ≤ 12 := by
    unfold partOk at hq
    split at hq
    · have : f.part = [45] := by simpa using hq
      rw [this]; decide
    · simp only [Bool.and_eq_true, decide_eq_true_eq] at hq
      exact hq.2.1
  unfold boundF farN at hb
  have a1 := hl f.n (by omega) (by omega)
  have a2 := hl f.lo (by omega) (by omega)
  have a3 := hl f.hi (by omega) (by omega)
  have a4 := hl f.seq (by omega) (by omega)
  unfold fileLine numsTail
  simp only [List.flatMap_cons, List.flatMap_nil, List.append_nil, List.length_append, List.length_cons]
  omega

def listText (l : List Fl) : Str := l.flatMap fun f => fileLine f ++ [10]
theorem listText_snoc (l : List Fl) (f : Fl) : listText (l ++ [f]) = listText l ++ (fileLine f ++ [10]) := by simp [listText]
theorem listText_len {l : List Fl} (h : ∀ f ∈ l, checkF f = 0) : (listText l).length ≤ l.length * 151 := by
  induction l with
  | nil => simp [listText]
  | cons x r ih =>
    have h1 := fileLine_len (h x (by simp))
    have h2 := ih fun f hf => h f (by simp [hf])
    simp only [listText, List.flatMap_cons, List.length_append, List.length_cons, List.length_nil] at h2 ⊢
    omega
theorem cut_list : ∀ {l : List Fl}, (∀ f ∈ l, checkF f = 0) → cutAt 10 (listText l) = l.map fileLine ++ [[]]
  | [], _ => rfl
  | f :: r, h => by
    have e : listText (f :: r) = fileLine f ++ 10 :: listText r := by simp [listText]
    rw [e, cutAt_app (line_none (h f (by simp))), cut_list fun g hg => h g (by simp [hg])]
    rfl

/-- How many lines are files' lines. -/
def manyL (lines : List Str) : Nat := if lines.getLast?.getD [] = [] then lines.length - 1 else lines.length
/-- A line's fault at its place. -/
def lineFault (lines : List Str) (i : Nat) : Nat :=
  match lines[i]? with
  | none => 0
  | some s =>
    if i + 1 = lines.length then 1
    else if (fileRead s).2 ≠ 0 then (fileRead s).2
    else if 0 < i ∧ ∃ g, lines[i - 1]? = some g ∧ cmpP (fileRead s).1.path (fileRead g).1.path ≤ 0 then 9 else 0
def linesE (lines : List Str) : Er := if 60 < manyL lines then .bare 8 else firstErr (lineFault lines) (manyL lines)
def listReadE (s : Str) : Er := linesE (cutAt 10 s)
def listReadL (s : Str) : List Fl := if listReadE s = .nil then ((cutAt 10 s).take (manyL (cutAt 10 s))).map (fun x => (fileRead x).1) else []

theorem fileRead_check {s : Str} (h : (fileRead s).2 = 0) : checkF (fileRead s).1 = 0 := by
  unfold fileRead at h ⊢
  split
  · rename_i h1; rw [h1] at h; cases h
  · rename_i f h1
    rw [h1] at h
    simp only at h ⊢
    split
    · assumption
    · rename_i h2; rw [if_neg h2] at h; exact absurd h h2
/-- What is read is a right list. -/
theorem listRead_right {s : Str} (h : listReadE s = .nil) : RightL (listReadL s) := by
  unfold listReadL
  rw [if_pos h]
  unfold listReadE linesE at h
  generalize cutAt 10 s = lines at *
  split at h
  · cases h
  rename_i hm
  have hf := firstErr_nil h
  have hml : manyL lines ≤ lines.length := by unfold manyL; split <;> omega
  have hat : ∀ (i : Nat) (x : Str), i < manyL lines → lines[i]? = some x → (fileRead x).2 = 0 ∧ (0 < i → ∀ g, lines[i - 1]? = some g → ¬ cmpP (fileRead x).1.path (fileRead g).1.path ≤ 0) := by
    intro i x hi hx
    have := hf i hi
    unfold lineFault at this
    rw [hx] at this
    simp only at this
    split at this
    · cases this
    · split at this
      · rename_i h1; exact absurd this h1
      · rename_i h1
        split at this
        · cases this
        · rename_i h2
          exact ⟨Decidable.not_not.1 h1, fun h0 g hg hc => h2 ⟨h0, g, hg, hc⟩⟩
  refine ⟨by rw [List.length_map, List.length_take]; omega, fun f hf => ?_, pair_next fun i a b ha hb => ?_⟩
  · obtain ⟨x, hx, rfl⟩ := List.mem_map.1 hf
    obtain ⟨i, hi⟩ := List.getElem?_of_mem hx
    rw [List.getElem?_take] at hi
    split at hi
    · exact fileRead_check (hat i x (by assumption) hi).1
    · cases hi
  · rw [List.getElem?_map] at ha hb
    cases hx : (lines.take (manyL lines))[i]? with
    | none => rw [hx] at ha; cases ha
    | some x =>
      cases hy : (lines.take (manyL lines))[i + 1]? with
      | none => rw [hy] at hb; cases hb
      | some y =>
        rw [hx] at ha; rw [hy] at hb
        obtain rfl : (fileRead x).1 = a := by simpa using ha
        obtain rfl : (fileRead y).1 = b := by simpa using hb
        rw [List.getElem?_take] at hx hy
        split at hx
        · split at hy
          · have := (hat (i + 1) y (by assumption) hy).2 (by omega) x hx
            rw [cmpP_le] at this
            omega
          · cases hy
        · cases hx

/-- A list is read as it was written. -/
theorem listRead_text {l : List Fl} (h : RightL l) : listReadE (listText l) = .nil ∧ listReadL (listText l) = l := by
  have hc := cut_list h.ok
  have hlen : (l.map fileLine ++ [[]]).length = l.length + 1 := by simp
  have hm : manyL (l.map fileLine ++ [[]]) = l.length := by
    unfold manyL
    rw [if_pos (by simp), hlen]; omega
  have hget : ∀ i, i < l.length → ∀ f, l[i]? = some f → (l.map fileLine ++ [[]])[i]? = some (fileLine f) := fun i hi f hf => by
    rw [List.getElem?_append_left (by simpa using hi), List.getElem?_map, hf]; rfl
  have he : listReadE (listText l) = .nil := by
    unfold listReadE linesE
    rw [hc, hm, if_neg (by have := h.len; omega)]
    refine firstErr_all fun j hj => ?_
    have hj' := List.getElem?_eq_getElem hj
    unfold lineFault
    rw [hget j hj _ hj', hlen]
    have hr := fileRead_line (h.ok _ (List.getElem_mem hj))
    simp only [hr]
    rw [if_neg (by omega), if_neg (by simp), if_neg]
    rintro ⟨h0, g, hg, hcm⟩
    have hj1 : j - 1 < l.length := by omega
    rw [hget (j - 1) hj1 _ (List.getElem?_eq_getElem hj1)] at hg
    obtain rfl := Option.some.inj hg
    have hr1 := fileRead_line (h.ok _ (List.getElem_mem hj1))
    rw [hr1, cmpP_le] at hcm
    have := List.pairwise_iff_getElem.1 h.ris (j - 1) j hj1 hj (by omega)
    simp only at hcm
    omega
  refine ⟨he, ?_⟩
  unfold listReadL
  rw [if_pos he, hc, hm, List.take_left' (by simp), List.map_map]
  have : ∀ f ∈ l, ((fun x => (fileRead x).1) ∘ fileLine) f = f := fun f hf => by
    simp only [Function.comp, fileRead_line (h.ok f hf)]
  rw [List.map_congr_left this]
  simp

/-- Added, and removed: what was. -/
theorem add_remove {l : List Fl} {f : Fl} (h : addE l f = .nil) : RightL (addL l f) ∧ (addL l f).length = l.length + 1 ∧ f ∈ addL l f ∧ removeE (addL l f) f.path = .nil ∧ removeL (addL l f) f.path = l := by
  have h0 := h
  unfold addE at h
  split at h
  · rename_i h1; exact absurd h h1
  rename_i h1
  split at h
  · cases h
  rename_i h2
  split at h
  · cases h
  rename_i h3
  split at h
  · cases h
  rename_i h4
  have hR := (right_iff l).1 (Decidable.not_not.1 h1)
  obtain ⟨k, hk⟩ := place_ex l f hR.ris
  have hl : addL l f = l.take k ++ f :: l.drop k := by unfold addL; rw [if_pos h0, placeF_at hk]
  have hlow : ∀ g ∈ l.take k, keyP g.path < keyP f.path := fun g hg => by
    obtain ⟨j, hj, he⟩ := List.getElem_of_mem hg
    rw [List.length_take] at hj
    rw [List.getElem_take] at he
    exact hk.low j g (by omega) (by rw [← he]; exact List.getElem?_eq_getElem (by omega))
  have hhigh : ∀ g ∈ l.drop k, keyP f.path < keyP g.path := fun g hg => by
    obtain ⟨j, hj, he⟩ := List.getElem_of_mem hg
    rw [List.length_drop] at hj
    rw [List.getElem_drop] at he
    have := hk.high (k + j) g (by omega) (by rw [← he]; exact List.getElem?_eq_getElem (by omega))
    have hne : keyP g.path ≠ keyP f.path := fun e => h3 ⟨g, List.mem_of_mem_drop hg, e⟩
    omega
  have hlen : (l.take k ++ f :: l.drop k).length = l.length + 1 := by
    rw [List.length_append, List.length_cons, List.length_take, List.length_drop]; have := hk.le; omega
  have hris : (l.take k ++ f :: l.drop k).Pairwise (fun a b => keyP a.path < keyP b.path) := by
    refine List.pairwise_append.2 ⟨hR.ris.sublist (List.take_sublist ..), List.pairwise_cons.2 ⟨hhigh, hR.ris.sublist (List.drop_sublist ..)⟩, fun a ha b hb => ?_⟩
    rcases List.mem_cons.1 hb with rfl | hb
    · exact hlow a ha
    · exact Int.lt_trans (hlow a ha) (hhigh b hb)
  have hR2 : RightL (l.take k ++ f :: l.drop k) := ⟨by omega, fun g hg => by
    rcases List.mem_append.1 hg with hg | hg
    · exact hR.ok g (List.mem_of_mem_take hg)
    · rcases List.mem_cons.1 hg with rfl | hg
      · exact Decidable.not_not.1 h2
      · exact hR.ok g (List.mem_of_mem_drop hg), hris⟩
  have hkk : (l.take k).length = k := by rw [List.length_take]; have := hk.le; omega
  have hfk : (l.take k ++ f :: l.drop k)[k]? = some f := by
    rw [List.getElem?_append_right (by omega), hkk, Nat.sub_self]; rfl
  have hre : removeE (l.take k ++ f :: l.drop k) f.path = .nil := by
    unfold removeE
    rw [if_neg (by simp [(right_iff _).2 hR2]), findF_at hris hfk, if_neg (by simp)]
  rw [hl]
  refine ⟨hR2, hlen, by simp, hre, ?_⟩
  unfold removeL
  rw [if_pos hre, dropF_at hris hfk, List.take_left' hkk, ← List.drop_drop, List.drop_left' hkk, List.drop_one, List.tail_cons, List.take_append_drop]
end Go.Proofs.YtpicofkmeijioaaGreatDoor
