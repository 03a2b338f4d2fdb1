/- Lists of files written and read, in plain words. Of no program. strings.Builder: WriteString and String, laid at this program by hand (the tool passes over copyCheck, whose body here names no text). file.Text; list.Text. deedboxlaw2.one, listed. deedboxref2.SameFiles. slices.DeleteFunc, in plain words. Of no program. A struct of six cells written cell by cell; a result that lies in a block. Of no program. -/
import Derived.Test.YtikboodjfanjkaaGreatDoorP3
import Derived.Test.YtikboodjfanjkaaGreatDoorP5
import Derived.Test.YtikboodjfanjkaaGreatDoorP1
import Derived.Test.YtikboodjfanjkaaGreatDoorP2
import Derived.Shelf.Strings.Builder1
import Derived.Test.YtikboodjfanjkaaGreatDoorP4
import Derived.Laws.StructEq
import Derived.Laws.ResultCell
import Derived.Laws.Rows
namespace Go.Proofs.YtikboodjfanjkaaGreatDoor
open Go.RowKit

theorem cut_app1 {c : UInt8} {p q : Str} (h : c ∉ p) : Lib.cut (p ++ c :: q) [c] = (p, q, true) := by
  unfold Lib.cut
  rw [index_app1 h, if_pos (by omega), Int.toNat_natCast, List.take_left' rfl, show p.length + [c].length = p.length + 1 from rfl, ← List.drop_drop, List.drop_left' rfl]
  rfl
theorem cut_none1 {c : UInt8} {s : Str} (h : c ∉ s) : Lib.cut s [c] = (s, [], false) := by
  unfold Lib.cut
  rw [index_none1 h, if_neg (by omega)]

/-- What numbers follow, a blank ahead of each. -/
def numsTail (l : List Int) : Str := l.flatMap fun n => 32 :: Lib.itoa n
def fileLine (f : Fl) : Str := f.path ++ 32 :: f.part ++ numsTail [f.n, f.lo, f.hi, f.seq]
def fileText (f : Fl) : Str := if checkF f = 0 then fileLine f else []
def zeroF : Fl := ⟨[], [], 0, 0, 0, 0⟩
/-- A file of six words. -/
def fileOf : List Str → Option Fl
  | [p, q, a, b, c, d] =>
    match numsOf [a, b, c, d] with
    | some [n, lo, hi, seq] => some ⟨p, q, n, lo, hi, seq⟩
    | _ => none
  | _ => none
/-- A file read: an error's number. -/
def fileRead (s : Str) : Fl × Nat :=
  match fileOf (cutAt 32 s) with
  | none => (zeroF, 1)
  | some f => if checkF f = 0 then (f, 0) else (zeroF, checkF f)

theorem cut_nums : ∀ (l : List Int) (p : Str), (32 : UInt8) ∉ p → cutAt 32 (p ++ numsTail l) = p :: l.map Lib.itoa
  | [], p, hp => by simp [numsTail, cutAt_none hp]
  | n :: r, p, hp => by
    have e : p ++ numsTail (n :: r) = p ++ 32 :: (Lib.itoa n ++ numsTail r) := by simp [numsTail]
    rw [e, cutAt_app hp, cut_nums r _ (not_mem_itoa' (by decide) (by decide))]
    rfl
theorem numsOf_map : ∀ (l : List Int), (∀ x ∈ l, -10000000000 < x ∧ x < 10000000000) → numsOf (l.map Lib.itoa) = some l
  | [], _ => rfl
  | n :: r, hl => by
    have h1 := hl n (by simp)
    have h2 := numsOf_map r (fun x hx => hl x (by simp [hx]))
    unfold numsOf at h2 ⊢
    simp [List.mapM_cons, numOf_itoa' h1.1 h1.2, h2]

theorem checkF_zero {f : Fl} (h : checkF f = 0) : ∃ k n, pathF f.path = some (k, n) ∧ partOk k f.part = true ∧ ¬ boundF f := by
  unfold checkF at h
  split at h
  · cases h
  · rename_i h1
    split at h
    · cases h
    · rename_i h2
      split at h
      · cases h
      · rename_i h3
        cases hp : pathF f.path with
        | none => exact absurd hp h1
        | some kn =>
          obtain ⟨k, n⟩ := kn
          refine ⟨k, n, rfl, ?_, h3⟩
          have : kindF f.path = k := by simp [kindF, hp]
          rw [this] at h2
          simpa using h2
/-- A right path is its kind, a stroke, a numeral. -/
theorem pathF_form {p k : Str} {n : Int} (h : pathF p = some (k, n)) : p = k ++ 47 :: Lib.itoa n ∧ (k = kData ∨ k = kGone) ∧ 1 ≤ n ∧ n ≤ 1073741824 := by
  obtain ⟨h1, h2, h3⟩ := pathF_some h
  refine ⟨?_, h1, h2, h3⟩
  unfold pathF at h
  split at h
  · rename_i hc
    by_cases hm : (47 : UInt8) ∈ p
    · obtain ⟨a, b, hab, ha⟩ := List.eq_append_cons_of_mem hm
      subst hab
      rw [cut_app1 ha] at h hc
      simp only at h hc
      cases hn : numOf b with
      | none => rw [hn] at h; cases h
      | some m =>
        rw [hn, Option.bind_some] at h
        split at h
        · cases h
        · simp only [Option.some.injEq, Prod.mk.injEq] at h
          obtain ⟨rfl, rfl⟩ := h
          rw [numOf_text hn]
    · rw [cut_none1 hm] at hc
      exact absurd hc.1 (by simp)
  · cases h
theorem path_sign {p k : Str} {n : Int} (h : pathF p = some (k, n)) : ∀ c ∈ p, c = 45 ∨ 47 ≤ c.toNat := by
  obtain ⟨rfl, hk, h1, h2⟩ := pathF_form h
  intro c hc
  rcases List.mem_append.1 hc with h | h
  · rcases hk with rfl | rfl <;> (simp at h; rcases h with rfl | rfl | rfl | rfl <;> decide)
  · rcases List.mem_cons.1 h with rfl | h
    · decide
    · rcases itoa_sign n c h with h | h
      · exact .inl h
      · exact .inr (by omega)
theorem part_sign {k s : Str} (h : partOk k s = true) : ∀ c ∈ s, c = 45 ∨ 47 ≤ c.toNat := by
  unfold partOk at h
  intro c hc
  split at h
  · have : s = [45] := by simpa using h
    subst this
    simp at hc; exact .inl hc
  · simp only [Bool.and_eq_true, List.all_eq_true] at h
    have := h.2.2 c hc
    have hm : c ∈ partSigns := by simpa using this
    refine .inr ?_
    simp only [partSigns, List.mem_cons, List.mem_nil_iff, or_false] at hm
    rcases hm with rfl | rfl | rfl | rfl | rfl | rfl | rfl | rfl | rfl | rfl | rfl | rfl | rfl | rfl | rfl | rfl | rfl | rfl | rfl | rfl | rfl | rfl | rfl | rfl | rfl | rfl | rfl | rfl | rfl | rfl | rfl | rfl | rfl | rfl | rfl | rfl <;> decide
theorem not_mem_sign {s : Str} (h : ∀ c ∈ s, c = 45 ∨ 47 ≤ c.toNat) {c : UInt8} (h1 : c ≠ 45) (h2 : c.toNat < 47) : c ∉ s := fun hc => (h c hc).elim h1 (by omega)

/-- A file is read as it was written. -/
theorem fileRead_line {f : Fl} (h : checkF f = 0) : fileRead (fileLine f) = (f, 0) := by
  obtain ⟨k, n, hp, hq, hb⟩ := checkF_zero h
  have h1 := not_mem_sign (path_sign hp) (c := 32) (by decide) (by decide)
  have h2 := not_mem_sign (part_sign hq) (c := 32) (by decide) (by decide)
  have hc : cutAt 32 (fileLine f) = f.path :: f.part :: [f.n, f.lo, f.hi, f.seq].map Lib.itoa := by
    unfold fileLine
    rw [List.append_assoc, List.cons_append, cutAt_app h1, cut_nums _ _ h2]
  have hn : numsOf ([f.n, f.lo, f.hi, f.seq].map Lib.itoa) = some [f.n, f.lo, f.hi, f.seq] := numsOf_map _ fun x hx => by
    unfold boundF farN at hb
    simp only [List.mem_cons, List.mem_nil_iff, or_false] at hx
    rcases hx with rfl | rfl | rfl | rfl <;> omega
  simp only [List.map_cons, List.map_nil] at hc hn
  unfold fileRead
  rw [hc]
  simp only [fileOf, hn]
  rw [if_pos h]
theorem nums_sign (l : List Int) : ∀ c ∈ numsTail l, c = 32 ∨ c = 45 ∨ 47 ≤ c.toNat := by
  intro c hc
  obtain ⟨n, _, h⟩ := List.mem_flatMap.1 hc
  rcases List.mem_cons.1 h with h | h
  · exact .inl h
  · rcases itoa_sign n c h with h | h
    · exact .inr (.inl h)
    · exact .inr (.inr (by omega))
theorem line_none {f : Fl} (h : checkF f = 0) : (10 : UInt8) ∉ fileLine f := by
  obtain ⟨k, n, hp, hq, hb⟩ := checkF_zero h
  have h1 := not_mem_sign (path_sign hp) (c := 10) (by decide) (by decide)
  have h2 := not_mem_sign (part_sign hq) (c := 10) (by decide) (by decide)
  unfold fileLine
  intro hc
  simp only [List.append_assoc, List.mem_append, List.cons_append, List.mem_cons] at hc
  rcases hc with hc | hc | hc | hc
  · exact h1 hc
  · exact absurd hc (by decide)
  · exact h2 hc
  · rcases nums_sign _ _ hc with h | h | h
    · exact absurd h (by decide)
    · exact absurd h (by decide)
    · exact absurd h (by decide)
theorem fileLine_len {f : Fl} (h : checkF f = 0) : (fileLine f).length ≤ 150 := by
  obtain ⟨k, n, hp, hq, hb⟩ := checkF_zero h
  obtain ⟨h1, hk, hn1, hn2⟩ := pathF_form hp
  have hl : ∀ m : Int, -1073741824 ≤ m → m ≤ 1073741824 → (Lib.itoa m).length ≤ 21 := fun m a b => itoa_len m (by omega) (by omega)
  have e1 : f.path.length ≤ 26 := by
    have h2 := hl n (by omega) (by omega)
    rw [h1]
    rcases hk with rfl | rfl <;> simp <;> omega
  have e2 : f.part.length ≤ 12 := by
    unfold partOk at hq
    split at hq
    · have : f.part = [45] := by simpa using hq
      rw [this]; decide
    · simp only [Bool.and_eq_true, decide_eq_true_eq] at hq
      exact hq.2.1
  unfold boundF farN at hb
  have a1 := hl f.n (by omega) (by omega)
  have a2 := hl f.lo (by omega) (by omega)
  have a3 := hl f.hi (by omega) (by omega)
  have a4 := hl f.seq (by omega) (by omega)
  unfold fileLine numsTail
  simp only [List.flatMap_cons, List.flatMap_nil, List.append_nil, List.length_append, List.length_cons]
  omega

def listText (l : List Fl) : Str := l.flatMap fun f => fileLine f ++ [10]
theorem listText_snoc (l : List Fl) (f : Fl) : listText (l ++ [f]) = listText l ++ (fileLine f ++ [10]) := by simp [listText]
theorem listText_len {l : List Fl} (h : ∀ f ∈ l, checkF f = 0) : (listText l).length ≤ l.length * 151 := by
  induction l with
  | nil => simp [listText]
  | cons x r ih =>
    have h1 := fileLine_len (h x (by simp))
    have h2 := ih fun f hf => h f (by simp [hf])
    simp only [listText, List.flatMap_cons, List.length_append, List.length_cons, List.length_nil] at h2 ⊢
    omega
theorem cut_list : ∀ {l : List Fl}, (∀ f ∈ l, checkF f = 0) → cutAt 10 (listText l) = l.map fileLine ++ [[]]
  | [], _ => rfl
  | f :: r, h => by
    have e : listText (f :: r) = fileLine f ++ 10 :: listText r := by simp [listText]
    rw [e, cutAt_app (line_none (h f (by simp))), cut_list fun g hg => h g (by simp [hg])]
    rfl

/-- How many lines are files' lines. -/
def manyL (lines : List Str) : Nat := if lines.getLast?.getD [] = [] then lines.length - 1 else lines.length
/-- A line's fault at its place. -/
def lineFault (lines : List Str) (i : Nat) : Nat :=
  match lines[i]? with
  | none => 0
  | some s =>
    if i + 1 = lines.length then 1
    else if (fileRead s).2 ≠ 0 then (fileRead s).2
    else if 0 < i ∧ ∃ g, lines[i - 1]? = some g ∧ cmpP (fileRead s).1.path (fileRead g).1.path ≤ 0 then 9 else 0
def linesE (lines : List Str) : Er := if 60 < manyL lines then .bare 8 else firstErr (lineFault lines) (manyL lines)
def listReadE (s : Str) : Er := linesE (cutAt 10 s)
def listReadL (s : Str) : List Fl := if listReadE s = .nil then ((cutAt 10 s).take (manyL (cutAt 10 s))).map (fun x => (fileRead x).1) else []

theorem fileRead_check {s : Str} (h : (fileRead s).2 = 0) : checkF (fileRead s).1 = 0 := by
  unfold fileRead at h ⊢
  split
  · rename_i h1; rw [h1] at h; cases h
  · rename_i f h1
    rw [h1] at h
    simp only at h ⊢
    split
    · assumption
    · rename_i h2; rw [if_neg h2] at h; exact absurd h h2
/-- What is read is a right list. -/
theorem listRead_right {s : Str} (h : listReadE s = .nil) : RightL (listReadL s) := by
  unfold listReadL
  rw [if_pos h]
  unfold listReadE linesE at h
  generalize cutAt 10 s = lines at *
  split at h
  · cases h
  rename_i hm
  have hf := firstErr_nil h
  have hml : manyL lines ≤ lines.length := by unfold manyL; split <;> omega
  have hat : ∀ (i : Nat) (x : Str), i < manyL lines → lines[i]? = some x → (fileRead x).2 = 0 ∧ (0 < i → ∀ g, lines[i - 1]? = some g → ¬ cmpP (fileRead x).1.path (fileRead g).1.path ≤ 0) := by
    intro i x hi hx
    have := hf i hi
    unfold lineFault at this
    rw [hx] at this
    simp only at this
    split at this
    · cases this
    · split at this
      · rename_i h1; exact absurd this h1
      · rename_i h1
        split at this
        · cases this
        · rename_i h2
          exact ⟨Decidable.not_not.1 h1, fun h0 g hg hc => h2 ⟨h0, g, hg, hc⟩⟩
  refine ⟨by rw [List.length_map, List.length_take]; omega, fun f hf => ?_, pair_next fun i a b ha hb => ?_⟩
  · obtain ⟨x, hx, rfl⟩ := List.mem_map.1 hf
    obtain ⟨i, hi⟩ := List.getElem?_of_mem hx
    rw [List.getElem?_take] at hi
    split at hi
    · exact fileRead_check (hat i x (by assumption) hi).1
    · cases hi
  · rw [List.getElem?_map] at ha hb
    cases hx : (lines.take (manyL lines))[i]? with
    | none => rw [hx] at ha; cases ha
    | some x =>
      cases hy : (lines.take (manyL lines))[i + 1]? with
      | none => rw [hy] at hb; cases hb
      | some y =>
        rw [hx] at ha; rw [hy] at hb
        obtain rfl : (fileRead x).1 = a := by simpa using ha
        obtain rfl : (fileRead y).1 = b := by simpa using hb
        rw [List.getElem?_take] at hx hy
        split at hx
        · split at hy
          · have := (hat (i + 1) y (by assumption) hy).2 (by omega) x hx
            rw [cmpP_le] at this
            omega
          · cases hy
        · cases hx

/-- A list is read as it was written. -/
theorem listRead_text {l : List Fl} (h : RightL l) : listReadE (listText l) = .nil ∧ listReadL (listText l) = l := by
  have hc := cut_list h.ok
  have hlen : (l.map fileLine ++ [[]]).length = l.length + 1 := by simp
  have hm : manyL (l.map fileLine ++ [[]]) = l.length := by
    unfold manyL
    rw [if_pos (by simp), hlen]; omega
  have hget : ∀ i, i < l.length → ∀ f, l[i]? = some f → (l.map fileLine ++ [[]])[i]? = some (fileLine f) := fun i hi f hf => by
    rw [List.getElem?_append_left (by simpa using hi), List.getElem?_map, hf]; rfl
  have he : listReadE (listText l) = .nil := by
    unfold listReadE linesE
    rw [hc, hm, if_neg (by have := h.len; omega)]
    refine firstErr_all fun j hj => ?_
    have hj' := List.getElem?_eq_getElem hj
    unfold lineFault
    rw [hget j hj _ hj', hlen]
    have hr := fileRead_line (h.ok _ (List.getElem_mem hj))
    simp only [hr]
    rw [if_neg (by omega), if_neg (by simp), if_neg]
    rintro ⟨h0, g, hg, hcm⟩
    have hj1 : j - 1 < l.length := by omega
    rw [hget (j - 1) hj1 _ (List.getElem?_eq_getElem hj1)] at hg
    obtain rfl := Option.some.inj hg
    have hr1 := fileRead_line (h.ok _ (List.getElem_mem hj1))
    rw [hr1, cmpP_le] at hcm
    have := List.pairwise_iff_getElem.1 h.ris (j - 1) j hj1 hj (by omega)
    simp only at hcm
    omega
  refine ⟨he, ?_⟩
  unfold listReadL
  rw [if_pos he, hc, hm, List.take_left' (by simp), List.map_map]
  have : ∀ f ∈ l, ((fun x => (fileRead x).1) ∘ fileLine) f = f := fun f hf => by
    simp only [Function.comp, fileRead_line (h.ok f hf)]
  rw [List.map_congr_left this]
  simp

/-- Added, and removed: what was. -/
theorem add_remove {l : List Fl} {f : Fl} (h : addE l f = .nil) : RightL (addL l f) ∧ (addL l f).length = l.length + 1 ∧ f ∈ addL l f ∧ removeE (addL l f) f.path = .nil ∧ removeL (addL l f) f.path = l := by
  have h0 := h
  unfold addE at h
  split at h
  · rename_i h1; exact absurd h h1
  rename_i h1
  split at h
  · cases h
  rename_i h2
  split at h
  · cases h
  rename_i h3
  split at h
  · cases h
  rename_i h4
  have hR := (right_iff l).1 (Decidable.not_not.1 h1)
  obtain ⟨k, hk⟩ := place_ex l f hR.ris
  have hl : addL l f = l.take k ++ f :: l.drop k := by unfold addL; rw [if_pos h0, placeF_at hk]
  have hlow : ∀ g ∈ l.take k, keyP g.path < keyP f.path := fun g hg => by
    obtain ⟨j, hj, he⟩ := List.getElem_of_mem hg
    rw [List.length_take] at hj
    rw [List.getElem_take] at he
    exact hk.low j g (by omega) (by rw [← he]; exact List.getElem?_eq_getElem (by omega))
  have hhigh : ∀ g ∈ l.drop k, keyP f.path < keyP g.path := fun g hg => by
    obtain ⟨j, hj, he⟩ := List.getElem_of_mem hg
    rw [List.length_drop] at hj
    rw [List.getElem_drop] at he
    have := hk.high (k + j) g (by omega) (by rw [← he]; exact List.getElem?_eq_getElem (by omega))
    have hne : keyP g.path ≠ keyP f.path := fun e => h3 ⟨g, List.mem_of_mem_drop hg, e⟩
    omega
  have hlen : (l.take k ++ f :: l.drop k).length = l.length + 1 := by
    rw [List.length_append, List.length_cons, List.length_take, List.length_drop]; have := hk.le; omega
  have hris : (l.take k ++ f :: l.drop k).Pairwise (fun a b => keyP a.path < keyP b.path) := by
    refine List.pairwise_append.2 ⟨hR.ris.sublist (List.take_sublist ..), List.pairwise_cons.2 ⟨hhigh, hR.ris.sublist (List.drop_sublist ..)⟩, fun a ha b hb => ?_⟩
    rcases List.mem_cons.1 hb with rfl | hb
    · exact hlow a ha
    · exact Int.lt_trans (hlow a ha) (hhigh b hb)
  have hR2 : RightL (l.take k ++ f :: l.drop k) := ⟨by omega, fun g hg => by
    rcases List.mem_append.1 hg with hg | hg
    · exact hR.ok g (List.mem_of_mem_take hg)
    · rcases List.mem_cons.1 hg with rfl | hg
      · exact Decidable.not_not.1 h2
      · exact hR.ok g (List.mem_of_mem_drop hg), hris⟩
  have hkk : (l.take k).length = k := by rw [List.length_take]; have := hk.le; omega
  have hfk : (l.take k ++ f :: l.drop k)[k]? = some f := by
    rw [List.getElem?_append_right (by omega), hkk, Nat.sub_self]; rfl
  have hre : removeE (l.take k ++ f :: l.drop k) f.path = .nil := by
    unfold removeE
    rw [if_neg (by simp [(right_iff _).2 hR2]), findF_at hris hfk, if_neg (by simp)]
  rw [hl]
  refine ⟨hR2, hlen, by simp, hre, ?_⟩
  unfold removeL
  rw [if_pos hre, dropF_at hris hfk, List.take_left' hkk, ← List.drop_drop, List.drop_left' hkk, List.drop_one, List.tail_cons, List.take_append_drop]
end Go.Proofs.YtikboodjfanjkaaGreatDoor
namespace Go.Proofs
open Go.Shelf
def Tryz.bld166_ren : Go.Shelf.Ren := ⟨fun | 166 => 92 | 240 => 140 | 276 => 172 | n => n, fun | 0 => 0 | 3 => 3 | 4 => 4 | 5 => 5 | 9 => 9 | 20 => 20 | 37 => 134 | 70 => 133 | 72 => 136 | 75 => 62 | 80 => 139 | 164 => 210 | n => n, fun | n => n⟩
theorem Tryz.bld166 : Go.Proofs.Lays.n166 Tryz.prog Tryz.bld166_ren := {
  mixed := by kernel_rfl
  f166 := Tryz.func92.trans (congrArg some (by kernel_rfl))
  f240 := Tryz.func140.trans (congrArg some (by kernel_rfl))
  f276 := Tryz.func172.trans (congrArg some (by kernel_rfl))
  t0 := Tryz.underlying0
  a0 := Tryz.isAgg0
  z0 := Tryz.sizeOf0
  v0 := Tryz.zeroValue0
  t3 := Tryz.underlying3
  a3 := Tryz.isAgg3
  z3 := Tryz.sizeOf3
  v3 := Tryz.zeroValue3
  t4 := Tryz.underlying4
  a4 := Tryz.isAgg4
  z4 := Tryz.sizeOf4
  v4 := Tryz.zeroValue4
  t9 := Tryz.underlying9
  a9 := Tryz.isAgg9
  z9 := Tryz.sizeOf9
  v9 := Tryz.zeroValue9
  t20 := Tryz.underlying20
  a20 := Tryz.isAgg20
  z20 := Tryz.sizeOf20
  v20 := Tryz.zeroValue20
  t37 := Tryz.underlying134
  a37 := Tryz.isAgg134
  z37 := Tryz.sizeOf134
  v37 := Tryz.zeroValue134
  t70 := Tryz.underlying133
  a70 := Tryz.isAgg133
  z70 := Tryz.sizeOf133
  v70 := Tryz.zeroValue133
  t72 := Tryz.underlying136
  a72 := Tryz.isAgg136
  z72 := Tryz.sizeOf136
  v72 := Tryz.zeroValue136
  t75 := Tryz.underlying62
  a75 := Tryz.isAgg62
  z75 := Tryz.sizeOf62
  v75 := Tryz.zeroValue62
  t164 := Tryz.underlying210
  a164 := Tryz.isAgg210
  z164 := Tryz.sizeOf210
  v164 := Tryz.zeroValue210 }
theorem Tryz.bldX166 : Builder.Extra Tryz.prog Tryz.bld166_ren where
  sizeBuilder := by kernel_rfl
  liesBuilder := by kernel_rfl
  t5 := Tryz.underlying5
  a5 := Tryz.isAgg5
  z5 := Tryz.sizeOf5
  v5 := Tryz.zeroValue5
  infoByte := by kernel_rfl
  cellsByte := by kernel_rfl
  sizeByte := by kernel_rfl
  neB5 := by decide
end Go.Proofs
namespace Go.Proofs.YtikboodjfanjkaaGreatDoor
open Go.RowKit
/-- A builder of the call's own that holds the text s. -/
abbrev BldAt (B b : Nat) (s : Str) (w : World) : Prop := Lib.IsBuilder 136 5 B b (Lib.byteCells s) w
theorem bldWrite_any (B b : Nat) (s t : Str) (w : World) (h : BldAt B b s w) (hl : s.length + t.length ≤ 1000000) (hB : B ≤ w.heap.size) :
    Calls Tryz.prog 92 #[.pointer (some ⟨b, 0, none⟩), S t] w fun e w' => e = .returned (.tuple #[.int .i64 t.length, .nilIface]) ∧ BldAt B b (s ++ t) w' ∧ Below B w w' := by
  refine (Any.Builder_WriteString Tryz.bld166 Tryz.bldX166 B b (Lib.byteCells s) ⟨t.toArray⟩ w h (by simp [Lib.byteCells, ByteArray.size]; omega) hB).mono ?_
  rintro e w' ⟨rfl, h1, h2⟩
  refine ⟨by simp [ByteArray.size], .inr ?_, h2⟩
  have e1 : Lib.byteCells s ++ Lib.strCells ⟨t.toArray⟩ = Lib.byteCells (s ++ t) := by simp [Lib.byteCells, Lib.strCells]
  rw [← e1]
  exact h1
theorem bldString_any (B b : Nat) (s : Str) (w : World) (h : BldAt B b s w) (hB : B ≤ w.heap.size) :
    Calls Tryz.prog 94 #[.pointer (some ⟨b, 0, none⟩)] w fun e w' => e = .returned (S s) ∧ Below B w w' :=
  Tryz.Builder_String_any B b s w h hB
end Go.Proofs.YtikboodjfanjkaaGreatDoor
namespace Go.Proofs.YtikboodjfanjkaaGreatDoor
open Go.RowKit
attribute [local go_sem] bapp

theorem numsTail_snoc (l : List Int) (x : Int) : numsTail (l ++ [x]) = numsTail l ++ 32 :: Lib.itoa x := by simp [numsTail]
theorem numsTail_len (l : List Int) (h : ∀ x ∈ l, -9223372036854775808 ≤ x ∧ x ≤ 9223372036854775807) : (numsTail l).length ≤ l.length * 22 := by
  induction l with
  | nil => simp [numsTail]
  | cons x r ih =>
    have h1 := h x (by simp)
    have h2 := itoa_len x (by omega) (by omega)
    have h3 := ih fun y hy => h y (by simp [hy])
    simp only [numsTail, List.flatMap_cons, List.length_append, List.length_cons] at h3 ⊢
    omega

theorem cat_run (a b : ByteArray) (n m : Nat) (ha : a.size = n) (hb : b.size = m) (h : n + m ≤ 1000000) : ∀ w, (Op.stringOp .add a b).run Tryz.prog w = .ok (.string (a ++ b)) w := fun w => run_string_add_sum w a b (by omega)
set_option maxHeartbeats 1000000 in
set_option maxRecDepth 20000 in
theorem fileText_any (E : Nat → Addr) (B : Nat) (f : Fl) (w : World) (hE : Errs [2, 4, 5] E B w) (hT : LNum B w) (hM : LMax B w) (hs : midF f) :
    Calls Tryz.prog 93 #[fileV f] w fun e w' => e = .returned (S (fileText f)) ∧ Below w.heap.size w w' := by
  have hBw := hE.le
  have hb0 : Below w.heap.size w (w.alloc (.cells #[S f.path, S f.part, .int .i64 f.n, .int .i64 f.lo, .int .i64 f.hi, .int .i64 f.seq] 50)) := (Below.refl _ _).alloc (Nat.le_refl _) _
  have Cs := Lib.hid (fun w6 (h : Below (w.alloc (.cells #[S f.path, S f.part, .int .i64 f.n, .int .i64 f.lo, .int .i64 f.hi, .int .i64 f.seq] 50)).heap.size (w.alloc (.cells #[S f.path, S f.part, .int .i64 f.n, .int .i64 f.lo, .int .i64 f.hi, .int .i64 f.seq] 50)) w6) => fileCells rfl h)
  have hE1 := hE.below' hb0 hE.le; have hT1 := hT.below' hb0 hE.le; have hM1 := hM.below' hb0 hE.le
  obtain ⟨c0, c1, c2, c3, c4, c5⟩ := Cs.out _ (Below.refl _ _)
  go_enter Tryz.func93, Tryz.ntmps93
  go_wp2_with fail
  generalize w.alloc (.cells #[S f.path, S f.part, .int .i64 f.n, .int .i64 f.lo, .int .i64 f.hi, .int .i64 f.seq] 50) = w1 at *
  refine (fileCheck_any E B f _ hE1 hT1 hM1 hs).mono ?_
  rintro e w2 ⟨ev, rfl, hev, hb2⟩
  clear c0 c1 c2 c3 c4 c5
  have hb2' := hb0.trans (hb2.mono hb0.size)
  by_cases hck : checkF f = 0
  case neg =>
    have HF : Hid (fileText f = []) := Lib.hid (if_neg hck)
    rw [fileEr_bad rfl hck] at hev
    obtain ⟨hcr, rfl⟩ := hev
    have HK := Lib.hid hck; clear hck
    go_wp2_with fail
    go_ret
    exact ⟨by rw [HF.out]; rfl, hb2'⟩
  have HF : Hid (fileText f = fileLine f) := Lib.hid (if_pos hck)
  rw [fileEr_nil hck] at hev
  obtain rfl : ev = .nilIface := hev
  have hbd : ∀ x ∈ [f.n, f.lo, f.hi, f.seq], -9223372036854775808 ≤ x ∧ x ≤ 9223372036854775807 := by
    obtain ⟨-, -, -, -, h⟩ := checkF_zero hck
    unfold boundF farN at h
    intro x hx
    simp only [List.mem_cons, List.mem_nil_iff, or_false] at hx
    rcases hx with rfl | rfl | rfl | rfl <;> omega
  have HB := Lib.hid hbd; clear hbd
  have HK := Lib.hid hck; clear hck
  obtain ⟨c0, c1, c2, c3, c4, c5⟩ := Cs.out w2 hb2
  have hl1 := hs.1
  have hl2 := hs.2
  have hil := ints_new [f.n, f.lo, f.hi, f.seq] w2 3 _ 4 #[.int .i64 f.n, .int .i64 f.lo, .int .i64 f.hi, .int .i64 f.seq] rfl rfl rfl (by decide)
  have hb3 := hb2'.alloc hb2'.size (.cells #[.int .i64 f.n, .int .i64 f.lo, .int .i64 f.hi, .int .i64 f.seq] 3)
  go_wp2_with fail
  generalize w2.alloc (.cells #[.int .i64 f.n, .int .i64 f.lo, .int .i64 f.hi, .int .i64 f.seq] 3) = w3 at *
  have hT3 := hT.below' hb3 hBw
  obtain ⟨a, c, b, o, hv, ha, hc, hcm, hx⟩ := hil
  simp only [Value.slice.injEq] at hv
  obtain ⟨rfl, -, rfl⟩ := hv
  have hp0 : [f.n, f.lo, f.hi, f.seq].length = 4 := rfl
  have hab := ha (by simp)
  simp only [Option.some.injEq, Addr.mk.injEq, and_true] at hab
  obtain ⟨rfl, rfl⟩ := hab
  have HL : Hid (fileLine f = f.path ++ 32 :: (f.part ++ numsTail [f.n, f.lo, f.hi, f.seq])) := Lib.hid (by simp [fileLine])
  generalize [f.n, f.lo, f.hi, f.seq] = l at *
  go_loopw [3, 25] (fun s i wr => ∃ k : Nat, k ≤ l.length ∧ i = .int .i64 k ∧ s = S ((f.path ++ 32 :: f.part) ++ numsTail (l.take k)) ∧ Below w3.heap.size w3 wr) (fun _ i _ => l.length - (intOf i).toNat)
  case atStart => exact ⟨0, by omega, rfl, by simp [numsTail], Below.refl _ _⟩
  case round =>
    obtain ⟨k, hk, rfl, rfl, hb⟩ := hrel
    have hl4 := numsTail_len (l.take k) (fun y hy => HB.out y (List.mem_of_mem_take hy))
    have hl5 : (l.take k).length ≤ 4 := by rw [List.length_take]; omega
    have hl6 : (numsTail (l.take k)).length ≤ 88 := by omega
    clear hl4 hl5
    by_cases hlt : k < l.length
    case neg =>
      obtain rfl : k = l.length := by omega
      rw [List.take_length] at hl6 ⊢
      rw [hp0]
      go_wp2_with fail
      go_ret
      exact ⟨by rw [HF.out, HL.out]; rfl, hb3.trans (hb.mono hb3.size)⟩
    obtain ⟨x, hxk⟩ := get_ex hlt
    have c1 := hx k x hxk 0 _ rfl
    have c1 := (hb.cell (World.block_lt_of_cell? w3 _ c1)).trans c1
    have i1 := idx_at (c := 4) 1 Tryz.underlying33 szInt ha k hlt
    have hk1 : (k : Int) < (l.length : Int) := by omega
    simp only [Nat.mul_one, Nat.add_zero, Nat.zero_add] at c1 i1
    rw [hp0] at hk1 i1
    obtain ⟨h1, h2⟩ := HB.out x (List.mem_of_getElem? hxk)
    have hsn := take_snoc' hxk
    have hl1 := itoa_len x h1 h2
    have Hx := Lib.hid hsn; clear hsn hxk
    go_wp2_with fail
    refine (itoa_any B x h1 h2 _ (hT3.below' hb hT3.le)).mono ?_
    rintro e w4 ⟨rfl, hb4⟩
    go_wp2_with fail
    go_roundw
    case rel => exact ⟨k + 1, by omega, by go_num, by rw [Hx.out, numsTail_snoc]; simp, hb.trans (hb4.mono hb.size)⟩
    case measure => simp [intOf]; omega

theorem BldAt.below {B b : Nat} {s : Str} {w w' : World} (h : BldAt B b s w) (hb : Below w.heap.size w w') : BldAt B b s w' := by
  have one : ∀ p, Lib.BuilderAt 136 5 B b p (Lib.byteCells s) w → Lib.BuilderAt 136 5 B b p (Lib.byteCells s) w' := fun p h => by
    have hlt := h.lt
    obtain ⟨h1, v, h2, h3, h4⟩ := h
    exact ⟨h1, v, (hb.block b hlt).trans h2, World.ownsRow.kept h3 (row := none) ⟨hb.os, hb.tape, hb.output, hb.size, fun k hk _ => hb.block k hk⟩ (by cases v.ownBlock <;> simp), h4⟩
  exact h.elim (fun h => .inl (one _ h)) (fun h => .inr (one _ h))
def listTextR (l : List Fl) : Str := if listCheck l = .nil then listText l else []
set_option maxHeartbeats 1000000 in
set_option maxRecDepth 20000 in
theorem listText_any (E : Nat → Addr) (B : Nat) (v : Value) (l : List Fl) (w : World) (hE : Errs [2, 4, 5, 8, 9] E B w) (hT : LNum B w) (hM : LMax B w) (hl : FilesAt w v l) (hs : ∀ x ∈ l, midF x) :
    Calls Tryz.prog 32 #[v] w fun e w' => ∃ ev, e = .returned (.tuple #[S (listTextR l), ev]) ∧ ErV E w' ev (listCheck l) ∧ Below w.heap.size w w' := by
  have hBw := hE.le
  have hif := isIfaceE
  obtain ⟨a, c, b, o, rfl, ha, hc, hcm, hx⟩ := hl
  have hl : FilesAt w (.slice a l.length c) l := ⟨a, c, b, o, rfl, ha, hc, hcm, hx⟩
  unfold maxLen at hcm
  go_enter Tryz.func32, Tryz.ntmps32
  go_wp2_with fail
  refine (listCheck_any E B _ l _ hE hT hM hl hs).mono ?_
  rintro e w2 ⟨ev, rfl, hev, hb2⟩
  by_cases hck : listCheck l = .nil
  case neg =>
    have HL : Hid (listTextR l = []) := Lib.hid (if_neg hck)
    obtain ⟨u, x, rfl⟩ := hev.iface hck
    have He := Lib.hid hev; clear hev hck
    go_wp2_with fail
    go_ret2
    exact ⟨_, by rw [HL.out]; rfl, He.out, hb2⟩
  rw [hck] at hev
  obtain rfl : ev = .nilIface := hev
  have HC := Lib.hid hck
  have HL : Hid (listTextR l = listText l) := Lib.hid (if_pos hck)
  have HR := Lib.hid ((right_iff l).1 hck); clear hck
  have hb0 : BldAt w2.heap.size w2.heap.size [] (w2.alloc (.cells #[.pointer none, .slice none 0 0] 136)) := Lib.fresh_isBuilder 136 5 w2
  have hba : Below w2.heap.size w2 (w2.alloc (.cells #[.pointer none, .slice none 0 0] 136)) := (Below.refl _ _).alloc (Nat.le_refl _) _
  have hE2 := hE.below' hb2 hBw; have hT2 := hT.below' hb2 hBw; have hM2 := hM.below' hb2 hBw
  have hx2 : ∀ (k : Nat) (x : Fl), l[k]? = some x → ∀ (j : Nat) (u : Value), (encF x)[j]? = some u → w2.cell? ⟨b, o + k * 6 + j, none⟩ = some u := fun k x hk j u hu => (hb2.cell (World.block_lt_of_cell? w _ (hx k x hk j u hu))).trans (hx k x hk j u hu)
  have Hs := Lib.hid hs
  clear hx hl hs
  go_wp2_with fail
  go_loopw [15] (fun i wr => ∃ k : Nat, k ≤ l.length ∧ i = .int .i64 k ∧ Hid (BldAt w2.heap.size w2.heap.size (listText (l.take k)) wr) ∧ Below w2.heap.size w2 wr) (fun i _ => l.length - (intOf i).toNat)
  case atStart => exact ⟨0, by omega, rfl, Lib.hid hb0, hba⟩
  case round =>
    obtain ⟨k, hk, rfl, hbl, hb⟩ := hrel
    by_cases hlt : k < l.length
    case neg =>
      obtain rfl : k = l.length := by omega
      have hbS := bldString_any _ _ _ _ hbl.out hb.size
      rw [List.take_length] at hbS
      have HS := Lib.hid hbS; clear hbS
      go_wp2_with fail
      refine HS.out.mono ?_
      rintro e w3 ⟨rfl, hb3⟩
      go_wp2_with fail
      go_ret2
      exact ⟨_, by rw [HL.out]; rfl, by rw [HC.out]; rfl, hb2.trans ((hb.trans hb3).mono hb2.size)⟩
    obtain ⟨x, hxk⟩ := get_ex hlt
    obtain ⟨c0, c1, c2, c3, c4, c5⟩ := flCells hx2 hb hxk
    have i1 := idx_at (c := c) 6 Tryz.underlying28 szFl ha k hlt
    have hk1 : (k : Int) < (l.length : Int) := by omega
    have hsx := Hs.out x (List.mem_of_getElem? hxk)
    have hckx := HR.out.ok x (List.mem_of_getElem? hxk)
    have hft : fileText x = fileLine x := if_pos hckx
    have hfl := fileLine_len hckx
    have hll := listText_len (l := l.take k) (fun f hf => HR.out.ok f (List.mem_of_mem_take hf))
    have hln := HR.out.len
    have hlm : (listText (l.take k)).length ≤ 10000 := by rw [List.length_take] at hll; omega
    have hsn := take_snoc' hxk
    have Hx := Lib.hid hsn; clear hsn hxk hll hckx
    have hb0 : Below w2.heap.size w2 (wr.alloc (.cells #[S x.path, S x.part, .int .i64 x.n, .int .i64 x.lo, .int .i64 x.hi, .int .i64 x.seq] 50)) := hb.alloc hb.size _
    have hb0' : Below wr.heap.size wr (wr.alloc (.cells #[S x.path, S x.part, .int .i64 x.n, .int .i64 x.lo, .int .i64 x.hi, .int .i64 x.seq] 50)) := (Below.refl _ _).alloc (Nat.le_refl _) _
    go_wp2_with fail
    generalize wr.alloc (.cells #[S x.path, S x.part, .int .i64 x.n, .int .i64 x.lo, .int .i64 x.hi, .int .i64 x.seq] 50) = w3 at *
    refine (fileText_any E B x _ ((hE2.sub (by decide)).below' hb0 hE2.le) (hT2.below' hb0 hE2.le) (hM2.below' hb0 hE2.le) hsx).mono ?_
    rintro e w4 ⟨rfl, hb4⟩
    rw [hft]
    have hb4' := hb0.trans (hb4.mono hb0.size)
    have hw := bldWrite_any w2.heap.size w2.heap.size (listText (l.take k)) (fileLine x ++ [10]) w4 ((hbl.out.below hb0').below hb4) (by simp; omega) hb4'.size
    generalize hTe : listText (l.take k) = T at *
    generalize hXe : fileLine x = X at *
    have HTe := Lib.hid hTe; have HXe := Lib.hid hXe; clear hTe hXe
    have HW := Lib.hid hw; clear hw
    clear c0 c1 c2 c3 c4 c5 i1
    go_wp2_with fail
    refine HW.out.mono ?_
    rintro e w5 ⟨rfl, hbl5, hb5⟩
    have HB5 := Lib.hid hbl5; clear hbl5
    go_wp2_with fail
    go_roundw
    case rel => exact ⟨k + 1, by omega, by go_num, Lib.hid (by rw [Hx.out, listText_snoc, HTe.out, HXe.out]; exact HB5.out), hb4'.trans hb5⟩
    case measure => simp [intOf]; omega
end Go.Proofs.YtikboodjfanjkaaGreatDoor
namespace Go.Proofs.YtikboodjfanjkaaGreatDoor
open Go.RowKit

abbrev oneF (p : Str) (n : Int) : Fl := ⟨p, [97], 1, 0, 0, n⟩
abbrev pD1 : Str := [100, 97, 116, 97, 47, 49]
abbrev pD2 : Str := [100, 97, 116, 97, 47, 50]
theorem itoa0 : Lib.itoa 0 = [48] := (Lib.itoa_nonneg 0).trans (Lib.decDigits_one (by decide))
theorem itoa1 : Lib.itoa 1 = [49] := (Lib.itoa_nonneg 1).trans (Lib.decDigits_one (by decide))
theorem itoa2 : Lib.itoa 2 = [50] := (Lib.itoa_nonneg 2).trans (Lib.decDigits_one (by decide))
theorem pathD1 : pathF pD1 = some (kData, 1) := by
  have h : numOf [49] = some 1 := by have := numOf_itoa (n := 1) (by decide) (by decide); rwa [itoa1] at this
  have hc : Lib.cut pD1 [47] = (kData, [49], true) := cut_app1 (c := 47) (p := kData) (q := [49]) (by decide)
  unfold pathF
  rw [hc]
  simp only [h]
  rfl
theorem pathD2 : pathF pD2 = some (kData, 2) := by
  have h : numOf [50] = some 2 := by have := numOf_itoa (n := 2) (by decide) (by decide); rwa [itoa2] at this
  have hc : Lib.cut pD2 [47] = (kData, [50], true) := cut_app1 (c := 47) (p := kData) (q := [50]) (by decide)
  unfold pathF
  rw [hc]
  simp only [h]
  rfl
theorem check_one {p : Str} {n : Int} (h : pathF p = some (kData, n)) : checkF (oneF p 1) = 0 := by
  refine checkF_right h ?_ (by unfold boundF farN; simp)
  have : kindF p = kData := by unfold kindF; rw [h]; rfl
  show partOk (kindF p) [97] = true
  rw [this]; decide
theorem keyD1 : keyP pD1 = 2147483649 := by unfold keyP; rw [pathD1]; rfl
theorem keyD2 : keyP pD2 = 2147483650 := by unfold keyP; rw [pathD2]; rfl
theorem right_two : RightL [oneF pD1 1, oneF pD2 1] :=
  ⟨by decide, fun f hf => by
    rcases List.mem_cons.1 hf with rfl | hf
    · exact check_one pathD1
    · obtain rfl := List.mem_singleton.1 hf
      exact check_one pathD2, List.pairwise_cons.2 ⟨fun g hg => by
    obtain rfl := List.mem_singleton.1 hg
    show keyP pD1 < keyP pD2
    rw [keyD1, keyD2]; decide, by simp⟩⟩
theorem text_two : listText [oneF pD1 1, oneF pD2 1] = [100, 97, 116, 97, 47, 49, 32, 97, 32, 49, 32, 48, 32, 48, 32, 49, 10, 100, 97, 116, 97, 47, 50, 32, 97, 32, 49, 32, 48, 32, 48, 32, 49, 10] := by
  simp [listText, fileLine, numsTail, itoa0, itoa1]

theorem one_any (p : Str) (n : Int) (w : World) : Calls Tryz.prog 87 #[S p, .int .i64 n] w fun e w' => e = .returned (fileV (oneF p n)) ∧ Below w.heap.size w w' := by
  go_enter Tryz.func87, Tryz.ntmps87
  go_wp2_with fail
  exact bodyPost_ret (results_cell_row rfl _ _ w.heap.size _ _ (0, 0) _ rfl (heap_alloc_new w _) Tryz.underlying50 rfl (by kernel_rfl)) rfl ⟨rfl, (Below.refl _ _).alloc (Nat.le_refl _) _⟩
theorem file_new (f : Fl) (w : World) (t : TypeId) (H : Nat) (hH : w.heap.size = H) : FilesAt (w.alloc (.cells #[S f.path, S f.part, .int .i64 f.n, .int .i64 f.lo, .int .i64 f.hi, .int .i64 f.seq] t)) (.slice (some ⟨H, 0, none⟩) 1 1) [f] := by
  subst hH
  refine ⟨_, _, w.heap.size, 0, rfl, fun _ => rfl, Nat.le_refl 1, (by decide : 1 ≤ maxLen), fun k z hk j u hu => ?_⟩
  have hk' : k = 0 := by
    rcases Nat.eq_zero_or_pos k with h | h
    · exact h
    · rw [List.getElem?_eq_none (by simp; omega)] at hk; cases hk
  subst hk'
  obtain rfl : f = z := by simpa using hk
  rw [cell_of_row (w.alloc _) w.heap.size _ _ t (0, 0) (heap_alloc_new w _)]
  simpa using hu
set_option maxRecDepth 20000 in
theorem listed_any (E : Nat → Addr) (B : Nat) (w : World) (hE : Errs [2, 4, 5, 7, 8, 9] E B w) (hT : LNum B w) (hM : LMax B w) :
    Calls Tryz.prog 27 #[] w fun e w' => e = .returned (.bool true) ∧ Below w.heap.size w w' := by
  have hBw := hE.le
  have hif := isIfaceE
  go_enter Tryz.func27, Tryz.ntmps27
  go_wp2_with fail
  refine (one_any pD2 1 w).mono ?_
  rintro e w1 ⟨rfl, hb1⟩
  have hb2 := hb1.alloc hb1.size (.cells #[S pD2, S [97], .int .i64 1, .int .i64 0, .int .i64 0, .int .i64 1] 50)
  have hl2 : FilesAt (w1.alloc (.cells #[S pD2, S [97], .int .i64 1, .int .i64 0, .int .i64 0, .int .i64 1] 50)) (.slice (some ⟨w1.heap.size, 0, none⟩) 1 1) [oneF pD2 1] := file_new (oneF pD2 1) w1 50 _ rfl
  go_wp2_with fail
  generalize w1.alloc (.cells #[S pD2, S [97], .int .i64 1, .int .i64 0, .int .i64 0, .int .i64 1] 50) = w2 at *
  refine (one_any pD1 1 w2).mono ?_
  rintro e w3 ⟨rfl, hb3⟩
  have hb3' := hb2.trans (hb3.mono hb2.size)
  have hl3 := hl2.below hb3
  obtain ⟨ha1, ha2⟩ := add_head right_two
  have HA := Lib.hid ha1; have HA2 := Lib.hid ha2; clear ha1 ha2
  go_wp2_with fail
  refine (listAdd_any E B _ [oneF pD2 1] (oneF pD1 1) _ (hE.below' hb3' hBw) (hT.below' hb3' hBw) (hM.below' hb3' hBw) hl3 (fun x hx => by obtain rfl := List.mem_singleton.1 hx; decide) (by decide) (by decide)).mono ?_
  rintro e w4 ⟨u, ev, rfl, hu, hev, hb4⟩
  rw [HA.out] at hev
  obtain rfl : ev = .nilIface := hev
  rw [HA2.out] at hu
  have hb4' := hb3'.trans (hb4.mono hb3'.size)
  go_wp2_with fail
  refine (listText_any E B _ [oneF pD1 1, oneF pD2 1] _ ((hE.sub (by decide)).below' hb4' hBw) (hT.below' hb4' hBw) (hM.below' hb4' hBw) hu (fun x hx => by
    rcases List.mem_cons.1 hx with rfl | hx
    · decide
    · obtain rfl := List.mem_singleton.1 hx; decide)).mono ?_
  rintro e w5 ⟨ev, rfl, hev, hb5⟩
  have hck := (right_iff _).2 right_two
  rw [hck] at hev
  obtain rfl : ev = .nilIface := hev
  rw [show listTextR [oneF pD1 1, oneF pD2 1] = _ from (if_pos hck).trans text_two]
  clear hck
  go_wp2_with fail
  go_ret
  exact ⟨rfl, hb4'.trans (hb5.mono hb4'.size)⟩
end Go.Proofs.YtikboodjfanjkaaGreatDoor
namespace Go.Proofs.YtikboodjfanjkaaGreatDoor
open Go.RowKit

theorem fl_equalIn (x y : Fl) (w : World) : (Op.equalIn 10000 50 (fileV x) (fileV y)).run Tryz.prog w = .ok (decide (x = y)) w := by
  have uS := Tryz.underlying9
  have uI := Tryz.underlying3
  have aS := Tryz.isAgg9
  have aI := Tryz.isAgg3
  have zS := Tryz.sizeOf9
  have zI := Tryz.sizeOf3
  have hS : Tryz.prog.underlying 50 = some (.struct (Tryz.prog.fieldsOf 50)) := by kernel_rfl
  have hp : Tryz.prog.stoodInHeld 50 = false := by kernel_rfl
  rw [show (10000 : Nat) = 9999 + 1 from rfl, run_equalIn_agg w 9999 50 _ _ hS hp]
  simp only [Program.fieldsOf, Tryz.underlying50]
  go_simp
  cases x with
  | mk p1 q1 n1 a1 b1 s1 =>
  cases y with
  | mk p2 q2 n2 a2 b2 s2 =>
  by_cases h1 : p1 = p2 <;> by_cases h2 : q1 = q2 <;> by_cases h3 : n1 = n2 <;> by_cases h4 : a1 = a2 <;> by_cases h5 : b1 = b2 <;> by_cases h6 : s1 = s2 <;> simp [h1, h2, h3, h4, h5, h6]
theorem fl_neq (x y : Fl) (w : World) : (binOp .neq 50 (fileV x) (fileV y)).run Tryz.prog w = .ok (.bool (!decide (x = y))) w := by
  rw [run_neq_struct, fl_equalIn]; rfl
theorem fl_eql (x y : Fl) (w : World) : (binOp .eql 50 (fileV x) (fileV y)).run Tryz.prog w = .ok (.bool (decide (x = y))) w := by
  rw [run_eql_struct, fl_equalIn]; rfl
theorem fl_guard : Tryz.prog.eqGuardType Tryz.prog.depth 50 = false := by kernel_rfl
set_option maxRecDepth 20000 in
theorem sameFiles_any (v u : Value) (l m : List Fl) (w : World) (hl : FilesAt w v l) (hm : FilesAt w u m) :
    Calls Tryz.prog 38 #[v, u] w fun e w' => e = .returned (.bool (decide (l = m))) ∧ Below w.heap.size w w' := by
  obtain ⟨a, c, b, o, rfl, ha, hc, hcm, hx⟩ := hl
  obtain ⟨a', c', b', o', rfl, ha', hc', hcm', hx'⟩ := hm
  unfold maxLen at hcm hcm'
  by_cases hlen : l.length = m.length
  case neg =>
    have hne : ((l.length : Int) != (m.length : Int)) = true := by simp; omega
    go_enter Tryz.func38, Tryz.ntmps38
    go_wp2_with fail
    go_ret
    exact ⟨ret_bool (decide_eq_false fun e => hlen (by rw [e])).symm, Below.refl _ _⟩
  have hne : ((l.length : Int) != (m.length : Int)) = false := by simp [hlen]
  have Hl := Lib.hid hlen; clear hlen
  go_enter Tryz.func38, Tryz.ntmps38
  go_wp2_with fail
  go_loopw [5] (fun i wr => ∃ k : Nat, k ≤ l.length ∧ i = .int .i64 k ∧ Hid (∀ j < k, l[j]? = m[j]?) ∧ Below w.heap.size w wr) (fun i _ => l.length - (intOf i).toNat)
  case atStart => exact ⟨0, by omega, rfl, Lib.hid fun j hj => absurd hj (by omega), Below.refl _ _⟩
  case round =>
    obtain ⟨k, hk, rfl, hj, hb⟩ := hrel
    by_cases hlt : k < l.length
    case neg =>
      obtain rfl : k = l.length := by omega
      go_wp2_with fail
      go_ret
      exact ⟨ret_bool (decide_eq_true (list_ext_upto Hl.out hj.out)).symm, hb⟩
    obtain ⟨x, hxk⟩ := get_ex hlt
    obtain ⟨y, hyk⟩ := get_ex (l := m) (k := k) (by rw [← Hl.out]; exact hlt)
    obtain ⟨c0, c1, c2, c3, c4, c5⟩ := flCells hx hb hxk
    obtain ⟨d0, d1, d2, d3, d4, d5⟩ := flCells hx' hb hyk
    have i1 := idx_at (c := c) 6 Tryz.underlying28 szFl ha k hlt
    have i2 := idx_at (c := c') 6 Tryz.underlying28 szFl ha' k (by rw [← Hl.out]; exact hlt)
    have hk1 : (k : Int) < (l.length : Int) := by omega
    have hn := fl_neq x y
    have hgd := fl_guard
    have Hx := Lib.hid hxk; clear hxk
    have Hy := Lib.hid hyk; clear hyk
    go_wp2_with fail
    go_quiet (fail)
    by_cases he : x = y
    · rw [decide_eq_true he]
      have He := Lib.hid he; clear he
      go_wp2_with fail
      go_roundw
      case rel => exact ⟨k + 1, by omega, by go_num, (Lib.hid fun j hj' => by
        rcases Nat.lt_or_ge j k with h | h
        · exact hj.out j h
        · obtain rfl : j = k := by omega
          rw [Hx.out, Hy.out, He.out]), Bdn hb _⟩
      case measure => simp [intOf]; omega
    · rw [decide_eq_false he]
      have He := Lib.hid he; clear he
      go_wp2_with fail
      go_ret
      refine ⟨ret_bool (decide_eq_false fun e => He.out ?_).symm, Bdn hb _⟩
      have := Hx.out; rw [e, Hy.out] at this; exact (Option.some.inj this).symm
end Go.Proofs.YtikboodjfanjkaaGreatDoor
namespace Go.Proofs.YtikboodjfanjkaaGreatDoor

/-- How far the list is, and what it holds by then. -/
def DelRel {α : Type} (p : α → Bool) (l : List α) (i j : Nat) (ys : List α) : Prop :=
  i < j ∧ j ≤ l.length ∧ ys.length = l.length ∧ ys.take i = (l.take j).filter (fun x => !p x) ∧ ys.drop j = l.drop j

theorem filter_take_none {α : Type} {p : α → Bool} {l : List α} {k : Nat} (h : ∀ (j : Nat) (y : α), j < k → l[j]? = some y → p y = false) : (l.take k).filter (fun x => !p x) = l.take k := by
  refine List.filter_eq_self.2 fun x hx => ?_
  obtain ⟨j, hj, he⟩ := List.getElem_of_mem hx
  rw [List.length_take] at hj
  have : l[j]? = some x := by rw [List.getElem_take] at he; simp [he, show j < l.length by omega]
  simp [h j x (by omega) this]
theorem DelRel.start {α : Type} {p : α → Bool} {l : List α} {k : Nat} {x : α} (hk : l[k]? = some x) (hp : p x = true) (h : ∀ (j : Nat) (y : α), j < k → l[j]? = some y → p y = false) : DelRel p l k (k + 1) l := by
  have hlt : k < l.length := by
    rcases Nat.lt_or_ge k l.length with h' | h'
    · exact h'
    · rw [List.getElem?_eq_none h'] at hk; cases hk
  refine ⟨by omega, by omega, rfl, ?_, rfl⟩
  rw [List.take_add_one, hk, List.filter_append, filter_take_none h]
  simp [hp]
theorem DelRel.skip {α : Type} {p : α → Bool} {l ys : List α} {i j : Nat} {x : α} (h : DelRel p l i j ys) (hx : l[j]? = some x) (hp : p x = true) : DelRel p l i (j + 1) ys := by
  obtain ⟨h1, h2, h3, h4, h5⟩ := h
  have hlt : j < l.length := by
    rcases Nat.lt_or_ge j l.length with h' | h'
    · exact h'
    · rw [List.getElem?_eq_none h'] at hx; cases hx
  refine ⟨by omega, by omega, h3, ?_, ?_⟩
  · rw [h4, List.take_add_one, hx, List.filter_append]; simp [hp]
  · rw [← List.drop_drop, h5, List.drop_drop]
theorem DelRel.keep {α : Type} {p : α → Bool} {l ys : List α} {i j : Nat} {x : α} (h : DelRel p l i j ys) (hx : l[j]? = some x) (hp : p x = false) : DelRel p l (i + 1) (j + 1) (ys.set i x) := by
  obtain ⟨h1, h2, h3, h4, h5⟩ := h
  have hlt : j < l.length := by
    rcases Nat.lt_or_ge j l.length with h' | h'
    · exact h'
    · rw [List.getElem?_eq_none h'] at hx; cases hx
  refine ⟨by omega, by omega, by simpa using h3, ?_, ?_⟩
  · rw [List.take_add_one (l := l), hx, List.filter_append, ← h4, List.take_add_one, List.take_set_of_le (Nat.le_refl _), List.getElem?_set_self (by omega)]
    simp [hp]
  · rw [List.drop_set_of_lt (by omega), ← List.drop_drop, h5, List.drop_drop]
theorem DelRel.next {α : Type} {p : α → Bool} {l ys : List α} {i j : Nat} {x : α} (h : DelRel p l i j ys) (hx : l[j]? = some x) : ys[j]? = some x := by
  have : (ys.drop j)[0]? = (l.drop j)[0]? := by rw [h.2.2.2.2]
  simpa [hx] using this
theorem DelRel.done {α : Type} {p : α → Bool} {l ys : List α} {i : Nat} (h : DelRel p l i l.length ys) : ys.take i = l.filter (fun x => !p x) := by
  have := h.2.2.2.1; rwa [List.take_length] at this

end Go.Proofs.YtikboodjfanjkaaGreatDoor
namespace Go.Proofs.YtikboodjfanjkaaGreatDoor
open Go.RowKit

theorem row_setCell {w : World} {g i : Nat} {cur : Array Value} {t : TypeId} {fr : Nat × Nat} (hg : w.heap[g]? = some (.cells cur t fr)) (v : Value) : (w.setCell ⟨g, i, none⟩ v).heap[g]? = some (.cells (cur.setIfInBounds i v) t fr) := by
  simp only [World.setCell, Array.getElem?_modify, hg]
  rfl
/-- A struct of six cells, written cell by cell. -/
abbrev six (w : World) (g o : Nat) (b0 b1 b2 b3 b4 b5 : Value) : World := (((((w.setCell ⟨g, o, none⟩ b0).setCell ⟨g, o + 1, none⟩ b1).setCell ⟨g, o + 2, none⟩ b2).setCell ⟨g, o + 3, none⟩ b3).setCell ⟨g, o + 4, none⟩ b4).setCell ⟨g, o + 5, none⟩ b5
theorem six_row {w : World} {g o : Nat} {t : TypeId} {fr : Nat × Nat} {cur : Array Value} (hg : w.heap[g]? = some (.cells cur t fr)) (b0 b1 b2 b3 b4 b5 : Value) : (six w g o b0 b1 b2 b3 b4 b5).heap[g]? = some (.cells ((((((cur.setIfInBounds o b0).setIfInBounds (o + 1) b1).setIfInBounds (o + 2) b2).setIfInBounds (o + 3) b3).setIfInBounds (o + 4) b4).setIfInBounds (o + 5) b5) t fr) :=
  row_setCell (row_setCell (row_setCell (row_setCell (row_setCell (row_setCell hg b0) b1) b2) b3) b4) b5
theorem six_below {B : Nat} {w0 w : World} {g o : Nat} (hb : Below B w0 w) (hB : B ≤ g) (b0 b1 b2 b3 b4 b5 : Value) : Below B w0 (six w g o b0 b1 b2 b3 b4 b5) :=
  (((((hb.setCell (p := ⟨g, o, none⟩) hB _).setCell (p := ⟨g, o + 1, none⟩) hB _).setCell (p := ⟨g, o + 2, none⟩) hB _).setCell (p := ⟨g, o + 3, none⟩) hB _).setCell (p := ⟨g, o + 4, none⟩) hB _).setCell (p := ⟨g, o + 5, none⟩) hB _
theorem six_new {w : World} {g : Nat} {t : TypeId} {fr : Nat × Nat} {a0 a1 a2 a3 a4 a5 : Value} (hg : w.heap[g]? = some (.cells #[a0, a1, a2, a3, a4, a5] t fr)) (b0 b1 b2 b3 b4 b5 : Value) : (six w g 0 b0 b1 b2 b3 b4 b5).heap[g]? = some (.cells #[b0, b1, b2, b3, b4, b5] t fr) := six_row hg _ _ _ _ _ _
theorem World.heap_drew (w : World) : w.drew.heap = w.heap := rfl
theorem ret_row {P : Program} {fn : Func} {p u : Tmp} {ty : TypeId} (h : fn.results = #[.cell p ty, .tmp u]) (tmps : Array Value) (w : World) (g : Nat) (t : TypeId) (cs : Array Value) (fr : Nat × Nat) (d : TypeDesc) (hp : tmps.getD p undef = .pointer (some ⟨g, 0, none⟩)) (hg : w.heap[g]? = some (.cells cs t fr))
    (hu : P.underlying ty = some d) (hd : (match d with | .struct _ | .array _ _ => true | _ => false) = true) (hi : (P.info? ty).map (·.size) = some cs.size) : (results fn tmps).run P w = .ok (.tuple #[.agg cs, tmps.getD u undef]) w := by
  rw [results_cell_tmp h, hp]
  simp [asAddr, run_loadVar_row w g t ty cs fr d hg hu hd hi, Result.andThen]
end Go.Proofs.YtikboodjfanjkaaGreatDoor
