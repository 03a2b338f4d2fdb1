/- Lists of files written and read, in plain words. Of no program. The checksum in plain words: of each byte what its bits make; one byte another one, and the sum is another one. Of no program. Texts in a block: a head of a word and four numbers, a body of lines; one byte of it turned. In plain words. Rising lists of numbers without doubles; sorted and compacted; the least and the greatest. Of no program. Rows in plain words: of no program. Parts in plain words: a spec, a row's group. -/
import Derived.Test.YtpfohfihkmjnaaaGreatDoorP5
import Derived.Test.YtpfohfihkmjnaaaGreatDoorP3
import Derived.Test.YtpfohfihkmjnaaaGreatDoorP1
namespace Go.Proofs.YtpfohfihkmjnaaaGreatDoor
open Go.RowKit

theorem cut_app1 {c : UInt8} {p q : Str} (h : c ∉ p) : Lib.cut (p ++ c :: q) [c] = (p, q, true) := by
  unfold Lib.cut
  rw [index_app1 h, if_pos (by omega), Int.toNat_natCast, List.take_left' rfl, show p.length + [c].length = p.length + 1 from rfl, ← List.drop_drop, List.drop_left' rfl]
  rfl
theorem cut_none1 {c : UInt8} {s : Str} (h : c ∉ s) : Lib.cut s [c] = (s, [], false) := by
  unfold Lib.cut
  rw [index_none1 h, if_neg (by omega)]

/-- What numbers follow, a blank ahead of each. -/
def numsTail (l : List Int) : Str := l.flatMap fun n => 32 :: Lib.itoa n
def fileLine (f : Fl) : Str := f.path ++ 32 :: f.part ++ numsTail [f.n, f.lo, f.hi, f.seq]
def fileText (f : Fl) : Str := if checkF f = 0 then fileLine f else []
def zeroF : Fl := ⟨[], [], 0, 0, 0, 0⟩
/-- A file of six words. -/
def fileOf : List Str → Option Fl
  | [p, q, a, b, c, d] =>
    match numsOf [a, b, c, d] with
    | some [n, lo, hi, seq] => some ⟨p, q, n, lo, hi, seq⟩
    | _ => none
  | _ => none
/-- A file read: an error's number. -/
def fileRead (s : Str) : Fl × Nat :=
  match fileOf (cutAt 32 s) with
  | none => (zeroF, 1)
  | some f => if checkF f = 0 then (f, 0) else (zeroF, checkF f)

theorem cut_nums : ∀ (l : List Int) (p : Str), (32 : UInt8) ∉ p → cutAt 32 (p ++ numsTail l) = p :: l.map Lib.itoa
  | [], p, hp => by simp [numsTail, cutAt_none hp]
  | n :: r, p, hp => by
    have e : p ++ numsTail (n :: r) = p ++ 32 :: (Lib.itoa n ++ numsTail r) := by simp [numsTail]
    rw [e, cutAt_app hp, cut_nums r _ (not_mem_itoa' (by decide) (by decide))]
    rfl
theorem numsOf_map : ∀ (l : List Int), (∀ x ∈ l, -10000000000 < x ∧ x < 10000000000) → numsOf (l.map Lib.itoa) = some l
  | [], _ => rfl
  | n :: r, hl => by
    have h1 := hl n (by simp)
    have h2 := numsOf_map r (fun x hx => hl x (by simp [hx]))
    unfold numsOf at h2 ⊢
    simp [List.mapM_cons, numOf_itoa' h1.1 h1.2, h2]

theorem checkF_zero {f : Fl} (h : checkF f = 0) : ∃ k n, pathF f.path = some (k, n) ∧ partOk k f.part = true ∧ ¬ boundF f := by
  unfold checkF at h
  split at h
  · cases h
  · rename_i h1
    split at h
    · cases h
    · rename_i h2
      split at h
      · cases h
      · rename_i h3
        cases hp : pathF f.path with
        | none => exact absurd hp h1
        | some kn =>
          obtain ⟨k, n⟩ := kn
          refine ⟨k, n, rfl, ?_, h3⟩
          have : kindF f.path = k := by simp [kindF, hp]
          rw [this] at h2
          simpa using h2
/-- A right path is its kind, a stroke, a numeral. -/
theorem pathF_form {p k : Str} {n : Int} (h : pathF p = some (k, n)) : p = k ++ 47 :: Lib.itoa n ∧ (k = kData ∨ k = kGone) ∧ 1 ≤ n ∧ n ≤ 1073741824 := by
  obtain ⟨h1, h2, h3⟩ := pathF_some h
  refine ⟨?_, h1, h2, h3⟩
  unfold pathF at h
  split at h
  · rename_i hc
    by_cases hm : (47 : UInt8) ∈ p
    · obtain ⟨a, b, hab, ha⟩ := List.eq_append_cons_of_mem hm
      subst hab
      rw [cut_app1 ha] at h hc
      simp only at h hc
      cases hn : numOf b with
      | none => rw [hn] at h; cases h
      | some m =>
        rw [hn, Option.bind_some] at h
        split at h
        · cases h
        · simp only [Option.some.injEq, Prod.mk.injEq] at h
          obtain ⟨rfl, rfl⟩ := h
          rw [numOf_text hn]
    · rw [cut_none1 hm] at hc
      exact absurd hc.1 (by simp)
  · cases h
theorem path_sign {p k : Str} {n : Int} (h : pathF p = some (k, n)) : ∀ c ∈ p, c = 45 ∨ 47 ≤ c.toNat := by
  obtain ⟨rfl, hk, h1, h2⟩ := pathF_form h
  intro c hc
  rcases List.mem_append.1 hc with h | h
  · rcases hk with rfl | rfl <;> (simp at h; rcases h with rfl | rfl | rfl | rfl <;> decide)
  · rcases List.mem_cons.1 h with rfl | h
    · decide
    · rcases itoa_sign n c h with h | h
      · exact .inl h
      · exact .inr (by omega)
theorem part_sign {k s : Str} (h : partOk k s = true) : ∀ c ∈ s, c = 45 ∨ 47 ≤ c.toNat := by
  unfold partOk at h
  intro c hc
  split at h
  · have : s = [45] := by simpa using h
    subst this
    simp at hc; exact .inl hc
  · simp only [Bool.and_eq_true, List.all_eq_true] at h
    have := h.2.2 c hc
    have hm : c ∈ partSigns := by simpa using this
    refine .inr ?_
    simp only [partSigns, List.mem_cons, List.mem_nil_iff, or_false] at hm
    rcases hm with rfl | rfl | rfl | rfl | rfl | rfl | rfl | rfl | rfl | rfl | rfl | rfl | rfl | rfl | rfl | rfl | rfl | rfl | rfl | rfl | rfl | rfl | rfl | rfl | rfl | rfl | rfl | rfl | rfl | rfl | rfl | rfl | rfl | rfl | rfl | rfl <;> decide
theorem not_mem_sign {s : Str} (h : ∀ c ∈ s, c = 45 ∨ 47 ≤ c.toNat) {c : UInt8} (h1 : c ≠ 45) (h2 : c.toNat < 47) : c ∉ s := fun hc => (h c hc).elim h1 (by omega)

/-- A file is read as it was written. -/
theorem fileRead_line {f : Fl} (h : checkF f = 0) : fileRead (fileLine f) = (f, 0) := by
  obtain ⟨k, n, hp, hq, hb⟩ := checkF_zero h
  have h1 := not_mem_sign (path_sign hp) (c := 32) (by decide) (by decide)
  have h2 := not_mem_sign (part_sign hq) (c := 32) (by decide) (by decide)
  have hc : cutAt 32 (fileLine f) = f.path :: f.part :: [f.n, f.lo, f.hi, f.seq].map Lib.itoa := by
    unfold fileLine
    rw [List.append_assoc, List.cons_append, cutAt_app h1, cut_nums _ _ h2]
  have hn : numsOf ([f.n, f.lo, f.hi, f.seq].map Lib.itoa) = some [f.n, f.lo, f.hi, f.seq] := numsOf_map _ fun x hx => by
    unfold boundF farN at hb
    simp only [List.mem_cons, List.mem_nil_iff, or_false] at hx
    rcases hx with rfl | rfl | rfl | rfl <;> omega
  simp only [List.map_cons, List.map_nil] at hc hn
  unfold fileRead
  rw [hc]
  simp only [fileOf, hn]
  rw [if_pos h]
theorem nums_sign (l : List Int) : ∀ c ∈ numsTail l, c = 32 ∨ c = 45 ∨ 47 ≤ c.toNat := by
  intro c hc
  obtain ⟨n, _, h⟩ := List.mem_flatMap.1 hc
  rcases List.mem_cons.1 h with h | h
  · exact .inl h
  · rcases itoa_sign n c h with h | h
    · exact .inr (.inl h)
    · exact .inr (.inr (by omega))
theorem line_none {f : Fl} (h : checkF f = 0) : (10 : UInt8) ∉ fileLine f := by
  obtain ⟨k, n, hp, hq, hb⟩ := checkF_zero h
  have h1 := not_mem_sign (path_sign hp) (c := 10) (by decide) (by decide)
  have h2 := not_mem_sign (part_sign hq) (c := 10) (by decide) (by decide)
  unfold fileLine
  intro hc
  simp only [List.append_assoc, List.mem_append, List.cons_append, List.mem_cons] at hc
  rcases hc with hc | hc | hc | hc
  · exact h1 hc
  · exact absurd hc (by decide)
  · exact h2 hc
  · rcases nums_sign _ _ hc with h | h | h
    · exact absurd h (by decide)
    · exact absurd h (by decide)
    · exact absurd h (by decide)
theorem fileLine_len {f : Fl} (h : checkF f = 0) : (fileLine f).length ≤ 150 := by
  obtain ⟨k, n, hp, hq, hb⟩ := checkF_zero h
  obtain ⟨h1, hk, hn1, hn2⟩ := pathF_form hp
  have hl : ∀ m : Int, -1073741824 ≤ m → m ≤ 1073741824 → (Lib.itoa m).length ≤ 21 := fun m a b => itoa_len m (by omega) (by omega)
  have e1 : f.path.length ≤ 26 := by
    have h2 := hl n (by omega) (by omega)
    rw [h1]
    rcases hk with rfl | rfl <;> simp <;> omega
  have e2 : f.part.length ≤ 12 := by
    unfold partOk at hq
    split at hq
    · have : f.part = [45] := by simpa using hq
      rw [this]; decide
    · simp only [Bool.and_eq_true, decide_eq_true_eq] at hq
      exact hq.2.1
  unfold boundF farN at hb
  have a1 := hl f.n (by omega) (by omega)
  have a2 := hl f.lo (by omega) (by omega)
  have a3 := hl f.hi (by omega) (by omega)
  have a4 := hl f.seq (by omega) (by omega)
  unfold fileLine numsTail
  simp only [List.flatMap_cons, List.flatMap_nil, List.append_nil, List.length_append, List.length_cons]
  omega

def listText (l : List Fl) : Str := l.flatMap fun f => fileLine f ++ [10]
theorem listText_snoc (l : List Fl) (f : Fl) : listText (l ++ [f]) = listText l ++ (fileLine f ++ [10]) := by simp [listText]
theorem listText_len {l : List Fl} (h : ∀ f ∈ l, checkF f = 0) : (listText l).length ≤ l.length * 151 := by
  induction l with
  | nil => simp [listText]
  | cons x r ih =>
    have h1 := fileLine_len (h x (by simp))
    have h2 := ih fun f hf => h f (by simp [hf])
    simp only [listText, List.flatMap_cons, List.length_append, List.length_cons, List.length_nil] at h2 ⊢
    omega
theorem cut_list : ∀ {l : List Fl}, (∀ f ∈ l, checkF f = 0) → cutAt 10 (listText l) = l.map fileLine ++ [[]]
  | [], _ => rfl
  | f :: r, h => by
    have e : listText (f :: r) = fileLine f ++ 10 :: listText r := by simp [listText]
    rw [e, cutAt_app (line_none (h f (by simp))), cut_list fun g hg => h g (by simp [hg])]
    rfl

/-- How many lines are files' lines. -/
def manyL (lines : List Str) : Nat := if lines.getLast?.getD [] = [] then lines.length - 1 else lines.length
/-- A line's fault at its place. -/
def lineFault (lines : List Str) (i : Nat) : Nat :=
  match lines[i]? with
  | none => 0
  | some s =>
    if i + 1 = lines.length then 1
    else if (fileRead s).2 ≠ 0 then (fileRead s).2
    else if 0 < i ∧ ∃ g, lines[i - 1]? = some g ∧ cmpP (fileRead s).1.path (fileRead g).1.path ≤ 0 then 9 else 0
def linesE (lines : List Str) : Er := if 60 < manyL lines then .bare 8 else firstErr (lineFault lines) (manyL lines)
def listReadE (s : Str) : Er := linesE (cutAt 10 s)
def listReadL (s : Str) : List Fl := if listReadE s = .nil then ((cutAt 10 s).take (manyL (cutAt 10 s))).map (fun x => (fileRead x).1) else []

theorem fileRead_check {s : Str} (h : (fileRead s).2 = 0) : checkF (fileRead s).1 = 0 := by
  unfold fileRead at h ⊢
  split
  · rename_i h1; rw [h1] at h; cases h
  · rename_i f h1
    rw [h1] at h
    simp only at h ⊢
    split
    · assumption
    · rename_i h2; rw [if_neg h2] at h; exact absurd h h2
/-- What is read is a right list. -/
theorem listRead_right {s : Str} (h : listReadE s = .nil) : RightL (listReadL s) := by
  unfold listReadL
  rw [if_pos h]
  unfold listReadE linesE at h
  generalize cutAt 10 s = lines at *
  split at h
  · cases h
  rename_i hm
  have hf := firstErr_nil h
  have hml : manyL lines ≤ lines.length := by unfold manyL; split <;> omega
  have hat : ∀ (i : Nat) (x : Str), i < manyL lines → lines[i]? = some x → (fileRead x).2 = 0 ∧ (0 < i → ∀ g, lines[i - 1]? = some g → ¬ cmpP (fileRead x).1.path (fileRead g).1.path ≤ 0) := by
    intro i x hi hx
    have := hf i hi
    unfold lineFault at this
    rw [hx] at this
    simp only at this
    split at this
    · cases this
    · split at this
      · rename_i h1; exact absurd this h1
      · rename_i h1
        split at this
        · cases this
        · rename_i h2
          exact ⟨Decidable.not_not.1 h1, fun h0 g hg hc => h2 ⟨h0, g, hg, hc⟩⟩
  refine ⟨by rw [List.length_map, List.length_take]; omega, fun f hf => ?_, pair_next fun i a b ha hb => ?_⟩
  · obtain ⟨x, hx, rfl⟩ := List.mem_map.1 hf
    obtain ⟨i, hi⟩ := List.getElem?_of_mem hx
    rw [List.getElem?_take] at hi
    split at hi
    · exact fileRead_check (hat i x (by assumption) hi).1
    · cases hi
  · rw [List.getElem?_map] at ha hb
    cases hx : (lines.take (manyL lines))[i]? with
    | none => rw [hx] at ha; cases ha
    | some x =>
      cases hy : (lines.take (manyL lines))[i + 1]? with
      | none => rw [hy] at hb; cases hb
      | some y =>
        rw [hx] at ha; rw [hy] at hb
        obtain rfl : (fileRead x).1 = a := by simpa using ha
        obtain rfl : (fileRead y).1 = b := by simpa using hb
        rw [List.getElem?_take] at hx hy
        split at hx
        · split at hy
          · have := (hat (i + 1) y (by assumption) hy).2 (by omega) x hx
            rw [cmpP_le] at this
            omega
          · cases hy
        · cases hx

/-- A list is read as it was written. -/
theorem listRead_text {l : List Fl} (h : RightL l) : listReadE (listText l) = .nil ∧ listReadL (listText l) = l := by
  have hc := cut_list h.ok
  have hlen : (l.map fileLine ++ [[]]).length = l.length + 1 := by simp
  have hm : manyL (l.map fileLine ++ [[]]) = l.length := by
    unfold manyL
    rw [if_pos (by simp), hlen]; omega
  have hget : ∀ i, i < l.length → ∀ f, l[i]? = some f → (l.map fileLine ++ [[]])[i]? = some (fileLine f) := fun i hi f hf => by
    rw [List.getElem?_append_left (by simpa using hi), List.getElem?_map, hf]; rfl
  have he : listReadE (listText l) = .nil := by
    unfold listReadE linesE
    rw [hc, hm, if_neg (by have := h.len; omega)]
    refine firstErr_all fun j hj => ?_
    have hj' := List.getElem?_eq_getElem hj
    unfold lineFault
    rw [hget j hj _ hj', hlen]
    have hr := fileRead_line (h.ok _ (List.getElem_mem hj))
    simp only [hr]
    rw [if_neg (by omega), if_neg (by simp), if_neg]
    rintro ⟨h0, g, hg, hcm⟩
    have hj1 : j - 1 < l.length := by omega
    rw [hget (j - 1) hj1 _ (List.getElem?_eq_getElem hj1)] at hg
    obtain rfl := Option.some.inj hg
    have hr1 := fileRead_line (h.ok _ (List.getElem_mem hj1))
    rw [hr1, cmpP_le] at hcm
    have := List.pairwise_iff_getElem.1 h.ris (j - 1) j hj1 hj (by omega)
    simp only at hcm
    omega
  refine ⟨he, ?_⟩
  unfold listReadL
  rw [if_pos he, hc, hm, List.take_left' (by simp), List.map_map]
  have : ∀ f ∈ l, ((fun x => (fileRead x).1) ∘ fileLine) f = f := fun f hf => by
    simp only [Function.comp, fileRead_line (h.ok f hf)]
  rw [List.map_congr_left this]
  simp

/-- Added, and removed: what was. -/
theorem add_remove {l : List Fl} {f : Fl} (h : addE l f = .nil) : RightL (addL l f) ∧ (addL l f).length = l.length + 1 ∧ f ∈ addL l f ∧ removeE (addL l f) f.path = .nil ∧ removeL (addL l f) f.path = l := by
  have h0 := h
  unfold addE at h
  split at h
  · rename_i h1; exact absurd h h1
  rename_i h1
  split at h
  · cases h
  rename_i h2
  split at h
  · cases h
  rename_i h3
  split at h
  · cases h
  rename_i h4
  have hR := (right_iff l).1 (Decidable.not_not.1 h1)
  obtain ⟨k, hk⟩ := place_ex l f hR.ris
  have hl : addL l f = l.take k ++ f :: l.drop k := by unfold addL; rw [if_pos h0, placeF_at hk]
  have hlow : ∀ g ∈ l.take k, keyP g.path < keyP f.path := fun g hg => by
    obtain ⟨j, hj, he⟩ := List.getElem_of_mem hg
    rw [List.length_take] at hj
    rw [List.getElem_take] at he
    exact hk.low j g (by omega) (by rw [← he]; exact List.getElem?_eq_getElem (by omega))
  have hhigh : ∀ g ∈ l.drop k, keyP f.path < keyP g.path := fun g hg => by
    obtain ⟨j, hj, he⟩ := List.getElem_of_mem hg
    rw [List.length_drop] at hj
    rw [List.getElem_drop] at he
    have := hk.high (k + j) g (by omega) (by rw [← he]; exact List.getElem?_eq_getElem (by omega))
    have hne : keyP g.path ≠ keyP f.path := fun e => h3 ⟨g, List.mem_of_mem_drop hg, e⟩
    omega
  have hlen : (l.take k ++ f :: l.drop k).length = l.length + 1 := by
    rw [List.length_append, List.length_cons, List.length_take, List.length_drop]; have := hk.le; omega
  have hris : (l.take k ++ f :: l.drop k).Pairwise (fun a b => keyP a.path < keyP b.path) := by
    refine List.pairwise_append.2 ⟨hR.ris.sublist (List.take_sublist ..), List.pairwise_cons.2 ⟨hhigh, hR.ris.sublist (List.drop_sublist ..)⟩, fun a ha b hb => ?_⟩
    rcases List.mem_cons.1 hb with rfl | hb
    · exact hlow a ha
    · exact Int.lt_trans (hlow a ha) (hhigh b hb)
  have hR2 : RightL (l.take k ++ f :: l.drop k) := ⟨by omega, fun g hg => by
    rcases List.mem_append.1 hg with hg | hg
    · exact hR.ok g (List.mem_of_mem_take hg)
    · rcases List.mem_cons.1 hg with rfl | hg
      · exact Decidable.not_not.1 h2
      · exact hR.ok g (List.mem_of_mem_drop hg), hris⟩
  have hkk : (l.take k).length = k := by rw [List.length_take]; have := hk.le; omega
  have hfk : (l.take k ++ f :: l.drop k)[k]? = some f := by
    rw [List.getElem?_append_right (by omega), hkk, Nat.sub_self]; rfl
  have hre : removeE (l.take k ++ f :: l.drop k) f.path = .nil := by
    unfold removeE
    rw [if_neg (by simp [(right_iff _).2 hR2]), findF_at hris hfk, if_neg (by simp)]
  rw [hl]
  refine ⟨hR2, hlen, by simp, hre, ?_⟩
  unfold removeL
  rw [if_pos hre, dropF_at hris hfk, List.take_left' hkk, ← List.drop_drop, List.drop_left' hkk, List.drop_one, List.tail_cons, List.take_append_drop]
end Go.Proofs.YtpfohfihkmjnaaaGreatDoor
namespace Go.Proofs.YtpfohfihkmjnaaaGreatDoor

def crcP : Nat := 3988292384
def crcBit (x : Nat) : Nat := if x % 2 = 1 then x / 2 ^^^ crcP else x / 2
def crcIter : Nat → Nat → Nat
  | 0, x => x
  | k + 1, x => crcIter k (crcBit x)
def crcStep (c : Nat) (b : UInt8) : Nat := crcIter 8 (c ^^^ b.toNat)
def crcFold (c : Nat) (s : Str) : Nat := s.foldl crcStep c
def sumOf (s : Str) : Nat := crcFold 4294967295 s ^^^ 4294967295

theorem xor_canc {a b c : Nat} (h : a ^^^ c = b ^^^ c) : a = b := by
  have := congrArg (· ^^^ c) h
  simpa [Nat.xor_assoc] using this
theorem xor_cancl {a b c : Nat} (h : c ^^^ a = c ^^^ b) : a = b := xor_canc (c := c) (by rw [Nat.xor_comm a, Nat.xor_comm b]; exact h)
theorem crcBit_lt {x : Nat} (h : x < 4294967296) : crcBit x < 4294967296 := by
  unfold crcBit crcP
  split
  · exact Nat.xor_lt_two_pow (n := 32) (by omega) (by omega)
  · omega
theorem crcBit_inj {x y : Nat} (hx : x < 4294967296) (hy : y < 4294967296) (h : crcBit x = crcBit y) : x = y := by
  have t : ∀ a : Nat, a < 2 ^ 31 → (a ^^^ crcP).testBit 31 = true := fun a ha => by
    rw [Nat.testBit_xor, Nat.testBit_lt_two_pow ha]; decide
  have f : ∀ a : Nat, a < 2 ^ 31 → a.testBit 31 = false := fun a ha => Nat.testBit_lt_two_pow ha
  unfold crcBit at h
  split at h <;> split at h
  · have := xor_canc h; omega
  · have h1 := t (x / 2) (by omega); rw [h, f (y / 2) (by omega)] at h1; cases h1
  · have h1 := t (y / 2) (by omega); rw [← h, f (x / 2) (by omega)] at h1; cases h1
  · omega
theorem crcIter_lt : ∀ (k : Nat) {x : Nat}, x < 4294967296 → crcIter k x < 4294967296
  | 0, _, h => h
  | k + 1, _, h => crcIter_lt k (crcBit_lt h)
theorem crcIter_inj : ∀ (k : Nat) {x y : Nat}, x < 4294967296 → y < 4294967296 → crcIter k x = crcIter k y → x = y
  | 0, _, _, _, _, h => h
  | k + 1, _, _, hx, hy, h => crcBit_inj hx hy (crcIter_inj k (crcBit_lt hx) (crcBit_lt hy) h)
theorem byte_lt (b : UInt8) : b.toNat < 256 := b.toNat_lt
theorem xor_byte {c : Nat} (h : c < 4294967296) (b : UInt8) : c ^^^ b.toNat < 4294967296 :=
  Nat.xor_lt_two_pow (n := 32) h (by have := byte_lt b; omega)
theorem crcStep_lt {c : Nat} (h : c < 4294967296) (b : UInt8) : crcStep c b < 4294967296 := crcIter_lt 8 (xor_byte h b)
theorem crcStep_state {c d : Nat} {b : UInt8} (hc : c < 4294967296) (hd : d < 4294967296) (h : crcStep c b = crcStep d b) : c = d :=
  xor_canc (crcIter_inj 8 (xor_byte hc b) (xor_byte hd b) h)
theorem crcStep_byte {c : Nat} {a b : UInt8} (hc : c < 4294967296) (h : crcStep c a = crcStep c b) : a = b :=
  UInt8.toNat_inj.1 (xor_cancl (crcIter_inj 8 (xor_byte hc a) (xor_byte hc b) h))
theorem crcFold_lt : ∀ (s : Str) {c : Nat}, c < 4294967296 → crcFold c s < 4294967296
  | [], _, h => h
  | b :: r, _, h => crcFold_lt r (crcStep_lt h b)
theorem crcFold_inj : ∀ (s : Str) {c d : Nat}, c < 4294967296 → d < 4294967296 → crcFold c s = crcFold d s → c = d
  | [], _, _, _, _, h => h
  | b :: r, _, _, hc, hd, h => crcStep_state hc hd (crcFold_inj r (crcStep_lt hc b) (crcStep_lt hd b) h)
theorem crcFold_app (c : Nat) (p q : Str) : crcFold c (p ++ q) = crcFold (crcFold c p) q := List.foldl_append
theorem crcFold_snoc (c : Nat) (p : Str) (b : UInt8) : crcFold c (p ++ [b]) = crcStep (crcFold c p) b := by rw [crcFold_app]; rfl
theorem sumOf_lt (s : Str) : sumOf s < 4294967296 := Nat.xor_lt_two_pow (n := 32) (crcFold_lt s (by omega)) (by omega)
/-- One byte another one: another sum. -/
theorem sumOf_one {p q : Str} {a b : UInt8} (h : sumOf (p ++ a :: q) = sumOf (p ++ b :: q)) : a = b := by
  have h1 := xor_canc h
  rw [crcFold_app, crcFold_app] at h1
  have hc := crcFold_lt p (c := 4294967295) (by omega)
  exact crcStep_byte hc (crcFold_inj q (crcStep_lt hc a) (crcStep_lt hc b) h1)
theorem sumOf_set {s : Str} {i : Nat} {c x : UInt8} (hx : s[i]? = some x) (hne : x ≠ c) : sumOf (s.set i c) ≠ sumOf s := by
  obtain ⟨hi, rfl⟩ := List.getElem?_eq_some_iff.1 hx
  intro h
  have e1 : s.set i c = s.take i ++ c :: s.drop (i + 1) := List.set_eq_take_append_cons_drop.trans (if_pos hi)
  have e2 : s = s.take i ++ s[i] :: s.drop (i + 1) := by rw [← List.drop_eq_getElem_cons hi, List.take_append_drop]
  have e3 : sumOf s = sumOf (s.take i ++ s[i] :: s.drop (i + 1)) := congrArg sumOf e2
  rw [e1, e3] at h
  exact hne (sumOf_one h).symm

theorem crcIter_high : ∀ (k x h : Nat), crcIter k (x ^^^ 2 ^ k * h) = crcIter k x ^^^ h
  | 0, x, h => by simp [crcIter]
  | k + 1, x, h => by
    have e : crcBit (x ^^^ 2 ^ (k + 1) * h) = crcBit x ^^^ 2 ^ k * h := by
      have e0 : 2 ^ (k + 1) * h = 2 * (2 ^ k * h) := by rw [Nat.pow_succ, Nat.mul_comm (2 ^ k) 2, Nat.mul_assoc]
      rw [e0]
      generalize 2 ^ k * h = m
      have hm : (x ^^^ 2 * m) % 2 = x % 2 := by
        have := Nat.xor_mod_two_pow (a := x) (b := 2 * m) (n := 1)
        rw [Nat.pow_one, Nat.mul_mod_right, Nat.xor_zero] at this
        exact this
      have hd : (x ^^^ 2 * m) / 2 = x / 2 ^^^ m := by
        rw [Nat.xor_div_two]; congr 1; omega
      unfold crcBit
      rw [hm, hd]
      split
      · rw [Nat.xor_assoc, Nat.xor_comm m crcP, ← Nat.xor_assoc]
      · rfl
    rw [crcIter, e, crcIter_high k, crcIter]
theorem low_high (c : Nat) : c = c % 256 ^^^ 2 ^ 8 * (c / 256) := by
  apply Nat.eq_of_testBit_eq
  intro i
  rw [Nat.testBit_xor, Nat.testBit_two_pow_mul, show (256 : Nat) = 2 ^ 8 from rfl, Nat.testBit_mod_two_pow, Nat.testBit_div_two_pow]
  by_cases h : i < 8
  · have h' : ¬ 8 ≤ i := by omega
    simp [h, h']
  · have h' : 8 ≤ i := by omega
    simp [h, h']
/-- A round by the table. -/
theorem crc_table (c : Nat) (b : UInt8) : c / 256 ^^^ crcIter 8 (c % 256 ^^^ b.toNat) = crcStep c b := by
  unfold crcStep
  have e : c ^^^ b.toNat = (c % 256 ^^^ b.toNat) ^^^ 2 ^ 8 * (c / 256) := by
    rw [Nat.xor_assoc, Nat.xor_comm b.toNat, ← Nat.xor_assoc, ← low_high]
  rw [e, crcIter_high, Nat.xor_comm]
theorem crcIter_succ (k x : Nat) : crcIter (k + 1) x = crcBit (crcIter k x) := by
  induction k generalizing x with
  | zero => rfl
  | succ k ih => rw [crcIter, ih, crcIter]
end Go.Proofs.YtpfohfihkmjnaaaGreatDoor
namespace Go.Proofs.YtpfohfihkmjnaaaGreatDoor
open Go.RowKit

/-- The parts of a text that was cut, joined again. -/
def joinC (c : UInt8) : List Str → Str
  | [] => []
  | [x] => x
  | x :: y :: r => x ++ c :: joinC c (y :: r)
theorem joinC_head (c y : UInt8) (a : Str) : ∀ t : List Str, joinC c ((y :: a) :: t) = y :: joinC c (a :: t)
  | [] => rfl
  | _ :: _ => rfl
theorem join_cut (c : UInt8) : ∀ s : Str, joinC c (cutAt c s) = s
  | [] => rfl
  | x :: r => by
    have ih := join_cut c r
    have hne := cutAt_ne c r
    unfold cutAt
    cases hc : cutAt c r with
    | nil => exact absurd hc hne
    | cons a t =>
      rw [hc] at ih
      by_cases h : x = c
      · rw [if_pos h, h]
        show [] ++ c :: joinC c (a :: t) = c :: r
        rw [ih]; rfl
      · rw [if_neg h]
        show joinC c ((x :: a) :: t) = x :: r
        rw [joinC_head, ih]
theorem cutAt_inj {c : UInt8} {s t : Str} (h : cutAt c s = cutAt c t) : s = t := by rw [← join_cut c s, h, join_cut]
/-- A part ahead of the last one is there whatever follows. -/
theorem cutAt_pre {c : UInt8} : ∀ (p q : Str) (j : Nat), j + 1 < (cutAt c p).length → (cutAt c (p ++ q))[j]? = (cutAt c p)[j]?
  | [], q, j, h => by simp [cutAt] at h
  | x :: r, q, j, h => by
    have ih := cutAt_pre (c := c) r q
    have hne := cutAt_ne c r
    have hne2 := cutAt_ne c (r ++ q)
    rw [List.cons_append]
    unfold cutAt at h ⊢
    by_cases hx : x = c
    · rw [if_pos hx] at h ⊢
      rw [if_pos hx]
      cases j with
      | zero => rfl
      | succ j => simpa using ih j (by simpa using h)
    · rw [if_neg hx] at h ⊢
      rw [if_neg hx]
      cases hc : cutAt c r with
      | nil => exact absurd hc hne
      | cons a t =>
        cases hc2 : cutAt c (r ++ q) with
        | nil => exact absurd hc2 hne2
        | cons a2 t2 =>
          rw [hc] at h
          simp only [hc, hc2] at ih
          simp only [List.length_cons] at h ih
          cases j with
          | zero =>
            have := ih 0 (by omega)
            simp only [List.getElem?_cons_zero, Option.some.injEq] at this
            simp [this]
          | succ j =>
            have := ih (j + 1) (by omega)
            simpa using this
theorem joinC_two (c : UInt8) (x y : Str) (r : List Str) : joinC c (x :: y :: r) = x ++ c :: joinC c (y :: r) := rfl
theorem joinC_itoa (p : Str) : ∀ l : List Int, joinC 32 (p :: l.map Lib.itoa) = p ++ numsTail l
  | [] => by simp [joinC, numsTail]
  | n :: r => by
    rw [List.map_cons, joinC_two, joinC_itoa (Lib.itoa n) r]
    simp [numsTail]

/-- The least and the greatest of numbers (none: 0, 0). -/
def endsI (l : List Int) : Int × Int := if l = [] then (0, 0) else (Lib.minOf l, Lib.maxOf l)
def bodyT (ls : List Str) : Str := ls.flatMap fun s => s ++ [10]
def headT (word : Str) (n lo hi sum : Int) : Str := word ++ numsTail [n, lo, hi, sum]
def wholeT (word : Str) (keys : List Int) (body : Str) : Str := headT word keys.length (endsI keys).1 (endsI keys).2 (sumOf body) ++ 10 :: body
theorem bodyT_snoc (ls : List Str) (s : Str) : bodyT (ls ++ [s]) = bodyT ls ++ (s ++ [10]) := by simp [bodyT]
theorem cut_body : ∀ {ls : List Str}, (∀ s ∈ ls, (10 : UInt8) ∉ s) → cutAt 10 (bodyT ls) = ls ++ [[]]
  | [], _ => rfl
  | s :: r, h => by
    have ih := cut_body (ls := r) fun x hx => h x (by simp [hx])
    have : bodyT (s :: r) = s ++ 10 :: bodyT r := by simp [bodyT]
    rw [this, cutAt_app (h s (by simp)), ih]; rfl
theorem body_inj {l m : List Str} (hl : ∀ s ∈ l, (10 : UInt8) ∉ s) (hm : ∀ s ∈ m, (10 : UInt8) ∉ s) (h : bodyT l = bodyT m) : l = m := by
  have h1 := cut_body hl
  rw [h, cut_body hm] at h1
  exact (List.append_cancel_right h1).symm
theorem body_count : ∀ {ls : List Str}, (∀ s ∈ ls, (10 : UInt8) ∉ s) → (bodyT ls).count 10 = ls.length
  | [], _ => rfl
  | s :: r, h => by
    have ih := body_count (ls := r) fun x hx => h x (by simp [hx])
    have : bodyT (s :: r) = s ++ 10 :: bodyT r := by simp [bodyT]
    rw [this, List.count_append, List.count_cons_self, ih, List.count_eq_zero.2 (h s (by simp))]
    simp
theorem head_clean {word : Str} (hw : (10 : UInt8) ∉ word) (n lo hi sum : Int) : (10 : UInt8) ∉ headT word n lo hi sum := by
  unfold headT
  intro h
  rcases List.mem_append.1 h with h | h
  · exact hw h
  · rcases nums_sign _ _ h with e | e | e
    · revert e; decide
    · revert e; decide
    · revert e; decide
theorem blk_cut_head {word : Str} (hw : (32 : UInt8) ∉ word) (n lo hi sum : Int) : cutAt 32 (headT word n lo hi sum) = [word, Lib.itoa n, Lib.itoa lo, Lib.itoa hi, Lib.itoa sum] := cut_nums _ _ hw
theorem itoa_inj' {n m : Int} (h : Lib.itoa n = Lib.itoa m) : n = m := by
  have h1 := atoi_itoa n
  rw [h, atoi_itoa] at h1
  exact (Option.some.inj h1).symm
/-- A text is cut once at its first newline. -/
theorem first_cut {p q p' q' : Str} (h : p ++ 10 :: q = p' ++ 10 :: q') (hp : (10 : UInt8) ∉ p) (hp' : (10 : UInt8) ∉ p') : p = p' ∧ q = q' := by
  have h1 := cut_app1 (c := 10) (q := q) hp
  rw [h, cut_app1 hp'] at h1
  simp only [Prod.mk.injEq, and_true] at h1
  exact ⟨h1.1.symm, h1.2.symm⟩
theorem set_take_drop {α : Type} : ∀ {s : List α} {i : Nat} (c : α), i < s.length → s.set i c = s.take i ++ c :: s.drop (i + 1)
  | [], _, _, h => by simp at h
  | x :: r, 0, c, _ => rfl
  | x :: r, i + 1, c, h => by simp [set_take_drop (s := r) (i := i) c (by simpa using h)]
theorem count_take_drop {s : Str} {i : Nat} {x c : UInt8} (hx : s[i]? = some x) : (s.set i c).count 10 + (if x = 10 then 1 else 0) = s.count 10 + (if c = 10 then 1 else 0) := by
  obtain ⟨hi, hg⟩ := List.getElem?_eq_some_iff.1 hx
  have h1 := set_take_drop (s := s) c hi
  have h2 : s = s.take i ++ x :: s.drop (i + 1) := by rw [← hg, List.getElem_cons_drop, List.take_append_drop]
  rw [h1]
  conv => rhs; rw [h2]
  simp only [List.count_append, List.count_cons, beq_iff_eq]
  omega
/-- ONE BYTE TURNED: what comes of it is no such text. -/
theorem block_one {word : Str} {k k' : List Int} {ls ls' : List Str} {i : Nat} {c x : UInt8} (hw : (32 : UInt8) ∉ word) (hw10 : (10 : UInt8) ∉ word) (hl : ls.length = k.length) (hl' : ls'.length = k'.length) (h10 : ∀ s ∈ ls, (10 : UInt8) ∉ s) (h10' : ∀ s ∈ ls', (10 : UInt8) ∉ s)
    (hk : ls = ls' → k = k') (hx : (wholeT word k (bodyT ls))[i]? = some x) (hne : x ≠ c) : (wholeT word k (bodyT ls)).set i c ≠ wholeT word k' (bodyT ls') := by
  intro he
  have hcnt := count_take_drop (c := c) hx
  rw [he] at hcnt
  unfold wholeT at he hx hcnt
  have hH := head_clean hw10 k.length (endsI k).1 (endsI k).2 (sumOf (bodyT ls))
  have hH' := head_clean hw10 k'.length (endsI k').1 (endsI k').2 (sumOf (bodyT ls'))
  have cH := blk_cut_head hw k.length (endsI k).1 (endsI k).2 (sumOf (bodyT ls))
  have cH' := blk_cut_head hw k'.length (endsI k').1 (endsI k').2 (sumOf (bodyT ls'))
  have hsame : ls = ls' → headT word k.length (endsI k).1 (endsI k).2 (sumOf (bodyT ls)) = headT word k'.length (endsI k').1 (endsI k').2 (sumOf (bodyT ls')) := fun e => by rw [hk e, e]
  generalize headT word k.length (endsI k).1 (endsI k).2 (sumOf (bodyT ls)) = H at *
  generalize headT word k'.length (endsI k').1 (endsI k').2 (sumOf (bodyT ls')) = H' at *
  have hcB := body_count h10
  have hcB' := body_count h10'
  have hn0 : H.count 10 = 0 := List.count_eq_zero.2 hH
  have hn0' : H'.count 10 = 0 := List.count_eq_zero.2 hH'
  simp only [List.count_append, List.count_cons_self, hn0, hn0', hcB, hcB'] at hcnt
  rcases Nat.lt_trichotomy i H.length with hi | hi | hi
  · -- in the head
    rw [List.set_append_left _ _ hi] at he
    rw [List.getElem?_append_left hi] at hx
    have hx10 : x ≠ 10 := fun e => hH (e ▸ List.mem_of_getElem? hx)
    rw [if_neg hx10] at hcnt
    by_cases hc : c = 10
    · rw [if_pos hc] at hcnt
      rw [set_take_drop c hi, hc, List.append_assoc, List.cons_append] at he
      obtain ⟨e1, -⟩ := first_cut he (fun h => hH (List.mem_of_mem_take h)) hH'
      have h2 := cutAt_pre (c := 32) H' (H.drop i) 1 (by rw [cH']; simp)
      rw [← e1, List.take_append_drop, cH, e1, cH'] at h2
      have := itoa_inj' (Option.some.inj h2)
      omega
    · have hcl : (10 : UInt8) ∉ H.set i c := fun h => by
        rcases List.mem_or_eq_of_mem_set h with h | h
        · exact hH h
        · exact hc h.symm
      obtain ⟨e1, e2⟩ := first_cut he hcl hH'
      have e3 := body_inj h10 h10' e2
      rw [← hsame e3] at e1
      have : (H.set i c)[i]? = some c := by simp [hi]
      rw [e1, hx] at this
      exact hne (Option.some.inj this)
  · -- the head's end
    subst hi
    have hx' : x = 10 := by simpa using hx.symm
    have hc : c ≠ 10 := fun e => hne (hx'.trans e.symm)
    rw [if_pos hx', if_neg hc] at hcnt
    have e0 : (H ++ 10 :: bodyT ls).set H.length c = H ++ c :: bodyT ls := by simp
    rw [e0] at he
    have h1 := cutAt_pre (c := 32) H (c :: bodyT ls) 1 (by rw [cH]; simp)
    have h2 := cutAt_pre (c := 32) H' (10 :: bodyT ls') 1 (by rw [cH']; simp)
    rw [he, h2, cH, cH'] at h1
    have := itoa_inj' (Option.some.inj h1)
    omega
  · -- in the body
    obtain ⟨j, rfl⟩ : ∃ j, i = H.length + (j + 1) := ⟨i - H.length - 1, by omega⟩
    have e0 : (H ++ 10 :: bodyT ls).set (H.length + (j + 1)) c = H ++ 10 :: (bodyT ls).set j c := by
      rw [List.set_append_right _ _ (by omega)]; simp
    have hxj : (bodyT ls)[j]? = some x := by
      rw [List.getElem?_append_right (by omega)] at hx
      simpa using hx
    rw [e0] at he
    obtain ⟨e1, e2⟩ := first_cut he hH hH'
    rw [e1, cH'] at cH
    simp only [List.cons.injEq, and_true, true_and] at cH
    have hs := itoa_inj' cH.2.2.2
    rw [← e2] at hs
    exact sumOf_set hxj hne (by omega)
end Go.Proofs.YtpfohfihkmjnaaaGreatDoor
namespace Go.Proofs.YtpfohfihkmjnaaaGreatDoor
open Go.RowKit

/-- A number more, in a rising list without doubles. -/
def withI : List Int → Int → List Int
  | [], n => [n]
  | x :: r, n => if x < n then x :: withI r n else if x = n then x :: r else n :: x :: r
theorem withI_at : ∀ {l : List Int} {s : Int} {k : Nat}, k ≤ l.length → (∀ j < k, ∀ x, l[j]? = some x → x < s) → (∀ x, l[k]? = some x → s ≤ x) → withI l s = if l[k]? = some s then l else l.take k ++ s :: l.drop k
  | [], s, 0, _, _, _ => by simp [withI]
  | [], _, _ + 1, h, _, _ => by simp at h
  | x :: r, s, 0, _, _, h2 => by
    have hx := h2 x rfl
    unfold withI
    rw [if_neg (by omega)]
    by_cases he : x = s
    · rw [if_pos he, if_pos (by simp [he])]
    · rw [if_neg he, if_neg (by simpa using he)]; rfl
  | x :: r, s, k + 1, h, h1, h2 => by
    have hx := h1 0 (by omega) x rfl
    unfold withI
    rw [if_pos hx, withI_at (k := k) (by simpa using h) (fun j hj y hy => h1 (j + 1) (by omega) y (by simpa using hy)) (fun y hy => h2 y (by simpa using hy))]
    rw [List.getElem?_cons_succ]
    split <;> rfl
theorem withI_len (l : List Int) (s : Int) : (withI l s).length ≤ l.length + 1 := by
  induction l with
  | nil => simp [withI]
  | cons x r ih =>
    unfold withI
    split
    · simpa using ih
    · split <;> simp
theorem mem_withI {x s : Int} {l : List Int} : x ∈ withI l s ↔ x = s ∨ x ∈ l := by
  induction l with
  | nil => simp [withI]
  | cons y r ih =>
    unfold withI
    split
    · rw [List.mem_cons, ih, List.mem_cons]
      exact ⟨fun h => by rcases h with h | h | h <;> simp [h], fun h => by rcases h with h | h | h <;> simp [h]⟩
    · split
      · rename_i h; subst h; simp
      · rw [List.mem_cons]
def upI (l : List Int) : Prop := l.Pairwise (fun a b => a < b)
theorem up_withI {s : Int} : ∀ {l : List Int}, upI l → upI (withI l s)
  | [], _ => by simp [withI, upI]
  | x :: r, h => by
    obtain ⟨h1, h2⟩ := List.pairwise_cons.1 h
    unfold withI
    split
    · rename_i hb
      refine List.pairwise_cons.2 ⟨fun y hy => ?_, up_withI h2⟩
      rcases mem_withI.1 hy with rfl | hy
      · exact hb
      · exact h1 y hy
    · rename_i hb
      split
      · exact h
      · rename_i hne
        refine List.pairwise_cons.2 ⟨fun y hy => ?_, h⟩
        rcases List.mem_cons.1 hy with rfl | hy
        · omega
        · have := h1 y hy; omega
theorem upI_ext : ∀ {a b : List Int}, upI a → upI b → (∀ x, x ∈ a ↔ x ∈ b) → a = b
  | [], [], _, _, _ => rfl
  | [], y :: t, _, _, h => absurd ((h y).2 (by simp)) (by simp)
  | x :: r, [], _, _, h => absurd ((h x).1 (by simp)) (by simp)
  | x :: r, y :: t, ha, hb, h => by
    obtain ⟨ha1, ha2⟩ := List.pairwise_cons.1 ha
    obtain ⟨hb1, hb2⟩ := List.pairwise_cons.1 hb
    have hxy : x = y := by
      rcases List.mem_cons.1 ((h x).1 (by simp)) with e | e
      · exact e
      · rcases List.mem_cons.1 ((h y).2 (by simp)) with e' | e'
        · exact e'.symm
        · have k1 := hb1 x e
          have k2 := ha1 y e'
          omega
    subst hxy
    congr 1
    refine upI_ext ha2 hb2 fun z => ?_
    have hz := h z
    simp only [List.mem_cons] at hz
    constructor
    · intro m
      rcases hz.1 (.inr m) with e | e
      · have := ha1 z m; omega
      · exact e
    · intro m
      rcases hz.2 (.inr m) with e | e
      · have := hb1 z m; omega
      · exact e
/-- Numbers rising, each once. -/
def risOf (l : List Int) : List Int := l.foldl withI []
theorem foldI_up : ∀ (xs l : List Int), upI l → upI (xs.foldl withI l)
  | [], _, h => h
  | _ :: xs, _, h => foldI_up xs _ (up_withI h)
theorem mem_foldI {x : Int} : ∀ (xs l : List Int), x ∈ xs.foldl withI l ↔ x ∈ l ∨ x ∈ xs
  | [], l => by simp
  | y :: xs, l => by
    rw [List.foldl_cons, mem_foldI xs, mem_withI, List.mem_cons]
    exact ⟨fun h => by rcases h with (h | h) | h <;> simp [h], fun h => by rcases h with h | h | h <;> simp [h]⟩
theorem foldI_len : ∀ (xs l : List Int), (xs.foldl withI l).length ≤ l.length + xs.length
  | [], _ => Nat.le_refl _
  | x :: xs, l => by
    have h1 := foldI_len xs (withI l x)
    have h2 := withI_len l x
    rw [List.foldl_cons, List.length_cons]; omega
theorem risOf_up (l : List Int) : upI (risOf l) := foldI_up l [] List.Pairwise.nil
theorem mem_risOf {x : Int} {l : List Int} : x ∈ risOf l ↔ x ∈ l := by unfold risOf; rw [mem_foldI]; simp
theorem risOf_len (l : List Int) : (risOf l).length ≤ l.length := by have := foldI_len l []; simpa [risOf] using this
theorem risOf_snoc (l : List Int) (x : Int) : risOf (l ++ [x]) = withI (risOf l) x := by unfold risOf; rw [List.foldl_append]; rfl
theorem mem_compactUpToI {d : Array Int} {x : Int} : ∀ {m : Nat}, x ∈ Lib.compactUpTo d m ↔ ∃ j < m, d[j]! = x
  | 0 => by simp [Lib.compactUpTo]
  | m + 1 => by
    rw [Lib.compactUpTo_succ, List.mem_append, mem_compactUpToI (m := m)]
    constructor
    · rintro (⟨j, h1, h2⟩ | h)
      · exact ⟨j, by omega, h2⟩
      · split at h
        · exact ⟨m, by omega, (List.mem_singleton.1 h).symm⟩
        · cases h
    · rintro ⟨j, h1, h2⟩
      rcases Nat.lt_or_ge j m with h | h
      · exact .inl ⟨j, h, h2⟩
      · obtain rfl : j = m := by omega
        cases hk : Lib.keeps d j with
        | true => exact .inr (by simp [h2])
        | false =>
          unfold Lib.keeps at hk
          have hk := of_decide_eq_false hk
          have h0 : j ≠ 0 := fun e => hk (.inl e)
          have h3 : d[j]! = d[j - 1]! := Decidable.byContradiction fun e => hk (.inr e)
          exact .inl ⟨j - 1, by omega, by rw [← h3, h2]⟩
theorem mem_compactI {l : List Int} {x : Int} : x ∈ Lib.compact l ↔ x ∈ l := by
  unfold Lib.compact
  rw [mem_compactUpToI]
  constructor
  · rintro ⟨j, h1, h2⟩
    rw [← h2]
    simp [h1]
  · intro h
    obtain ⟨j, h1, h2⟩ := List.getElem_of_mem h
    exact ⟨j, h1, by simp [h1, h2]⟩
theorem up_compactI {l : List Int} (h : l.Pairwise (fun a b => a ≤ b)) : upI (Lib.compact l) := by
  have hi := List.pairwise_iff_getElem.1 h
  unfold Lib.compact Lib.compactUpTo upI
  refine List.pairwise_map.2 (List.pairwise_filter.2 ?_)
  refine List.Pairwise.imp_of_mem (fun {a b} ha hb hab => ?_) List.pairwise_lt_range
  intro _ hkb
  have ha' : a < l.length := List.mem_range.1 ha
  have hb' : b < l.length := List.mem_range.1 hb
  unfold Lib.keeps at hkb
  have hk := (of_decide_eq_true hkb).resolve_left (by omega)
  have g : ∀ j (hj : j < l.length), l.toArray[j]! = l[j] := fun j hj => by simp [hj]
  rw [g b hb', g (b - 1) (by omega)] at hk
  rw [g a ha', g b hb']
  have k1 := hi (b - 1) b (by omega) hb' (by omega)
  rcases Nat.lt_or_ge a (b - 1) with hlt | hge
  · have k2 := hi a (b - 1) ha' (by omega) hlt
    omega
  · have : a = b - 1 := by omega
    subst this
    omega
abbrev sortI (l : List Int) : List Int := l.mergeSort fun x y => decide (x ≤ y)
theorem sortedI_le (l : List Int) : (sortI l).Pairwise (fun a b => a ≤ b) := by
  have := List.pairwise_mergeSort (le := fun (x y : Int) => decide (x ≤ y)) (fun a b c h1 h2 => by simp only [decide_eq_true_eq] at *; omega) (fun a b => by
    simp only [Bool.or_eq_true, decide_eq_true_eq]; omega) l
  exact this.imp fun {a b} h => of_decide_eq_true h
theorem compact_sort (l : List Int) : Lib.compact (sortI l) = risOf l :=
  upI_ext (up_compactI (sortedI_le l)) (risOf_up l) fun x => by rw [mem_compactI, (List.mergeSort_perm l _).mem_iff, mem_risOf]
end Go.Proofs.YtpfohfihkmjnaaaGreatDoor
namespace Go.Proofs.YtpfohfihkmjnaaaGreatDoor
open Go.RowKit

/-- A row. -/
structure Rw where
  part : Str
  key : Int
  val : Int
  deriving DecidableEq, Inhabited

/-- Is a text a name? -/
def nameOk (s : Str) : Bool := decide (s ≠ []) && (decide (s.length ≤ 8) && s.all (fun b => partSigns.contains b))
/-- A row's fault, by its number. -/
def rowCheck (r : Rw) : Nat := if nameOk r.part = false then 5 else if farN r.key ∨ farN r.val then 2 else 0
def rowLine (r : Rw) : Str := r.part ++ numsTail [r.key, r.val]
def rowText (r : Rw) : Str := if rowCheck r = 0 then rowLine r else []
def zeroR : Rw := ⟨[], 0, 0⟩
def rowOf : List Str → Option Rw
  | [p, a, b] =>
    match numsOf [a, b] with
    | some [k, v] => some ⟨p, k, v⟩
    | _ => none
  | _ => none
def rowRead (s : Str) : Rw × Nat :=
  match rowOf (cutAt 32 s) with
  | none => (zeroR, 1)
  | some r => if rowCheck r = 0 then (r, 0) else (zeroR, rowCheck r)

theorem rowCheck_zero {r : Rw} (h : rowCheck r = 0) : nameOk r.part = true ∧ ¬ farN r.key ∧ ¬ farN r.val := by
  unfold rowCheck at h
  split at h
  · cases h
  · rename_i h1
    split at h
    · cases h
    · rename_i h2
      exact ⟨by simpa using h1, fun h => h2 (.inl h), fun h => h2 (.inr h)⟩
theorem name_sign {s : Str} (h : nameOk s = true) : (∀ c ∈ s, c = 45 ∨ 47 ≤ c.toNat) ∧ 1 ≤ s.length ∧ s.length ≤ 8 := by
  simp only [nameOk, Bool.and_eq_true, decide_eq_true_eq, List.all_eq_true] at h
  obtain ⟨h1, h2, h3⟩ := h
  refine ⟨fun c hc => ?_, by cases s with | nil => exact absurd rfl h1 | cons _ _ => simp, h2⟩
  have h4 := h3 c hc
  have h5 : ∀ d ∈ partSigns, d = 45 ∨ 47 ≤ d.toNat := by decide
  exact h5 c (by simpa using h4)
theorem rowRead_line {r : Rw} (h : rowCheck r = 0) : rowRead (rowLine r) = (r, 0) := by
  obtain ⟨h1, h2, h3⟩ := rowCheck_zero h
  have hno : (32 : UInt8) ∉ r.part := not_mem_sign (name_sign h1).1 (by decide) (by decide)
  have hc : cutAt 32 (rowLine r) = r.part :: [r.key, r.val].map Lib.itoa := cut_nums _ _ hno
  have hb : ∀ x ∈ [r.key, r.val], -10000000000 < x ∧ x < 10000000000 := by
    unfold farN at h2 h3
    intro x hx
    simp only [List.mem_cons, List.not_mem_nil, or_false] at hx
    rcases hx with rfl | rfl <;> omega
  have hn : numsOf [Lib.itoa r.key, Lib.itoa r.val] = some [r.key, r.val] := numsOf_map [r.key, r.val] hb
  have hr : rowOf [r.part, Lib.itoa r.key, Lib.itoa r.val] = some r := by
    show (match numsOf [Lib.itoa r.key, Lib.itoa r.val] with | some [k, v] => some ⟨r.part, k, v⟩ | _ => none) = some r
    rw [hn]
  unfold rowRead
  rw [hc]
  show (match rowOf [r.part, Lib.itoa r.key, Lib.itoa r.val] with | none => (zeroR, 1) | some r => if rowCheck r = 0 then (r, 0) else (zeroR, rowCheck r)) = (r, 0)
  rw [hr]
  show (if rowCheck r = 0 then (r, 0) else (zeroR, rowCheck r)) = (r, 0)
  rw [if_pos h]
theorem rowRead_none {s : Str} (h : rowOf (cutAt 32 s) = none) : rowRead s = (zeroR, 1) := by unfold rowRead; rw [h]
theorem rowRead_some {s : Str} {r : Rw} (h : rowOf (cutAt 32 s) = some r) : rowRead s = if rowCheck r = 0 then (r, 0) else (zeroR, rowCheck r) := by unfold rowRead; rw [h]
theorem rowOf_len {l : List Str} (h : l.length ≠ 3) : rowOf l = none := by
  match l, h with
  | [], _ => rfl
  | [_], _ => rfl
  | [_, _], _ => rfl
  | [_, _, _], h => exact absurd rfl h
  | _ :: _ :: _ :: _ :: _, _ => rfl
theorem three_strs {l : List Str} (h : l.length = 3) : ∃ p a b, l = [p, a, b] := by
  match l, h with
  | [p, a, b], _ => exact ⟨p, a, b, rfl⟩
theorem two_ints {l : List Int} (h : l.length = 2) : ∃ a b, l = [a, b] := by
  match l, h with
  | [a, b], _ => exact ⟨a, b, rfl⟩
theorem rowOf_nums {p a b : Str} (h : numsOf [a, b] = none) : rowOf [p, a, b] = none := by
  show (match numsOf [a, b] with | some [k, v] => some (⟨p, k, v⟩ : Rw) | _ => none) = none
  rw [h]
theorem rowOf_two {p a b : Str} {k v : Int} (h : numsOf [a, b] = some [k, v]) : rowOf [p, a, b] = some ⟨p, k, v⟩ := by
  show (match numsOf [a, b] with | some [k, v] => some (⟨p, k, v⟩ : Rw) | _ => none) = some ⟨p, k, v⟩
  rw [h]
theorem rowRead_check {s : Str} (h : (rowRead s).2 = 0) : rowCheck (rowRead s).1 = 0 := by
  cases hr : rowOf (cutAt 32 s) with
  | none => rw [rowRead_none hr] at h; cases h
  | some r =>
    rw [rowRead_some hr] at h ⊢
    by_cases h0 : rowCheck r = 0
    · rw [if_pos h0]; exact h0
    · rw [if_neg h0] at h; exact absurd h h0

/-- The order of rows. -/
def lessR (a b : Rw) : Bool := if a.part ≠ b.part then bef a.part b.part else if a.key ≠ b.key then decide (a.key < b.key) else decide (a.val < b.val)
def cmpI (a b : Int) : Int := if a < b then -1 else if b < a then 1 else 0
def cmpS (a b : Str) : Int := if bef a b = true then -1 else if bef b a = true then 1 else 0
def cmpR (a b : Rw) : Int := if cmpS a.part b.part ≠ 0 then cmpS a.part b.part else if cmpI a.key b.key ≠ 0 then cmpI a.key b.key else cmpI a.val b.val
theorem bef_irrefl (a : Str) : bef a a = false := by
  cases h : bef a a with
  | false => rfl
  | true => have := up_asym h; rw [h] at this; exact this
theorem bef_or : ∀ {a b : Str}, a ≠ b → bef a b = true ∨ bef b a = true
  | [], [], h => absurd rfl h
  | [], _ :: _, _ => .inl rfl
  | _ :: _, [], _ => .inr rfl
  | a :: r, b :: s, h => by
    show (decide (a < b) || (a == b && bytesBefore r s)) = true ∨ (decide (b < a) || (b == a && bytesBefore s r)) = true
    by_cases hab : a = b
    · subst hab
      have hrs : r ≠ s := fun e => h (by rw [e])
      rcases bef_or hrs with h1 | h1
      · left; have h1 : bytesBefore r s = true := h1; simp [h1]
      · right; have h1 : bytesBefore s r = true := h1; simp [h1]
    · rcases Nat.lt_or_gt_of_ne (fun e => hab (UInt8.toNat_inj.1 e)) with h1 | h1
      · left; simp [UInt8.lt_iff_toNat_lt, h1]
      · right; simp [UInt8.lt_iff_toNat_lt, h1]
theorem cmpS_zero {a b : Str} : cmpS a b = 0 ↔ a = b := by
  unfold cmpS
  constructor
  · intro h
    by_cases hab : a = b
    · exact hab
    · rcases bef_or hab with h1 | h1
      · rw [if_pos h1] at h; cases h
      · rw [if_neg (by rw [up_asym h1]; decide), if_pos h1] at h; cases h
  · rintro rfl
    rw [if_neg (by rw [bef_irrefl]; decide), if_neg (by rw [bef_irrefl]; decide)]
theorem cmpI_zero {a b : Int} : cmpI a b = 0 ↔ a = b := by
  unfold cmpI
  split
  · omega
  · split <;> omega
theorem cmpR_less (a b : Rw) : decide (cmpR a b < 0) = lessR a b := by
  unfold cmpR lessR
  by_cases h1 : a.part = b.part
  · rw [if_neg (fun h : cmpS a.part b.part ≠ 0 => h (cmpS_zero.2 h1)), if_neg (fun h : a.part ≠ b.part => h h1)]
    by_cases h2 : a.key = b.key
    · rw [if_neg (fun h : cmpI a.key b.key ≠ 0 => h (cmpI_zero.2 h2)), if_neg (fun h : a.key ≠ b.key => h h2)]
      unfold cmpI
      by_cases h3 : a.val < b.val
      · simp [h3]
      · by_cases h4 : b.val < a.val <;> simp [h3, h4]
    · rw [if_pos (show cmpI a.key b.key ≠ 0 from fun e => h2 (cmpI_zero.1 e)), if_pos (show a.key ≠ b.key from h2)]
      unfold cmpI
      by_cases h3 : a.key < b.key
      · simp [h3]
      · by_cases h4 : b.key < a.key <;> simp [h3, h4]
  · rw [if_pos (show cmpS a.part b.part ≠ 0 from fun e => h1 (cmpS_zero.1 e)), if_pos (show a.part ≠ b.part from h1)]
    unfold cmpS
    cases h3 : bef a.part b.part with
    | true => simp
    | false =>
      rcases bef_or h1 with h4 | h4
      · rw [h3] at h4; cases h4
      · simp [h4]
theorem less_irrefl (a : Rw) : lessR a a = false := by simp [lessR]
theorem less_trans {a b c : Rw} (h1 : lessR a b = true) (h2 : lessR b c = true) : lessR a c = true := by
  unfold lessR at *
  by_cases e1 : a.part = b.part
  · by_cases e2 : b.part = c.part
    · rw [if_neg (fun h : a.part ≠ b.part => h e1)] at h1
      rw [if_neg (fun h : b.part ≠ c.part => h e2)] at h2
      rw [if_neg (fun h : a.part ≠ c.part => h (e1.trans e2))]
      by_cases k1 : a.key = b.key <;> by_cases k2 : b.key = c.key
      · rw [if_neg (fun h : a.key ≠ b.key => h k1)] at h1
        rw [if_neg (fun h : b.key ≠ c.key => h k2)] at h2
        rw [if_neg (fun h : a.key ≠ c.key => h (k1.trans k2))]
        simp only [decide_eq_true_eq] at *; omega
      · rw [if_pos k2] at h2
        rw [if_pos (by rw [k1]; exact k2)]
        simp only [decide_eq_true_eq] at *; omega
      · rw [if_pos k1] at h1
        rw [if_pos (by rw [← k2]; exact k1)]
        simp only [decide_eq_true_eq] at *; omega
      · rw [if_pos k1] at h1
        rw [if_pos k2] at h2
        simp only [decide_eq_true_eq] at h1 h2
        rw [if_pos (by omega)]
        simp only [decide_eq_true_eq]; omega
    · rw [if_pos e2] at h2
      rw [if_pos (by rw [e1]; exact e2), e1]; exact h2
  · rw [if_pos e1] at h1
    by_cases e2 : b.part = c.part
    · rw [if_pos (by rw [← e2]; exact e1), ← e2]; exact h1
    · rw [if_pos e2] at h2
      have h3 := bef_trans h1 h2
      rw [if_pos (by rintro e; rw [e, bef_irrefl] at h3; cases h3)]; exact h3
theorem less_or {a b : Rw} (h : a ≠ b) : lessR a b = true ∨ lessR b a = true := by
  unfold lessR
  by_cases e1 : a.part = b.part
  · rw [if_neg (fun h : a.part ≠ b.part => h e1), if_neg (fun h : b.part ≠ a.part => h e1.symm)]
    by_cases e2 : a.key = b.key
    · rw [if_neg (fun h : a.key ≠ b.key => h e2), if_neg (fun h : b.key ≠ a.key => h e2.symm)]
      have e3 : a.val ≠ b.val := fun e3 => h (by cases a; cases b; simp_all)
      simp only [decide_eq_true_eq]; omega
    · rw [if_pos (show a.key ≠ b.key from e2), if_pos (show b.key ≠ a.key from fun e => e2 e.symm)]
      simp only [decide_eq_true_eq]; omega
  · rw [if_pos (show a.part ≠ b.part from e1), if_pos (show b.part ≠ a.part from fun e => e1 e.symm)]
    exact bef_or e1
theorem less_asym {a b : Rw} (h : lessR a b = true) : lessR b a = false := by
  cases h2 : lessR b a with
  | false => rfl
  | true => have := less_trans h h2; rw [less_irrefl] at this; cases this
/-- No later one comes ahead of an earlier one. -/
def upR (l : List Rw) : Prop := l.Pairwise (fun a b => lessR b a = false)
theorem le_trans' {a b c : Rw} (h1 : lessR b a = false) (h2 : lessR c b = false) : lessR c a = false := by
  cases h : lessR c a with
  | false => rfl
  | true =>
    by_cases hab : a = b
    · subst hab; rw [h] at h2; exact h2
    · rcases less_or hab with h3 | h3
      · have := less_trans h h3; rw [h2] at this; cases this
      · rw [h1] at h3; cases h3
theorem up_unique {l m : List Rw} (hl : upR l) (hm : upR m) (hp : l.Perm m) : l = m :=
  List.Perm.eq_of_pairwise (le := fun a b => lessR b a = false) (fun a b _ _ h1 h2 => by
    by_cases hab : a = b
    · exact hab
    · rcases less_or hab with h3 | h3
      · rw [h3] at h2; cases h2
      · rw [h3] at h1; cases h1) hl hm hp
/-- One row more in a rising list. -/
def insR (x : Rw) : List Rw → List Rw
  | [] => [x]
  | y :: r => if lessR x y = true then x :: y :: r else y :: insR x r
theorem insR_perm (x : Rw) : ∀ l : List Rw, (insR x l).Perm (x :: l)
  | [] => .refl _
  | y :: r => by
    unfold insR
    split
    · exact .refl _
    · exact ((insR_perm x r).cons y).trans (.swap x y r)
theorem insR_up {x : Rw} : ∀ {l : List Rw}, upR l → upR (insR x l)
  | [], _ => by simp [insR, upR]
  | y :: r, h => by
    obtain ⟨h1, h2⟩ := List.pairwise_cons.1 h
    unfold insR
    split
    · rename_i hb
      refine List.pairwise_cons.2 ⟨fun z hz => ?_, h⟩
      rcases List.mem_cons.1 hz with rfl | hz
      · exact less_asym hb
      · exact le_trans' (less_asym hb) (h1 z hz)
    · rename_i hb
      refine List.pairwise_cons.2 ⟨fun z hz => ?_, insR_up h2⟩
      rcases List.mem_cons.1 ((insR_perm x r).mem_iff.1 hz) with rfl | hz
      · simpa using hb
      · exact h1 z hz
theorem insR_at {x : Rw} : ∀ {l : List Rw} {k : Nat}, k ≤ l.length → (∀ j < k, ∀ y, l[j]? = some y → lessR x y = false) → (∀ y, l[k]? = some y → lessR x y = true) → insR x l = l.take k ++ x :: l.drop k
  | [], 0, _, _, _ => rfl
  | [], _ + 1, h, _, _ => by simp at h
  | y :: r, 0, _, _, h2 => by
    unfold insR
    rw [if_pos (h2 y rfl)]; rfl
  | y :: r, k + 1, h, h1, h2 => by
    unfold insR
    rw [if_neg (by rw [h1 0 (by omega) y rfl]; decide), insR_at (k := k) (by simpa using h) (fun j hj z hz => h1 (j + 1) (by omega) z (by simpa using hz)) (fun z hz => h2 z (by simpa using hz))]
    rfl
def sortR (l : List Rw) : List Rw := l.foldl (fun a x => insR x a) []
theorem sort_fold : ∀ (l a : List Rw), upR a → upR (l.foldl (fun a x => insR x a) a) ∧ (l.foldl (fun a x => insR x a) a).Perm (a ++ l)
  | [], a, h => ⟨h, by simp⟩
  | x :: r, a, h => by
    obtain ⟨h1, h2⟩ := sort_fold r (insR x a) (insR_up h)
    refine ⟨h1, h2.trans ?_⟩
    refine ((insR_perm x a).append_right r).trans ?_
    exact (List.perm_middle).symm
theorem sort_up (l : List Rw) : upR (sortR l) := (sort_fold l [] .nil).1
theorem sort_perm (l : List Rw) : (sortR l).Perm l := by simpa [sortR] using (sort_fold l [] .nil).2
theorem sort_of {l m : List Rw} (h : upR m) (hp : m.Perm l) : m = sortR l := up_unique h (sort_up l) (hp.trans (sort_perm l).symm)
theorem sort_len (l : List Rw) : (sortR l).length = l.length := (sort_perm l).length_eq
theorem sort_eq {l m : List Rw} : sortR l = sortR m ↔ l.Perm m := by
  constructor
  · intro h
    have := sort_perm l
    rw [h] at this
    exact this.symm.trans (sort_perm m)
  · intro h
    exact sort_of (sort_up l) ((sort_perm l).trans h)
theorem sort_again (l : List Rw) : sortR (sortR l) = sortR l := (sort_of (sort_up l) (.refl _)).symm
theorem sort_snoc (l : List Rw) (x : Rw) : sortR (l ++ [x]) = insR x (sortR l) := by simp [sortR, List.foldl_append]
def dropR (l : List Rw) (keys : List Int) : List Rw := l.filter fun r => !decide (r.key ∈ keys)
def withinP (lo hi : Int) (r : Rw) : Bool := decide (r.key < lo) || decide (hi < r.key)
def withinR (l : List Rw) (lo hi : Int) : List Rw := l.filter fun r => !withinP lo hi r
theorem drop_again (l : List Rw) (keys : List Int) : dropR (dropR l keys) keys = dropR l keys := by
  unfold dropR
  rw [List.filter_filter]
  simp
theorem within_all {l : List Rw} {hi : Int} (h : ∀ r ∈ l, -9223372036854775808 ≤ r.key ∧ r.key ≤ hi) : withinR l (-9223372036854775808) hi = l := by
  unfold withinR
  refine List.filter_eq_self.2 fun r hr => ?_
  have := h r hr
  simp [withinP]; omega
theorem within_two {l : List Rw} {a : Int} (h : ∀ r ∈ l, -9223372036854775808 ≤ r.key ∧ r.key ≤ 9223372036854775807) : (withinR l (-9223372036854775808) a ++ withinR l (a + 1) 9223372036854775807).Perm l := by
  have e : withinR l (a + 1) 9223372036854775807 = l.filter (fun r => !(!withinP (-9223372036854775808) a r)) := by
    unfold withinR
    refine List.filter_congr fun r hr => ?_
    have := h r hr
    simp only [withinP, Bool.not_not]
    rw [Bool.eq_iff_iff]
    simp
    omega
  rw [e]
  exact List.filter_append_perm _ l
end Go.Proofs.YtpfohfihkmjnaaaGreatDoor
namespace Go.Proofs.YtpfohfihkmjnaaaGreatDoor
open Go.RowKit

abbrev kPart : Str := [112, 97, 114, 116]
abbrev kBucket : Str := [98, 117, 99, 107, 101, 116]
abbrev kTrunc : Str := [116, 114, 117, 110, 99]

/-- What a text cut in two tells: its word, its number; its error's number. -/
def specIn (word d : Str) (is : Bool) (o : Option Int) : Str × Int × Nat :=
  match o with
  | none => ([], 0, 1)
  | some n => if is = true ∧ (word = kBucket ∨ word = kTrunc) ∧ 0 ≤ n ∧ d.length ≤ 9 then if n < 1 ∨ 1000 < n then ([], 0, 2) else (word, n, 0) else ([], 0, 1)
/-- A spec: its word, its number; its error's number. -/
def specOf (s : Str) : Str × Int × Nat :=
  if s = kPart then (kPart, 0, 0) else specIn (Lib.cut s [32]).1 (Lib.cut s [32]).2.1 (Lib.cut s [32]).2.2 (numOf (Lib.cut s [32]).2.1)
/-- The name of a right row's group. -/
def groupIn (word : Str) (n : Int) (r : Rw) : Str :=
  if word = kPart then r.part else if word = kBucket then 98 :: Lib.itoa (r.key % n) else if r.key / n < 0 then 110 :: Lib.itoa (-(r.key / n)) else 116 :: Lib.itoa (r.key / n)
def groupOf (s : Str) (r : Rw) : Str := groupIn (specOf s).1 (specOf s).2.1 r

theorem specIn_right {word d : Str} {is : Bool} {o : Option Int} (h : (specIn word d is o).2.2 = 0) :
    ((specIn word d is o).1 = kBucket ∨ (specIn word d is o).1 = kTrunc) ∧ 1 ≤ (specIn word d is o).2.1 ∧ (specIn word d is o).2.1 ≤ 1000 := by
  unfold specIn at h ⊢
  cases o with
  | none => cases h
  | some n =>
    simp only at h ⊢
    split at h
    · rename_i h1
      rw [if_pos h1]
      split at h
      · cases h
      · rename_i h2
        rw [if_neg h2]
        exact ⟨h1.2.1, by show 1 ≤ n; omega, by show n ≤ 1000; omega⟩
    · cases h
/-- A right spec is 'part', or a word and a number from 1 to 1000. -/
theorem spec_right {s : Str} (h : (specOf s).2.2 = 0) : (specOf s).1 = kPart ∨ (((specOf s).1 = kBucket ∨ (specOf s).1 = kTrunc) ∧ 1 ≤ (specOf s).2.1 ∧ (specOf s).2.1 ≤ 1000) := by
  unfold specOf at h ⊢
  split at h
  · rename_i h1; rw [if_pos h1]; exact .inl rfl
  · rename_i h1; rw [if_neg h1]; exact .inr (specIn_right h)
theorem spec_code (s : Str) : (specOf s).2.2 = 0 ∨ (specOf s).2.2 = 1 ∨ (specOf s).2.2 = 2 := by
  unfold specOf specIn
  split
  · exact .inl rfl
  · split
    · exact .inr (.inl rfl)
    · split
      · split
        · exact .inr (.inr rfl)
        · exact .inl rfl
      · exact .inr (.inl rfl)
/-- A number's text holds no blank. -/
theorem num_blank {s : Str} {n : Int} (h : numOf s = some n) : (32 : UInt8) ∉ s := by
  rw [← numRef_eq] at h
  rw [← ((numRef_iff s n).1 h).2]
  exact not_mem_itoa' (by decide) (by decide)
theorem first_at {c : UInt8} : ∀ {s : Str}, c ∈ s → ∃ p q, s = p ++ c :: q ∧ c ∉ p
  | x :: r, h => by
    by_cases hx : x = c
    · exact ⟨[], r, by rw [hx]; rfl, by simp⟩
    · obtain ⟨p, q, e, hp⟩ := first_at (s := r) (by
        rcases List.mem_cons.1 h with h | h
        · exact absurd h.symm hx
        · exact h)
      exact ⟨x :: p, q, by rw [e]; rfl, by simp only [List.mem_cons, not_or]; exact ⟨fun h => hx h.symm, hp⟩⟩
/-- The document's answer cuts at each blank. -/
theorem spec_cut {s : Str} (h : s ≠ kPart) : specOf s = match cutAt 32 s with
    | [word, d] => specIn word d true (numOf d)
    | _ => ([], 0, 1) := by
  unfold specOf
  rw [if_neg h]
  by_cases hb : (32 : UInt8) ∈ s
  · obtain ⟨p, q, rfl, hp⟩ := first_at hb
    rw [cut_app1 hp, cutAt_app hp]
    by_cases hq : (32 : UInt8) ∈ q
    · obtain ⟨p2, q2, rfl, hp2⟩ := first_at hq
      rw [cutAt_app hp2]
      have hn : numOf (p2 ++ 32 :: q2) = none := by
        cases hh : numOf (p2 ++ 32 :: q2) with
        | none => rfl
        | some n => exact absurd hq (num_blank hh)
      show specIn p (p2 ++ 32 :: q2) true (numOf (p2 ++ 32 :: q2)) = _
      rw [hn]
      have hne := cutAt_ne 32 q2
      cases hc : cutAt 32 q2 with
      | nil => exact absurd hc hne
      | cons x r => rfl
    · rw [cutAt_none hq]
  · rw [cut_none1 hb, cutAt_none hb]
    show specIn s [] false (numOf []) = ([], 0, 1)
    unfold specIn
    split
    · rfl
    · rw [if_neg (by simp)]
end Go.Proofs.YtpfohfihkmjnaaaGreatDoor
