/- The document's answer on lists: RemoveOf: the walk. The document's answer on lists: AddOf: the walk (printed by gen_addof.py). Changes in plain words. Of no program. Two changes, one behind the other: plain. What a snap has, in plain words. Of no program. Laws of what a snap has: plain. gone.Make: the walk. -/
import Derived.Test.YtefoaeamfkbgbaaGreatDoorP16
import Derived.RegionTactic
import Derived.Test.YtefoaeamfkbgbaaGreatDoorP15
import Derived.Test.YtefoaeamfkbgbaaGreatDoorP1
import Derived.Test.YtefoaeamfkbgbaaGreatDoorP7
import Derived.Test.YtefoaeamfkbgbaaGreatDoorP12
import Derived.Test.YtefoaeamfkbgbaaGreatDoorP10
namespace Go.Proofs.YtefoaeamfkbgbaaGreatDoor
open Go.RowKit

theorem listCheck_code {l : List Fl} (h : listCheck l ≠ .nil) : 0 < (listCheck l).code := by
  unfold listCheck at h ⊢
  split
  · decide
  · rename_i h0
    rw [if_neg h0] at h
    exact firstFrom_code h
theorem FilesAt.away {w : World} {v : Value} {l : List Fl} {g : Nat} {x y : Int} {t : TypeId} (h : FilesAt w v l) (hg : w.heap[g]? = some (.cells #[.int .i64 x, .int .i64 y] t (0, 0))) (a b : Value) : FilesAt ((w.setCell ⟨g, 0, none⟩ a).setCell ⟨g, 1, none⟩ b) v l := by
  obtain ⟨a', c, b', o, hv, ha, hc, hm, hx⟩ := h
  refine ⟨a', c, b', o, hv, ha, hc, hm, fun k z hk j u hu => ?_⟩
  have h0 := hx k z hk 0 _ rfl
  have h1 := hx k z hk j u hu
  have hne : b' ≠ g := by
    rintro rfl
    simp only [World.cell?, hg] at h0
    generalize o + k * 6 + 0 = i at h0
    match i with
    | 0 => simp at h0
    | 1 => simp at h0
    | n + 2 => simp at h0
  rw [World.cell?_setCell_other _ _ _ _ (fun e => hne (by have h := congrArg Addr.block e; first | exact h | exact h.symm)), World.cell?_setCell_other _ _ _ _ (fun e => hne (by have h := congrArg Addr.block e; first | exact h | exact h.symm))]
  exact h1
end Go.Proofs.YtefoaeamfkbgbaaGreatDoor
namespace Go.Proofs.YtefoaeamfkbgbaaGreatDoor
open Go.RowKit

theorem keyP_inj {p q : Str} (hp : pathF p ≠ none) (hq : pathF q ≠ none) (h : keyP p = keyP q) : p = q := by
  cases h1 : pathF p with
  | none => exact absurd h1 hp
  | some a =>
    cases h2 : pathF q with
    | none => exact absurd h2 hq
    | some b =>
      obtain ⟨k, n⟩ := a
      obtain ⟨k', n'⟩ := b
      obtain ⟨e1, k1, n1, m1⟩ := pathF_form h1
      obtain ⟨e2, k2, n2, m2⟩ := pathF_form h2
      have hg : ¬ kGone = kData := by decide
      unfold keyP at h
      rw [h1, h2] at h
      simp only at h
      rcases k1 with rfl | rfl <;> rcases k2 with rfl | rfl
      · rw [if_pos rfl, if_pos rfl] at h
        obtain rfl : n = n' := by omega
        rw [e1, e2]
      · rw [if_pos rfl, if_neg hg] at h; omega
      · rw [if_neg hg, if_pos rfl] at h; omega
      · rw [if_neg hg, if_neg hg] at h
        obtain rfl : n = n' := by omega
        rw [e1, e2]
theorem checkF_path {f : Fl} (h : checkF f = 0) : pathF f.path ≠ none := by
  obtain ⟨k, n, hp, -, -⟩ := checkF_zero h
  rw [hp]; exact fun e => by cases e
theorem there_find {l : List Fl} {f : Fl} (hR : RightL l) (hf : checkF f = 0) : thereF l f ↔ 0 ≤ findV l f.path := by
  rw [find_mem]
  constructor
  · rintro ⟨g, hg, hk⟩
    exact ⟨g, hg, keyP_inj (checkF_path (hR.ok g hg)) (checkF_path hf) hk⟩
  · rintro ⟨g, hg, hp⟩
    exact ⟨g, hg, by rw [hp]⟩
end Go.Proofs.YtefoaeamfkbgbaaGreatDoor
namespace Go.Proofs.YtefoaeamfkbgbaaGreatDoor
open Go.RowKit

/-- A change. -/
structure Tx where
  base : Sn
  adds : List Fl
  removes : List Str

def addTE (t : Tx) (f : Fl) : Nat := if checkF { f with seq := 1 } ≠ 0 then checkF { f with seq := 1 } else if 0 ≤ findV t.adds f.path then 7 else 0
def addT (t : Tx) (f : Fl) : Tx := if addTE t f = 0 then { t with adds := t.adds ++ [{ f with seq := 1 }] } else t
def remTE (t : Tx) (p : Str) : Nat := if findV t.base.files p < 0 then 6 else if p ∈ t.removes then 7 else 0
def remT (t : Tx) (p : Str) : Tx := if remTE t p = 0 then { t with removes := t.removes ++ [p] } else t
def goneT (t : Tx) (now : List Fl) : Bool := t.removes.any fun s => decide (findV now s < 0)
def thereT (t : Tx) (now : List Fl) : Bool := t.adds.any fun f => decide (0 ≤ findV now f.path)
def delT (t : Tx) : Bool := t.adds.any fun f => f.part == [45]
def opT (t : Tx) : Str := if t.removes ≠ [] then kRewrite else if delT t = true then kDelete else kAppend
def seqT (t : Tx) (op : Str) (seq : Int) (f : Fl) : Fl := { f with seq := if op = kRewrite ∧ f.part ≠ [45] then t.base.seq else seq }
def keptT (t : Tx) (now : List Fl) : List Fl := now.filter fun f => !decide (f.path ∈ t.removes)
def newT (t : Tx) (op : Str) (seq : Int) : List Fl := t.adds.map (seqT t op seq)
def placeAll (xs l : List Fl) : List Fl := xs.foldl (fun l x => placeF x l) l
def filesT (t : Tx) (now : List Fl) (op : Str) (seq : Int) : List Fl := placeAll (newT t op seq) (keptT t now)
def snapT (t : Tx) (now : Sn) (id day index : Int) : Sn := ⟨id, now.id, now.seq + 1, day, index, opT t, filesT t now.files (opT t) (now.seq + 1)⟩
def commitE (t : Tx) (now : Sn) (id day index : Int) : Er :=
  if snapCheck now ≠ .nil then snapCheck now else if goneT t now.files = true then .bare 11 else if thereT t now.files = true then .bare 7 else (snapCheck (snapT t now id day index)).noPlace
def commitS (t : Tx) (now : Sn) (id day index : Int) : Sn := if commitE t now id day index = .nil then snapT t now id day index else zeroSn

theorem findV_neg {l : List Fl} {p : Str} : findV l p < 0 ↔ ∀ f ∈ l, f.path ≠ p := by
  unfold findV idxVal
  cases h : l.findIdx? (fun f => f.path == p) with
  | none =>
    rw [List.findIdx?_eq_none_iff] at h
    simp only [beq_eq_false_iff_ne] at h
    exact ⟨fun _ => h, fun _ => by decide⟩
  | some i =>
    obtain ⟨h1, h2, -⟩ := List.findIdx?_eq_some_iff_getElem.1 h
    constructor
    · intro h3; simp only at h3; omega
    · intro h3; exact absurd (by simpa using h2) (h3 l[i] (List.getElem_mem h1))
theorem findV_pos {l : List Fl} {p : Str} : 0 ≤ findV l p ↔ ∃ f ∈ l, f.path = p := by
  constructor
  · intro h
    apply Classical.byContradiction
    intro hn
    have : findV l p < 0 := findV_neg.2 fun f hf e => hn ⟨f, hf, e⟩
    omega
  · rintro ⟨f, hf, e⟩
    apply Classical.byContradiction
    intro hn
    exact findV_neg.1 (by omega) f hf e

theorem placeF_perm (f : Fl) : ∀ l : List Fl, (placeF f l).Perm (f :: l)
  | [] => .refl _
  | g :: r => by
    unfold placeF
    split
    · exact .refl _
    · exact ((placeF_perm f r).cons g).trans (List.Perm.swap f g r)
theorem mem_placeF {f g : Fl} {l : List Fl} : g ∈ placeF f l ↔ g = f ∨ g ∈ l := by rw [(placeF_perm f l).mem_iff]; simp
theorem placeF_len (f : Fl) (l : List Fl) : (placeF f l).length = l.length + 1 := by rw [(placeF_perm f l).length_eq]; simp
abbrev UpF (l : List Fl) : Prop := l.Pairwise (fun a b => keyP a.path < keyP b.path)
theorem placeF_up {f : Fl} : ∀ {l : List Fl}, UpF l → (∀ g ∈ l, keyP g.path ≠ keyP f.path) → UpF (placeF f l)
  | [], _, _ => by simp [placeF, UpF]
  | g :: r, h, hn => by
    obtain ⟨h1, h2⟩ := List.pairwise_cons.1 h
    unfold placeF
    have hne := hn g (by simp)
    split
    · rename_i hle
      refine List.pairwise_cons.2 ⟨fun x hx => ?_, h⟩
      rcases List.mem_cons.1 hx with rfl | hx
      · omega
      · have := h1 x hx; omega
    · rename_i hle
      refine List.pairwise_cons.2 ⟨fun x hx => ?_, placeF_up h2 fun x hx => hn x (by simp [hx])⟩
      rcases mem_placeF.1 hx with rfl | hx
      · omega
      · exact h1 x hx
theorem placeAll_cons (x : Fl) (xs l : List Fl) : placeAll (x :: xs) l = placeAll xs (placeF x l) := rfl
theorem placeAll_snoc (x : Fl) (xs l : List Fl) : placeAll (xs ++ [x]) l = placeF x (placeAll xs l) := by unfold placeAll; rw [List.foldl_append]; rfl
theorem placeAll_perm : ∀ (xs l : List Fl), (placeAll xs l).Perm (l ++ xs)
  | [], l => by rw [List.append_nil]; exact .refl _
  | x :: xs, l => by
    rw [placeAll_cons]
    refine (placeAll_perm xs _).trans (((placeF_perm x l).append_right xs).trans ?_)
    exact (List.perm_middle (a := x) (l₁ := l) (l₂ := xs)).symm
theorem placeAll_up : ∀ {xs l : List Fl}, UpF l → xs.Pairwise (fun a b => keyP a.path ≠ keyP b.path) → (∀ x ∈ xs, ∀ g ∈ l, keyP g.path ≠ keyP x.path) → UpF (placeAll xs l)
  | [], _, h, _, _ => h
  | x :: xs, l, h, hp, hn => by
    obtain ⟨h1, h2⟩ := List.pairwise_cons.1 hp
    rw [placeAll_cons]
    refine placeAll_up (placeF_up h (hn x (by simp))) h2 fun y hy g hg => ?_
    rcases mem_placeF.1 hg with rfl | hg
    · exact h1 y hy
    · exact hn y (by simp [hy]) g hg
/-- What is in order, and rising, is one list. -/
theorem upF_unique : ∀ {m n : List Fl}, m.Perm n → m.Pairwise (fun a b => keyP a.path ≤ keyP b.path) → UpF n → m = n
  | [], n, hp, _, _ => hp.nil_eq.symm ▸ rfl
  | a :: m, [], hp, _, _ => absurd hp.length_eq (by simp)
  | a :: m, b :: n, hp, hm, hn => by
    obtain ⟨h1, h2⟩ := List.pairwise_cons.1 hm
    obtain ⟨h3, h4⟩ := List.pairwise_cons.1 hn
    have hb : b ∈ a :: m := hp.mem_iff.2 (by simp)
    have ha : a ∈ b :: n := hp.mem_iff.1 (by simp)
    have hab : a = b := by
      rcases List.mem_cons.1 ha with h | h
      · exact h
      · have := h3 a h
        rcases List.mem_cons.1 hb with h' | h'
        · exact h'.symm
        · have := h1 b h'; omega
    subst hab
    rw [upF_unique (List.Perm.cons_inv hp) h2 h4]

/-- A change that was begun, and its files and names. -/
structure TxOk (t : Tx) : Prop where
  base : RightSn t.base
  ok : ∀ f ∈ t.adds, checkF f = 0
  dif : t.adds.Pairwise (fun a b => a.path ≠ b.path)
  rem : ∀ p ∈ t.removes, 0 ≤ findV t.base.files p
  nod : t.removes.Nodup
def beginT (s : Sn) : Tx := ⟨s, [], []⟩
theorem beginT_ok {s : Sn} (h : RightSn s) : TxOk (beginT s) :=
  ⟨h, fun _ h => (by cases h), List.Pairwise.nil, fun _ h => (by cases h), List.nodup_nil⟩
theorem addTE_zero {t : Tx} {f : Fl} (h : addTE t f = 0) : checkF { f with seq := 1 } = 0 ∧ ∀ g ∈ t.adds, g.path ≠ f.path := by
  unfold addTE at h
  split at h
  · rename_i h1; exact absurd h h1
  · rename_i h1
    split at h
    · cases h
    · rename_i h2
      exact ⟨Decidable.not_not.1 h1, findV_neg.1 (by omega)⟩
theorem addT_ok {t : Tx} (h : TxOk t) (f : Fl) : TxOk (addT t f) := by
  unfold addT
  split
  · rename_i h0
    obtain ⟨h1, h2⟩ := addTE_zero h0
    refine ⟨h.base, fun g hg => ?_, ?_, h.rem, h.nod⟩
    · rcases List.mem_append.1 hg with hg | hg
      · exact h.ok g hg
      · rw [List.mem_singleton.1 hg]; exact h1
    · refine List.pairwise_append.2 ⟨h.dif, by simp, fun a ha b hb => ?_⟩
      rw [List.mem_singleton.1 hb]
      exact h2 a ha
  · exact h
theorem remTE_zero {t : Tx} {p : Str} (h : remTE t p = 0) : 0 ≤ findV t.base.files p ∧ p ∉ t.removes := by
  unfold remTE at h
  split at h
  · cases h
  · rename_i h1
    split at h
    · cases h
    · rename_i h2
      exact ⟨by omega, h2⟩
theorem remT_ok {t : Tx} (h : TxOk t) (p : Str) : TxOk (remT t p) := by
  unfold remT
  split
  · rename_i h0
    obtain ⟨h1, h2⟩ := remTE_zero h0
    refine ⟨h.base, h.ok, h.dif, fun q hq => ?_, ?_⟩
    · rcases List.mem_append.1 hq with hq | hq
      · exact h.rem q hq
      · rw [List.mem_singleton.1 hq]; exact h1
    · exact List.nodup_append.2 ⟨h.nod, by simp, fun a ha b hb e => by
        rw [List.mem_singleton.1 hb] at e
        exact h2 (e ▸ ha)⟩
  · exact h
theorem addT_base (t : Tx) (f : Fl) : (addT t f).base = t.base := by unfold addT; split <;> rfl
theorem remT_base (t : Tx) (p : Str) : (remT t p).base = t.base := by unfold remT; split <;> rfl

theorem thereT_false {t : Tx} {now : List Fl} (h : thereT t now = false) : ∀ f ∈ t.adds, ∀ g ∈ now, g.path ≠ f.path := fun f hf => by
  have := List.any_eq_false.1 h f hf
  simp only [decide_eq_true_eq] at this
  exact findV_neg.1 (by omega)
theorem goneT_false {t : Tx} {now : List Fl} (h : goneT t now = false) : ∀ p ∈ t.removes, ∃ g ∈ now, g.path = p := fun p hp => by
  have := List.any_eq_false.1 h p hp
  simp only [decide_eq_true_eq] at this
  exact findV_pos.1 (by omega)
theorem newT_paths (t : Tx) (op : Str) (seq : Int) : (newT t op seq).map (·.path) = t.adds.map (·.path) := by
  unfold newT; rw [List.map_map]; rfl
theorem keptT_up {t : Tx} {now : List Fl} (h : RightL now) : UpF (keptT t now) := h.ris.filter _
theorem newT_dif {t : Tx} (h : TxOk t) (op : Str) (seq : Int) : (newT t op seq).Pairwise (fun a b => keyP a.path ≠ keyP b.path) := by
  unfold newT
  rw [List.pairwise_map]
  refine h.dif.imp_of_mem fun {a b} ha hb hne e => hne ?_
  exact keyP_inj (checkF_path (h.ok a ha)) (checkF_path (h.ok b hb)) e
theorem newT_off {t : Tx} {now : List Fl} (h : TxOk t) (hr : RightL now) (hn : thereT t now = false) (op : Str) (seq : Int) : ∀ x ∈ newT t op seq, ∀ g ∈ keptT t now, keyP g.path ≠ keyP x.path := by
  intro x hx g hg e
  obtain ⟨f, hf, rfl⟩ := List.mem_map.1 hx
  have hg' := (List.mem_filter.1 hg).1
  exact thereT_false hn f hf g hg' (keyP_inj (checkF_path (hr.ok g hg')) (checkF_path (h.ok f hf)) e)
theorem filesT_up {t : Tx} {now : List Fl} (h : TxOk t) (hr : RightL now) (hn : thereT t now = false) (op : Str) (seq : Int) : UpF (filesT t now op seq) :=
  placeAll_up (keptT_up hr) (newT_dif h op seq) (newT_off h hr hn op seq)
theorem filesT_perm (t : Tx) (now : List Fl) (op : Str) (seq : Int) : (filesT t now op seq).Perm (keptT t now ++ newT t op seq) := placeAll_perm _ _
/-- What the program sorts is what the document places. -/
theorem filesT_sorted {t : Tx} {now m : List Fl} (h : TxOk t) (hr : RightL now) (hn : thereT t now = false) (op : Str) (seq : Int) (hp : m.Perm (keptT t now ++ newT t op seq)) (hm : m.Pairwise (fun a b => keyP a.path ≤ keyP b.path)) : m = filesT t now op seq :=
  upF_unique (hp.trans (filesT_perm t now op seq).symm) hm (filesT_up h hr hn op seq)
/-- What is dropped one by one. -/
theorem drops_kept : ∀ (ps : List Str) (l : List Fl), ps.foldl dropF l = l.filter (fun f => !decide (f.path ∈ ps))
  | [], l => (List.filter_eq_self.2 fun _ _ => by simp).symm
  | p :: ps, l => by
    rw [List.foldl_cons, drops_kept ps, dropF, List.filter_filter]
    refine List.filter_congr fun f _ => ?_
    by_cases h : f.path = p <;> simp [h]
end Go.Proofs.YtefoaeamfkbgbaaGreatDoor
namespace Go.Proofs.YtefoaeamfkbgbaaGreatDoor
open Go.RowKit

theorem noPlace_eq_nil {er : Er} : er.noPlace = .nil ↔ er = .nil := by cases er <;> simp [Er.noPlace]
/-- A commit that was done. -/
theorem commit_nil {t : Tx} {now : Sn} {id day index : Int} (h : commitE t now id day index = .nil) :
    RightSn now ∧ goneT t now.files = false ∧ thereT t now.files = false ∧ RightSn (snapT t now id day index) ∧ commitS t now id day index = snapT t now id day index := by
  have hS : commitS t now id day index = snapT t now id day index := if_pos h
  unfold commitE at h
  split at h
  · rename_i h1; exact absurd h h1
  rename_i h1
  split at h
  · cases h
  rename_i h2
  split at h
  · cases h
  rename_i h3
  exact ⟨(snap_iff _).1 (Decidable.not_not.1 h1), by simpa using h2, by simpa using h3, (snap_iff _).1 (noPlace_eq_nil.1 h), hS⟩

theorem UpF.paths {l : List Fl} (h : UpF l) : (l.map (·.path)).Nodup := by
  unfold List.Nodup
  rw [List.pairwise_map]
  exact h.imp fun hlt e => by rw [e] at hlt; omega
theorem path_one {l : List Fl} (h : UpF l) {f g : Fl} (hf : f ∈ l) (hg : g ∈ l) (e : f.path = g.path) : f = g := by
  obtain ⟨i, hi, rfl⟩ := List.getElem_of_mem hf
  obtain ⟨j, hj, rfl⟩ := List.getElem_of_mem hg
  rcases Nat.lt_trichotomy i j with h1 | rfl | h1
  · have := List.pairwise_iff_getElem.1 h i j hi hj h1
    rw [e] at this; omega
  · rfl
  · have := List.pairwise_iff_getElem.1 h j i hj hi h1
    rw [e] at this; omega
/-- What a name finds in a rising list. -/
theorem find_one {l : List Fl} (h : UpF l) {f : Fl} (hf : f ∈ l) : ∃ k : Nat, findV l f.path = k ∧ l[k]? = some f := by
  have h0 : 0 ≤ findV l f.path := findV_pos.2 ⟨f, hf, rfl⟩
  unfold findV idxVal at *
  cases hi : l.findIdx? (fun g => g.path == f.path) with
  | none => rw [hi] at h0; simp at h0
  | some i =>
    obtain ⟨h1, h2, -⟩ := List.findIdx?_eq_some_iff_getElem.1 hi
    refine ⟨i, rfl, ?_⟩
    rw [List.getElem?_eq_getElem h1, path_one h (List.getElem_mem h1) hf (by simpa using h2)]
theorem kept_len {l : List Fl} {ps : List Str} (h : UpF l) (hn : ps.Nodup) (hs : ∀ p ∈ ps, ∃ g ∈ l, g.path = p) : (l.filter fun f => !decide (f.path ∈ ps)).length + ps.length = l.length := by
  have h1 : ((l.filter fun f => decide (f.path ∈ ps)).map (·.path)).Perm ps := by
    refine (List.perm_ext_iff_of_nodup ?_ hn).2 fun p => ?_
    · exact ((UpF.paths h).sublist ((List.filter_sublist (l := l)).map _))
    · simp only [List.mem_map, List.mem_filter, decide_eq_true_eq]
      constructor
      · rintro ⟨f, ⟨-, h2⟩, rfl⟩; exact h2
      · intro hp
        obtain ⟨g, hg, rfl⟩ := hs p hp
        exact ⟨g, ⟨hg, hp⟩, rfl⟩
  have h2 := h1.length_eq
  rw [List.length_map] at h2
  have h3 := (List.filter_append_perm (fun f : Fl => decide (f.path ∈ ps)) l).length_eq
  rw [List.length_append] at h3
  omega

/-- A path added by a change, or taken by it. -/
def addedT (t : Tx) : List Str := t.adds.map (·.path)
theorem mem_filesT {t : Tx} {now : List Fl} {op : Str} {seq : Int} {g : Fl} : g ∈ filesT t now op seq ↔ (g ∈ now ∧ g.path ∉ t.removes) ∨ g ∈ newT t op seq := by
  rw [(filesT_perm t now op seq).mem_iff, List.mem_append]
  unfold keptT
  simp [List.mem_filter]
theorem mem_newT_path {t : Tx} {op : Str} {seq : Int} {g : Fl} (h : g ∈ newT t op seq) : g.path ∈ addedT t := by
  have : g.path ∈ (newT t op seq).map (·.path) := List.mem_map_of_mem h
  rwa [newT_paths] at this
theorem mem_addedT {t : Tx} {op : Str} {seq : Int} {p : Str} (h : p ∈ addedT t) : ∃ g ∈ newT t op seq, g.path = p := by
  have : p ∈ (newT t op seq).map (·.path) := by rw [newT_paths]; exact h
  obtain ⟨g, hg, e⟩ := List.mem_map.1 this
  exact ⟨g, hg, e⟩
theorem filesT_len {t : Tx} {now : List Fl} {op : Str} {seq : Int} (h : TxOk t) (hr : RightL now) (hg : goneT t now = false) : (filesT t now op seq).length + t.removes.length = now.length + t.adds.length := by
  have h1 := (filesT_perm t now op seq).length_eq
  have h2 := kept_len (ps := t.removes) hr.ris h.nod (goneT_false hg)
  rw [List.length_append] at h1
  unfold keptT newT at h1
  rw [List.length_map] at h1
  omega

/-- KUNG and ROBINSON: two changes of one base, one behind the other. -/
structure TwoDone (base s : Sn) (t u : Tx) (id : Int) : Prop where
  parent : s.parent = id
  seq : s.seq = base.seq + 2
  check : snapCheck s = .nil
  kept : ∀ f ∈ base.files, ¬ (f.path ∈ t.removes ++ u.removes ∧ f.path ∈ addedT t ++ addedT u) → (f.path ∈ t.removes ++ u.removes ↔ findV s.files f.path < 0) ∧ (∀ k : Nat, findV s.files f.path = k → s.files[k]? = some f)
  added : ∀ p ∈ addedT t ++ addedT u, 0 ≤ findV s.files p
  len : s.files.length + (t.removes ++ u.removes).length = base.files.length + (addedT t ++ addedT u).length
theorem two_done {base : Sn} {t u : Tx} {id id2 day index : Int} (ht : TxOk t) (hu : TxOk u) (hub : u.base = base) (h1 : commitE t base id day index = .nil) (h2 : commitE u (commitS t base id day index) id2 day index = .nil) :
    TwoDone base (commitS u (commitS t base id day index) id2 day index) t u id := by
  obtain ⟨r1, g1, e1, q1, s1⟩ := commit_nil h1
  rw [s1] at h2 ⊢
  obtain ⟨r2, g2, e2, q2, s2⟩ := commit_nil h2
  rw [s2]
  have hF1 : (snapT t base id day index).files = filesT t base.files (opT t) (base.seq + 1) := rfl
  have hF2 : (snapT u (snapT t base id day index) id2 day index).files = filesT u (filesT t base.files (opT t) (base.seq + 1)) (opT u) (base.seq + 1 + 1) := rfl
  rw [hF1] at g2 e2
  have hup := filesT_up hu (hF1 ▸ r2.lst) e2 (opT u) (base.seq + 1 + 1)
  refine ⟨rfl, by show base.seq + 1 + 1 = _; omega, (snap_iff _).2 q2, fun f hf hna => ?_, fun p hp => ?_, ?_⟩
  · rw [hF2]
    by_cases hg : f.path ∈ t.removes ++ u.removes
    · have hnp : f.path ∉ addedT t ++ addedT u := fun h => hna ⟨hg, h⟩
      have hneg : findV (filesT u (filesT t base.files (opT t) (base.seq + 1)) (opT u) (base.seq + 1 + 1)) f.path < 0 := by
        refine findV_neg.2 fun g hgm e => ?_
        rcases mem_filesT.1 hgm with ⟨h3, h4⟩ | h3
        · rcases mem_filesT.1 h3 with ⟨h5, h6⟩ | h5
          · rw [e] at h4 h6
            rcases List.mem_append.1 hg with h | h
            · exact h6 h
            · exact h4 h
          · exact hnp (List.mem_append_left _ (e ▸ mem_newT_path h5))
        · exact hnp (List.mem_append_right _ (e ▸ mem_newT_path h3))
      exact ⟨⟨fun _ => hneg, fun _ => hg⟩, fun k hk => by omega⟩
    · have hmem : f ∈ filesT u (filesT t base.files (opT t) (base.seq + 1)) (opT u) (base.seq + 1 + 1) :=
        mem_filesT.2 (.inl ⟨mem_filesT.2 (.inl ⟨hf, fun h => hg (List.mem_append_left _ h)⟩), fun h => hg (List.mem_append_right _ h)⟩)
      obtain ⟨k, hk, hk2⟩ := find_one hup hmem
      refine ⟨⟨fun h => absurd h hg, fun h => by omega⟩, fun j hj => ?_⟩
      obtain rfl : j = k := by omega
      exact hk2
  · rw [hF2]
    rcases List.mem_append.1 hp with hp | hp
    · obtain ⟨g, hg, rfl⟩ := mem_addedT (op := opT t) (seq := base.seq + 1) hp
      have hg1 : g ∈ filesT t base.files (opT t) (base.seq + 1) := mem_filesT.2 (.inr hg)
      refine findV_pos.2 ⟨g, mem_filesT.2 (.inl ⟨hg1, fun hr => ?_⟩), rfl⟩
      obtain ⟨b, hb, e⟩ := findV_pos.1 (hub ▸ hu.rem _ hr)
      obtain ⟨f, hf, rfl⟩ := List.mem_map.1 hg
      exact thereT_false e1 f hf b hb e
    · obtain ⟨g, hg, rfl⟩ := mem_addedT (op := opT u) (seq := base.seq + 1 + 1) hp
      exact findV_pos.2 ⟨g, mem_filesT.2 (.inr hg), rfl⟩
  · rw [hF2]
    have l1 := filesT_len (op := opT t) (seq := base.seq + 1) ht r1.lst g1
    have l2 := filesT_len (op := opT u) (seq := base.seq + 1 + 1) hu (hF1 ▸ r2.lst) g2
    unfold addedT
    rw [List.length_append, List.length_append, List.length_map, List.length_map]
    omega
end Go.Proofs.YtefoaeamfkbgbaaGreatDoor
namespace Go.Proofs.YtefoaeamfkbgbaaGreatDoor
open Go.RowKit

/-- A name's text among objects. -/
def textO (os : List Ob) (p : Str) : Str := ((getO os p).map (·.text)).getD []
/-- A file's error, by its number. -/
def fileE (os : List Ob) (f : Fl) : Nat :=
  if (getO os f.path).isNone then 6
  else if (ofText f.path f.part (textO os f.path) f.seq).2 ≠ 0 then (ofText f.path f.part (textO os f.path) f.seq).2
  else if (ofText f.path f.part (textO os f.path) f.seq).1 ≠ f then 3 else 0
def isG (f : Fl) : Bool := f.part == [45]
def rowsO (os : List Ob) (f : Fl) : List Rw := if isG f then [] else dataL (textO os f.path)
def keysO (os : List Ob) (f : Fl) : List Int := if isG f then goneL (textO os f.path) else []
def scanF (os : List Ob) (lo hi : Int) (files : List Fl) (i : Nat) : Nat :=
  match files[i]? with
  | none => 0
  | some f => if pruneP lo hi f then 0 else fileE os f
def rowsE (os : List Ob) (s : Sn) (lo hi : Int) : Er := if snapCheck s ≠ .nil then snapCheck s else firstErr (scanF os lo hi s.files) s.files.length
/-- Is a key of a file of that Seq gone? -/
def killed (os : List Ob) (l : List Fl) (q k : Int) : Bool := l.any fun g => decide (q < g.seq) && decide (k ∈ keysO os g)
def leftO (os : List Ob) (l : List Fl) (lo hi : Int) (f : Fl) : List Rw := (withinR (rowsO os f) lo hi).filter fun x => !killed os l f.seq x.key
def allO (os : List Ob) (l : List Fl) (lo hi : Int) : List Rw := l.flatMap (leftO os l lo hi)
def rowsL (os : List Ob) (s : Sn) (lo hi : Int) : List Rw := if rowsE os s lo hi = .nil then sortR (allO os (pruneL s.files lo hi) lo hi) else []

theorem ofText_inv {p pt s : Str} {sq : Int} (h : (ofText p pt s sq).2 = 0) : pathF p ≠ none ∧ (keysE (kindF p) s).code = 0 ∧ checkF (ofFile p pt s sq) = 0 ∧ (ofText p pt s sq).1 = ofFile p pt s sq := by
  unfold ofText at *
  split at h
  · cases h
  rename_i h1
  rw [if_neg h1] at *
  split at h
  · rename_i h2; exact absurd h h2
  rename_i h2
  rw [if_neg h2] at *
  split at h
  · rename_i h3; exact absurd h h3
  rename_i h3
  rw [if_neg h3]
  exact ⟨h1, Decidable.not_not.1 h2, Decidable.not_not.1 h3, rfl⟩
theorem fileE_zero {os : List Ob} {f : Fl} (h : fileE os f = 0) : (∃ o, getO os f.path = some o) ∧ ofText f.path f.part (textO os f.path) f.seq = (f, 0) := by
  unfold fileE at h
  split at h
  · cases h
  rename_i h1
  split at h
  · rename_i h2; exact absurd h h2
  rename_i h2
  split at h
  · cases h
  rename_i h3
  refine ⟨?_, Prod.ext (Decidable.not_not.1 h3) (Decidable.not_not.1 h2)⟩
  cases hg : getO os f.path with
  | none => rw [hg] at h1; simp at h1
  | some o => exact ⟨o, rfl⟩
theorem fileE_of {os : List Ob} {f : Fl} {o : Ob} (h : getO os f.path = some o) (h2 : ofText f.path f.part o.text f.seq = (f, 0)) : fileE os f = 0 := by
  have ht : textO os f.path = o.text := by unfold textO; rw [h]; rfl
  unfold fileE
  rw [ht, h2, h]
  simp
theorem isG_kind {f : Fl} (h : checkF f = 0) : (isG f = true ∧ kindF f.path = kGone) ∨ (isG f = false ∧ kindF f.path = kData) := by
  obtain ⟨k, n, hp, hpt, -⟩ := checkF_zero h
  have hk : kindF f.path = k := by unfold kindF; rw [hp]; rfl
  rw [hk]
  rcases (pathF_some hp).1 with rfl | rfl
  · refine .inr ⟨?_, rfl⟩
    unfold isG
    rw [beq_eq_false_iff_ne]
    intro e
    rw [e] at hpt
    exact absurd hpt (by decide)
  · refine .inl ⟨?_, rfl⟩
    unfold partOk at hpt
    rw [if_pos rfl] at hpt
    exact hpt
/-- A file that can be read: what is known of it is so. -/
theorem read_known {os : List Ob} {f : Fl} (h : fileE os f = 0) :
    checkF f = 0 ∧ (isG f = true → goneE (textO os f.path) = .nil ∧ keysO os f ≠ [] ∧ endsI (keysO os f) = (f.lo, f.hi)) ∧ (isG f = false → dataE (textO os f.path) = .nil ∧ keysR (rowsO os f) ≠ [] ∧ endsI (keysR (rowsO os f)) = (f.lo, f.hi)) := by
  obtain ⟨-, h1⟩ := fileE_zero h
  obtain ⟨hp, hk, hc, he⟩ := ofText_inv (by rw [h1])
  rw [h1] at he
  have he' : f = ofFile f.path f.part (textO os f.path) f.seq := he
  rw [← he'] at hc
  have hn : (f.n : Int) = ((keysL (kindF f.path) (textO os f.path)).length : Int) := congrArg Fl.n he'
  have hlo : f.lo = (endsI (keysL (kindF f.path) (textO os f.path))).1 := congrArg Fl.lo he'
  have hhi : f.hi = (endsI (keysL (kindF f.path) (textO os f.path))).2 := congrArg Fl.hi he'
  obtain ⟨k, n, -, -, hb⟩ := checkF_zero hc
  have hn1 : 1 ≤ f.n := by unfold boundF at hb; omega
  have hne : keysL (kindF f.path) (textO os f.path) ≠ [] := by intro e; rw [e] at hn; simp at hn; omega
  have hends : endsI (keysL (kindF f.path) (textO os f.path)) = (f.lo, f.hi) := by rw [hlo, hhi]
  refine ⟨hc, fun hg => ?_, fun hg => ?_⟩
  · rcases isG_kind hc with ⟨-, hkd⟩ | ⟨h', -⟩
    · rw [hkd] at hk hne hends
      have e1 : keysL kGone (textO os f.path) = keysO os f := by unfold keysL keysO; rw [if_pos rfl, if_pos hg]
      rw [e1] at hne hends
      refine ⟨?_, hne, hends⟩
      unfold keysE at hk
      rw [if_pos rfl] at hk
      unfold goneL at e1
      apply Classical.byContradiction
      intro hbad
      unfold keysO at hne
      rw [if_pos hg] at hne
      exact hne (if_neg hbad)
    · rw [hg] at h'; cases h'
  · rcases isG_kind hc with ⟨h', -⟩ | ⟨-, hkd⟩
    · rw [hg] at h'; cases h'
    · rw [hkd] at hk hne hends
      have e1 : keysL kData (textO os f.path) = keysR (rowsO os f) := by unfold keysL rowsO; rw [if_neg (by decide), if_neg (by rw [hg]; decide)]
      rw [e1] at hne hends
      refine ⟨?_, hne, hends⟩
      apply Classical.byContradiction
      intro hbad
      unfold rowsO at hne
      rw [if_neg (by rw [hg]; decide)] at hne
      exact hne (by rw [show dataL (textO os f.path) = [] from if_neg hbad]; rfl)
theorem rowsO_range {os : List Ob} {f : Fl} (h : fileE os f = 0) : ∀ r ∈ rowsO os f, f.lo ≤ r.key ∧ r.key ≤ f.hi := by
  intro r hr
  obtain ⟨-, -, h2⟩ := read_known h
  have hg : isG f = false := by
    cases hg : isG f with
    | false => rfl
    | true => unfold rowsO at hr; rw [if_pos hg] at hr; cases hr
  obtain ⟨-, hne, he⟩ := h2 hg
  obtain ⟨-, -, h3⟩ := ends_mem hne
  have := h3 r.key (List.mem_map_of_mem hr)
  rw [he] at this
  exact this
theorem keysO_range {os : List Ob} {f : Fl} (h : fileE os f = 0) : ∀ k ∈ keysO os f, f.lo ≤ k ∧ k ≤ f.hi := by
  intro k hk
  obtain ⟨-, h1, -⟩ := read_known h
  have hg : isG f = true := by
    cases hg : isG f with
    | true => rfl
    | false => unfold keysO at hk; rw [if_neg (by rw [hg]; decide)] at hk; cases hk
  obtain ⟨-, hne, he⟩ := h1 hg
  obtain ⟨-, -, h3⟩ := ends_mem hne
  have := h3 k hk
  rw [he] at this
  exact this
theorem check_near {f : Fl} (h : checkF f = 0) : (-1073741824 ≤ f.lo ∧ f.lo ≤ f.hi ∧ f.hi ≤ 1073741824) ∧ 1 ≤ f.seq ∧ f.seq ≤ 1073741824 ∧ 1 ≤ f.n ∧ f.n ≤ 40 := by
  obtain ⟨k, n, -, -, hb⟩ := checkF_zero h
  unfold boundF farN at hb
  omega

/-- The first file that cannot be read, where the pruned ones are left out. -/
theorem scan_hit {os : List Ob} {files : List Fl} {lo hi : Int} {k : Nat} {f : Fl} (hu : UpF files) (hk : (pruneL files lo hi)[k]? = some f) (hlow : ∀ j < k, ∀ g, (pruneL files lo hi)[j]? = some g → fileE os g = 0) (hf : fileE os f ≠ 0) :
    ∃ i : Nat, findV files f.path = i ∧ firstErr (scanF os lo hi files) files.length = .loc (fileE os f) i := by
  have hul : UpF (pruneL files lo hi) := hu.filter _
  obtain ⟨hk1, hk2⟩ := List.getElem?_eq_some_iff.1 hk
  have hmem : f ∈ pruneL files lo hi := List.mem_of_getElem? hk
  have hm := List.mem_filter.1 hmem
  obtain ⟨i, hi1, hi2⟩ := find_one hu hm.1
  obtain ⟨hi3, hi4⟩ := List.getElem?_eq_some_iff.1 hi2
  refine ⟨i, hi1, ?_⟩
  have hsf : scanF os lo hi files i = fileE os f := by
    unfold scanF
    rw [hi2]
    simp only
    rw [if_neg]
    have := hm.2
    simpa using this
  rw [← hsf]
  refine firstErr_hit hi3 (fun j hj => ?_) (by rw [hsf]; exact hf)
  unfold scanF
  have hj1 : j < files.length := by omega
  rw [List.getElem?_eq_getElem hj1]
  simp only
  split
  · rfl
  · rename_i hp
    have hin : files[j] ∈ pruneL files lo hi := List.mem_filter.2 ⟨List.getElem_mem hj1, by simpa using hp⟩
    obtain ⟨m, hm1, hm2⟩ := List.getElem_of_mem hin
    have hlt := List.pairwise_iff_getElem.1 hu j i hj1 hi3 hj
    rw [hi4] at hlt
    refine hlow m ?_ _ (by rw [List.getElem?_eq_getElem hm1, hm2])
    apply Classical.byContradiction
    intro hge
    rcases Nat.lt_or_eq_of_le (Nat.le_of_not_lt hge) with h' | h'
    · have := List.pairwise_iff_getElem.1 hul k m hk1 hm1 h'
      rw [hk2, hm2] at this
      omega
    · subst h'
      rw [hk2] at hm2
      rw [hm2] at hlt
      omega
theorem scan_fine {os : List Ob} {files : List Fl} {lo hi : Int} (h : ∀ g ∈ pruneL files lo hi, fileE os g = 0) : firstErr (scanF os lo hi files) files.length = .nil := by
  refine firstErr_all fun j hj => ?_
  unfold scanF
  rw [List.getElem?_eq_getElem hj]
  simp only
  split
  · rfl
  · rename_i hp
    exact h _ (List.mem_filter.2 ⟨List.getElem_mem hj, by simpa using hp⟩)
theorem scan_nil {os : List Ob} {files : List Fl} {lo hi : Int} (h : firstErr (scanF os lo hi files) files.length = .nil) : ∀ g ∈ pruneL files lo hi, fileE os g = 0 := by
  intro g hg
  obtain ⟨h1, h2⟩ := List.mem_filter.1 hg
  obtain ⟨i, hi, rfl⟩ := List.getElem_of_mem h1
  have := firstErr_nil h i hi
  unfold scanF at this
  rw [List.getElem?_eq_getElem hi] at this
  simp only at this
  rw [if_neg (by simpa using h2)] at this
  exact this
theorem rowsE_nil {os : List Ob} {s : Sn} {lo hi : Int} (h : rowsE os s lo hi = .nil) : RightSn s ∧ ∀ g ∈ pruneL s.files lo hi, fileE os g = 0 := by
  unfold rowsE at h
  split at h
  · rename_i h1; exact absurd h h1
  · rename_i h1
    exact ⟨(snap_iff s).1 (Decidable.not_not.1 h1), scan_nil h⟩
theorem rowsE_of {os : List Ob} {s : Sn} {lo hi : Int} (h : RightSn s) (h2 : ∀ g ∈ pruneL s.files lo hi, fileE os g = 0) : rowsE os s lo hi = .nil := by
  unfold rowsE
  rw [if_neg (by rw [(snap_iff s).2 h]; simp)]
  exact scan_fine h2

/-- The document's way: file by file, rows with their Seqs. -/
def stepO (os : List Ob) (lo hi : Int) (acc : List (Rw × Int)) (f : Fl) : List (Rw × Int) :=
  if pruneP lo hi f then acc
  else if isG f then acc.filter fun x => !(decide (x.1.key ∈ goneL (textO os f.path)) && decide (x.2 < f.seq))
  else acc ++ (withinR (dataL (textO os f.path)) lo hi).map fun r => (r, f.seq)
def goOn (os : List Ob) (lo hi : Int) (l : List Fl) (acc : List (Rw × Int)) : List (Rw × Int) := l.foldl (stepO os lo hi) acc
def tagO (os : List Ob) (l : List Fl) (lo hi : Int) (f : Fl) : List (Rw × Int) := (leftO os l lo hi f).map fun r => (r, f.seq)
theorem killed_cons (os : List Ob) (f : Fl) (l : List Fl) (q k : Int) : killed os (f :: l) q k = ((decide (q < f.seq) && decide (k ∈ keysO os f)) || killed os l q k) := rfl
theorem goOn_all {os : List Ob} {lo hi : Int} : ∀ (l : List Fl) (acc : List (Rw × Int)), l.Pairwise (fun a b => isG a = true → isG b = true) →
    goOn os lo hi l acc = (acc.filter fun x => !killed os (l.filter fun f => !pruneP lo hi f) x.2 x.1.key) ++ (l.filter fun f => !pruneP lo hi f).flatMap (tagO os (l.filter fun f => !pruneP lo hi f) lo hi)
  | [], acc, _ => by
    have : (acc.filter fun _ => true) = acc := List.filter_eq_self.2 fun _ _ => rfl
    simpa [goOn, killed] using this.symm
  | f :: l, acc, h => by
    obtain ⟨h1, h2⟩ := List.pairwise_cons.1 h
    have ih := goOn_all (os := os) (lo := lo) (hi := hi) l
    show goOn os lo hi l (stepO os lo hi acc f) = _
    rw [ih _ h2]
    unfold stepO
    by_cases hp : pruneP lo hi f = true
    · rw [if_pos hp, List.filter_cons_of_neg (by rw [hp]; decide)]
    have hp' : pruneP lo hi f = false := by simpa using hp
    rw [if_neg hp, List.filter_cons_of_pos (by rw [hp']; rfl)]
    generalize hL : (l.filter fun f => !pruneP lo hi f) = L at *
    have hLm : ∀ g ∈ L, g ∈ l := fun g hg => by rw [← hL] at hg; exact (List.mem_filter.1 hg).1
    by_cases hg : isG f = true
    · rw [if_pos hg]
      have hall : ∀ g ∈ L, isG g = true := fun g hg' => h1 g (hLm g hg') hg
      have hnil : ∀ M, ∀ K : List Fl, (∀ g ∈ K, isG g = true) → K.flatMap (tagO os M lo hi) = [] := by
        intro M K hK
        rw [List.flatMap_eq_nil_iff]
        intro g hg'
        unfold tagO leftO rowsO
        rw [if_pos (hK g hg')]
        rfl
      rw [hnil L L hall, hnil (f :: L) (f :: L) (fun g hg' => by
        rcases List.mem_cons.1 hg' with rfl | h'
        · exact hg
        · exact hall g h'), List.append_nil, List.append_nil, List.filter_filter]
      refine List.filter_congr fun x _ => ?_
      rw [killed_cons]
      unfold keysO
      rw [if_pos hg]
      cases decide (x.1.key ∈ goneL (textO os f.path)) <;> cases decide (x.2 < f.seq) <;> cases L.any (fun g => decide (x.2 < g.seq) && decide (x.1.key ∈ (if isG g = true then goneL (textO os g.path) else []))) <;> simp_all [killed, keysO]
    · have hg' : isG f = false := by simpa using hg
      rw [if_neg hg]
      have hk0 : ∀ q k, killed os (f :: L) q k = killed os L q k := fun q k => by
        rw [killed_cons]
        unfold keysO
        rw [if_neg hg]
        simp
      have ht : tagO os (f :: L) lo hi = tagO os L lo hi := by
        funext g
        unfold tagO leftO
        simp only [hk0]
      rw [List.filter_append, List.flatMap_cons, ht, List.append_assoc]
      congr 1
      · refine List.filter_congr fun x _ => by rw [hk0]
      · congr 1
        unfold tagO leftO rowsO
        rw [if_neg hg, List.filter_map]
        rfl
theorem right_order {l : List Fl} (h : RightL l) : l.Pairwise (fun a b => isG a = true → isG b = true) := by
  refine h.ris.imp_of_mem fun {a b} ha hb hlt hg => ?_
  rcases isG_kind (h.ok a ha) with ⟨-, ka⟩ | ⟨h', -⟩
  · rcases isG_kind (h.ok b hb) with ⟨h', -⟩ | ⟨-, kb⟩
    · exact h'
    · exfalso
      rcases path_ways a.path with ⟨-, e, -, -⟩ | ⟨n, -, -, e, -, -⟩ | ⟨n, n1, n2, e, -, ea⟩
      · rw [ka] at e; cases e
      · rw [ka] at e; exact absurd e (by decide)
      · rcases path_ways b.path with ⟨-, e', -, -⟩ | ⟨m, m1, m2, e', -, eb⟩ | ⟨m, -, -, e', -, -⟩
        · rw [kb] at e'; cases e'
        · rw [ea, eb] at hlt; omega
        · rw [kb] at e'; exact absurd e' (by decide)
  · rw [hg] at h'; cases h'
/-- The document's rows are the program's. -/
theorem goOn_rows {os : List Ob} {lo hi : Int} {l : List Fl} (h : RightL l) : (goOn os lo hi l []).map (·.1) = allO os (pruneL l lo hi) lo hi := by
  rw [goOn_all l [] (right_order h)]
  simp only [List.filter_nil, List.nil_append]
  unfold allO pruneL
  rw [List.map_flatMap]
  congr 1
  funext f
  unfold tagO
  rw [List.map_map]
  exact List.map_id'' (fun _ => rfl) _
end Go.Proofs.YtefoaeamfkbgbaaGreatDoor
namespace Go.Proofs.YtefoaeamfkbgbaaGreatDoor
open Go.RowKit

abbrev iMin : Int := -9223372036854775808
abbrev iMax : Int := 9223372036854775807

theorem within_sort (l : List Rw) (lo hi : Int) : withinR (sortR l) lo hi = sortR (withinR l lo hi) :=
  sort_of ((sort_up l).filter _) ((sort_perm l).filter _)
theorem drop_sort (l : List Rw) (ks : List Int) : dropR (sortR l) ks = sortR (dropR l ks) :=
  sort_of ((sort_up l).filter _) ((sort_perm l).filter _)
theorem flatMap_filter {α β : Type} {p : α → Bool} {g : α → List β} : ∀ {l : List α}, (∀ x ∈ l, p x = false → g x = []) → (l.filter p).flatMap g = l.flatMap g
  | [], _ => rfl
  | x :: l, h => by
    have ih := flatMap_filter (l := l) fun y hy => h y (by simp [hy])
    cases hp : p x with
    | true => rw [List.filter_cons_of_pos hp, List.flatMap_cons, List.flatMap_cons, ih]
    | false => rw [List.filter_cons_of_neg (by rw [hp]; decide), List.flatMap_cons, h x (by simp) hp, ih]; rfl
theorem flatMap_same {α β : Type} {f g : α → List β} : ∀ {l : List α}, (∀ x ∈ l, f x = g x) → l.flatMap f = l.flatMap g
  | [], _ => rfl
  | x :: l, h => by rw [List.flatMap_cons, List.flatMap_cons, h x (by simp), flatMap_same fun y hy => h y (by simp [hy])]
theorem filter_flatMap {α β : Type} (p : β → Bool) (g : α → List β) : ∀ l : List α, (l.flatMap g).filter p = l.flatMap fun x => (g x).filter p
  | [] => rfl
  | x :: l => by rw [List.flatMap_cons, List.filter_append, filter_flatMap p g l, List.flatMap_cons]
theorem prune_far {l : List Fl} {lo hi : Int} (h : ∀ f ∈ l, checkF f = 0) (h1 : lo ≤ -1073741824) (h2 : 1073741824 ≤ hi) : pruneL l lo hi = l := by
  refine List.filter_eq_self.2 fun f hf => ?_
  have := (check_near (h f hf)).1
  unfold pruneP
  simp only [Bool.not_eq_true', decide_eq_false_iff_not]
  omega
theorem within_far {l : List Rw} {lo hi a b : Int} (h : ∀ r ∈ l, a ≤ r.key ∧ r.key ≤ b) (h1 : lo ≤ a) (h2 : b ≤ hi) : withinR l lo hi = l := by
  refine List.filter_eq_self.2 fun r hr => ?_
  have := h r hr
  simp [withinP]; omega
theorem left_far {os : List Ob} {l : List Fl} {lo hi : Int} {f : Fl} (h : fileE os f = 0) (h1 : lo ≤ -1073741824) (h2 : 1073741824 ≤ hi) : leftO os l lo hi f = (rowsO os f).filter fun x => !killed os l f.seq x.key := by
  have hn := (check_near (read_known h).1).1
  unfold leftO
  rw [within_far (rowsO_range h) (by omega) (by omega)]
/-- However far the keys are asked. -/
theorem rowsE_far {os : List Ob} {s : Sn} {lo hi : Int} (h1 : lo ≤ -1073741824) (h2 : 1073741824 ≤ hi) : rowsE os s lo hi = rowsE os s iMin iMax := by
  unfold rowsE
  split
  · rfl
  · rename_i h
    have hr := (snap_iff s).1 (Decidable.not_not.1 h)
    congr 1
    funext i
    unfold scanF
    cases hi' : s.files[i]? with
    | none => rfl
    | some f =>
      have hn := (check_near (hr.lst.ok f (List.mem_of_getElem? hi'))).1
      simp only
      rw [if_neg (by unfold pruneP; simp; omega), if_neg (by unfold pruneP; simp [iMin, iMax]; omega)]
theorem rowsL_far {os : List Ob} {s : Sn} {lo hi : Int} (h1 : lo ≤ -1073741824) (h2 : 1073741824 ≤ hi) : rowsL os s lo hi = rowsL os s iMin iMax := by
  unfold rowsL
  rw [rowsE_far h1 h2]
  split
  · rename_i h
    obtain ⟨hr, hf⟩ := rowsE_nil h
    have e1 := prune_far (lo := lo) (hi := hi) hr.lst.ok h1 h2
    have e2 := prune_far (lo := iMin) (hi := iMax) hr.lst.ok (by decide) (by decide)
    rw [e2] at hf
    rw [e1, e2]
    congr 1
    refine flatMap_same fun f hm => ?_
    rw [left_far (hf f hm) h1 h2, left_far (hf f hm) (by decide) (by decide)]
  · rfl
theorem allO_full {os : List Ob} {l : List Fl} (h : ∀ f ∈ l, fileE os f = 0) : allO os (pruneL l iMin iMax) iMin iMax = l.flatMap fun f => (rowsO os f).filter fun x => !killed os l f.seq x.key := by
  rw [prune_far (fun f hf => (read_known (h f hf)).1) (by decide) (by decide)]
  exact flatMap_same fun f hm => left_far (h f hm) (by decide) (by decide)
theorem rowsE_full {os : List Ob} {s : Sn} : rowsE os s iMin iMax = .nil ↔ RightSn s ∧ ∀ f ∈ s.files, fileE os f = 0 := by
  constructor
  · intro h
    obtain ⟨hr, hf⟩ := rowsE_nil h
    rw [prune_far hr.lst.ok (by decide) (by decide)] at hf
    exact ⟨hr, hf⟩
  · rintro ⟨hr, hf⟩
    exact rowsE_of hr fun g hg => hf g (List.mem_filter.1 hg).1
theorem rowsL_full {os : List Ob} {s : Sn} (h : rowsE os s iMin iMax = .nil) : rowsL os s iMin iMax = sortR (s.files.flatMap fun f => (rowsO os f).filter fun x => !killed os s.files f.seq x.key) := by
  unfold rowsL
  rw [if_pos h, allO_full (rowsE_full.1 h).2]
/-- GRAEFE: rows of some keys are all rows, of these keys. -/
theorem rows_prune {os : List Ob} {s : Sn} (lo hi : Int) (h : rowsE os s iMin iMax = .nil) : rowsE os s lo hi = .nil ∧ rowsL os s lo hi = withinR (rowsL os s iMin iMax) lo hi := by
  obtain ⟨hr, hf⟩ := rowsE_full.1 h
  have h1 : rowsE os s lo hi = .nil := rowsE_of hr fun g hg => hf g (List.mem_filter.1 hg).1
  refine ⟨h1, ?_⟩
  rw [rowsL_full h, within_sort]
  unfold rowsL
  rw [if_pos h1]
  congr 1
  unfold withinR allO
  rw [filter_flatMap]
  have hk : ∀ q k, lo ≤ k → k ≤ hi → killed os (pruneL s.files lo hi) q k = killed os s.files q k := by
    intro q k hk1 hk2
    unfold killed
    rw [Bool.eq_iff_iff, List.any_eq_true, List.any_eq_true]
    constructor
    · rintro ⟨g, hg, h'⟩
      exact ⟨g, (List.mem_filter.1 hg).1, h'⟩
    · rintro ⟨g, hg, h'⟩
      refine ⟨g, List.mem_filter.2 ⟨hg, ?_⟩, h'⟩
      simp only [Bool.and_eq_true, decide_eq_true_eq] at h'
      have := keysO_range (hf g hg) k h'.2
      unfold pruneP
      simp only [Bool.not_eq_true', decide_eq_false_iff_not]
      omega
  have hstep : ∀ f ∈ s.files, leftO os (pruneL s.files lo hi) lo hi f = ((rowsO os f).filter fun x => !killed os s.files f.seq x.key).filter fun r => !withinP lo hi r := by
    intro f hm
    unfold leftO withinR
    rw [List.filter_filter, List.filter_filter]
    refine List.filter_congr fun r _ => ?_
    cases hw : withinP lo hi r with
    | true => simp
    | false =>
      unfold withinP at hw
      simp only [Bool.or_eq_false_iff, decide_eq_false_iff_not] at hw
      rw [hk f.seq r.key (by omega) (by omega)]
      simp
  unfold pruneL
  rw [flatMap_filter]
  · exact flatMap_same hstep
  · intro f hm hp
    have hs := hstep f hm
    unfold pruneL at hs
    rw [hs, List.filter_filter, List.filter_eq_nil_iff]
    intro r hr'
    have := rowsO_range (hf f hm) r hr'
    have hp' : pruneP lo hi f = true := by simpa using hp
    unfold pruneP at hp'
    simp only [decide_eq_true_eq] at hp'
    simp [withinP]
    omega

theorem killed_perm {os : List Ob} {l m : List Fl} (h : l.Perm m) (q k : Int) : killed os l q k = killed os m q k := by
  unfold killed
  rw [Bool.eq_iff_iff, List.any_eq_true, List.any_eq_true]
  exact ⟨fun ⟨g, hg, h'⟩ => ⟨g, h.mem_iff.1 hg, h'⟩, fun ⟨g, hg, h'⟩ => ⟨g, h.mem_iff.2 hg, h'⟩⟩
theorem rowsO_gone {os : List Ob} {f : Fl} (h : isG f = true) : rowsO os f = [] := if_pos h
theorem keysO_data {os : List Ob} {f : Fl} (h : isG f = false) : keysO os f = [] := if_neg (by rw [h]; decide)
/-- A file of keys more. -/
theorem rows_placed {os : List Ob} {s s' : Sn} {f : Fl} (h : rowsE os s iMin iMax = .nil) (hr : RightSn s') (hfs : s'.files = placeF f s.files) (hg : isG f = true) (hf : fileE os f = 0) :
    rowsE os s' iMin iMax = .nil ∧ rowsL os s' iMin iMax = sortR (s.files.flatMap fun g => ((rowsO os g).filter fun x => !killed os s.files g.seq x.key).filter fun x => !(decide (g.seq < f.seq) && decide (x.key ∈ keysO os f))) := by
  obtain ⟨-, hfl⟩ := rowsE_full.1 h
  have h1 : rowsE os s' iMin iMax = .nil := rowsE_full.2 ⟨hr, fun g hm => by
    rw [hfs] at hm
    rcases mem_placeF.1 hm with rfl | hm
    · exact hf
    · exact hfl g hm⟩
  refine ⟨h1, ?_⟩
  rw [rowsL_full h1, sort_eq, hfs]
  have hp := placeF_perm f s.files
  refine (hp.flatMap_right _).trans ?_
  rw [List.flatMap_cons, rowsO_gone hg, List.filter_nil, List.nil_append]
  refine List.Perm.of_eq (flatMap_same fun g hm => ?_)
  rw [List.filter_filter]
  refine List.filter_congr fun x _ => ?_
  rw [killed_perm hp, killed_cons]
  cases killed os s.files g.seq x.key <;> simp
/-- One that is newer than all takes all rows of these keys. -/
theorem rows_newer {os : List Ob} {s s' : Sn} {f : Fl} (h : rowsE os s iMin iMax = .nil) (hr : RightSn s') (hfs : s'.files = placeF f s.files) (hg : isG f = true) (hf : fileE os f = 0) (hq : s.seq < f.seq) :
    rowsE os s' iMin iMax = .nil ∧ rowsL os s' iMin iMax = dropR (rowsL os s iMin iMax) (keysO os f) := by
  obtain ⟨h1, h2⟩ := rows_placed h hr hfs hg hf
  refine ⟨h1, ?_⟩
  rw [h2, rowsL_full h, drop_sort]
  congr 1
  unfold dropR
  rw [filter_flatMap]
  refine flatMap_same fun g hm => List.filter_congr fun x _ => ?_
  have := (rowsE_full.1 h).1.sq g hm
  rw [decide_eq_true (show g.seq < f.seq by omega), Bool.true_and]
/-- One that is as old as the oldest takes none. -/
theorem rows_older {os : List Ob} {s s' : Sn} {f : Fl} (h : rowsE os s iMin iMax = .nil) (hr : RightSn s') (hfs : s'.files = placeF f s.files) (hg : isG f = true) (hf : fileE os f = 0) (hq : f.seq ≤ 1) :
    rowsE os s' iMin iMax = .nil ∧ rowsL os s' iMin iMax = rowsL os s iMin iMax := by
  obtain ⟨h1, h2⟩ := rows_placed h hr hfs hg hf
  refine ⟨h1, ?_⟩
  rw [h2, rowsL_full h]
  congr 1
  refine flatMap_same fun g hm => List.filter_eq_self.2 fun x _ => ?_
  have := (check_near ((rowsE_full.1 h).1.lst.ok g hm)).2.1
  rw [decide_eq_false (show ¬ g.seq < f.seq by omega)]
  rfl

/-- A snap with some files less: those of keys that take nothing. -/
def idleF (l : List Fl) (g : Fl) : Bool := isG g && !(l.any fun f => !isG f && decide (f.seq < g.seq))
theorem rows_idle {os : List Ob} {s s' : Sn} (h : rowsE os s iMin iMax = .nil) (hr : RightSn s') (hfs : s'.files = s.files.filter fun g => !idleF s.files g) :
    rowsE os s' iMin iMax = .nil ∧ rowsL os s' iMin iMax = rowsL os s iMin iMax := by
  obtain ⟨-, hfl⟩ := rowsE_full.1 h
  have h1 : rowsE os s' iMin iMax = .nil := rowsE_full.2 ⟨hr, fun g hm => by
    rw [hfs] at hm
    exact hfl g (List.mem_filter.1 hm).1⟩
  refine ⟨h1, ?_⟩
  rw [rowsL_full h1, rowsL_full h, hfs]
  congr 1
  have hk : ∀ f ∈ s.files, isG f = false → ∀ k, killed os (s.files.filter fun g => !idleF s.files g) f.seq k = killed os s.files f.seq k := by
    intro f hm hg k
    unfold killed
    rw [Bool.eq_iff_iff, List.any_eq_true, List.any_eq_true]
    constructor
    · rintro ⟨g, hg, h'⟩
      exact ⟨g, (List.mem_filter.1 hg).1, h'⟩
    · rintro ⟨g, hgm, h'⟩
      refine ⟨g, List.mem_filter.2 ⟨hgm, ?_⟩, h'⟩
      simp only [Bool.and_eq_true, decide_eq_true_eq] at h'
      unfold idleF
      have : (s.files.any fun f => !isG f && decide (f.seq < g.seq)) = true := List.any_eq_true.2 ⟨f, hm, by rw [hg, decide_eq_true h'.1]; rfl⟩
      rw [this]
      simp
  rw [flatMap_filter]
  · refine flatMap_same fun f hm => ?_
    cases hg : isG f with
    | true => rw [rowsO_gone hg]; rfl
    | false => exact List.filter_congr fun x _ => by rw [hk f hm hg]
  · intro f hm hp
    have : isG f = true := by
      unfold idleF at hp
      cases hg : isG f with
      | true => rfl
      | false => rw [hg] at hp; simp at hp
    rw [rowsO_gone this]; rfl
/-- Some files' rows, behind all files of keys. -/
def someF (ps : List Str) (f : Fl) : Bool := isG f || decide (f.path ∈ ps)
theorem rows_some {os : List Ob} {s s' : Sn} (ps : List Str) (h : rowsE os s iMin iMax = .nil) (hr : RightSn s') (hfs : s'.files = s.files.filter (someF ps)) :
    rowsE os s' iMin iMax = .nil ∧ (rowsL os s' iMin iMax).Perm ((s.files.filter fun f => decide (f.path ∈ ps)).flatMap fun f => (rowsO os f).filter fun x => !killed os s.files f.seq x.key) := by
  obtain ⟨-, hfl⟩ := rowsE_full.1 h
  have h1 : rowsE os s' iMin iMax = .nil := rowsE_full.2 ⟨hr, fun g hm => by
    rw [hfs] at hm
    exact hfl g (List.mem_filter.1 hm).1⟩
  refine ⟨h1, ?_⟩
  rw [rowsL_full h1, hfs]
  refine (sort_perm _).trans (List.Perm.of_eq ?_)
  have hk : ∀ q k, killed os (s.files.filter (someF ps)) q k = killed os s.files q k := by
    intro q k
    unfold killed
    rw [Bool.eq_iff_iff, List.any_eq_true, List.any_eq_true]
    constructor
    · rintro ⟨g, hg, h'⟩
      exact ⟨g, (List.mem_filter.1 hg).1, h'⟩
    · rintro ⟨g, hgm, h'⟩
      refine ⟨g, List.mem_filter.2 ⟨hgm, ?_⟩, h'⟩
      cases hg : isG g with
      | true => unfold someF; rw [hg]; rfl
      | false => rw [keysO_data hg] at h'; simp at h'
  simp only [hk]
  have e : (s.files.filter fun f => decide (f.path ∈ ps)) = (s.files.filter (someF ps)).filter fun f => decide (f.path ∈ ps) := by
    rw [List.filter_filter]
    refine List.filter_congr fun f _ => ?_
    unfold someF
    cases isG f <;> cases decide (f.path ∈ ps) <;> rfl
  rw [e, flatMap_filter (p := fun f : Fl => decide (f.path ∈ ps))]
  intro f hm hp
  have hs := (List.mem_filter.1 hm).2
  unfold someF at hs
  rw [hp, Bool.or_false] at hs
  rw [rowsO_gone hs]; rfl
end Go.Proofs.YtefoaeamfkbgbaaGreatDoor
namespace Go.Proofs.YtefoaeamfkbgbaaGreatDoor
open Go.RowKit

theorem idx_far (l : List Int) : (idxVal (fun n => decide (farN n)) l = -1 ∧ firstErr (farF l) l.length = .nil) ∨ (∃ k : Nat, idxVal (fun n => decide (farN n)) l = k ∧ firstErr (farF l) l.length = .loc 2 k) := by
  unfold idxVal
  cases h : l.findIdx? (fun n => decide (farN n)) with
  | none =>
    refine .inl ⟨rfl, firstErr_all fun j hj => ?_⟩
    have := List.findIdx?_eq_none_iff.1 h l[j] (List.getElem_mem hj)
    unfold farF
    rw [List.getElem?_eq_getElem hj]
    simp only
    rw [if_neg (by simpa using this)]
  | some k =>
    obtain ⟨hk, hp, hlt⟩ := List.findIdx?_eq_some_iff_getElem.1 h
    refine .inr ⟨k, rfl, ?_⟩
    have e : farF l k = 2 := by
      unfold farF
      rw [List.getElem?_eq_getElem hk]
      simp only
      rw [if_pos (by simpa using hp)]
    rw [firstErr_hit hk (fun j hj => ?_) (by rw [e]; decide), e]
    have := hlt j hj
    unfold farF
    rw [List.getElem?_eq_getElem (by omega)]
    simp only
    rw [if_neg (by simpa using this)]
theorem near_all {l : List Int} (h : firstErr (farF l) l.length = .nil) : ∀ n ∈ l, ¬ farN n := fun n hn hf => by
  obtain ⟨j, hj, he⟩ := List.getElem_of_mem hn
  have := firstErr_nil h j hj
  unfold farF at this
  rw [List.getElem?_eq_getElem hj, he] at this
  simp only at this
  rw [if_pos hf] at this
  cases this
set_option maxHeartbeats 2000000 in
set_option maxRecDepth 20000 in
theorem goneMake_any (E : Nat → Addr) (B : Nat) (v : Value) (l : List Int) (w : World) (hE : Errs [2, 8] E B w) (hT : LNum B w) (hl : IntsAt w v l) (hn : l.length ≤ 1000) :
    Calls Tryz.prog 10 #[v] w fun e w' => ∃ ev, e = .returned (.tuple #[S (madeT l), ev]) ∧ ErV E w' ev (madeE l) ∧ Below w.heap.size w w' := by
  have hBw := hE.le
  have hif := isIfaceE
  have hE1 := fun w1 (hb : Below w.heap.size w w1) => (⟨(hE.below' hb hBw).var 2 (by decide), (hE.below' hb hBw).var 8 (by decide)⟩ : _ ∧ _)
  simp only [errG] at hE1
  have HE1 := Lib.hid hE1
  have X := Lib.hid (fun W (h : Below w.heap.size w W) => (⟨hT.below' h hBw, hl.below h⟩ : LNum B W ∧ IntsAt W v l))
  have HK := Lib.hid (goneKeys_any v l w hl (by omega))
  have hql := risOf_len l
  obtain ⟨a, c, rfl, -, -⟩ := hl.form'
  have hI := fun W (h : Below w.heap.size w W) => indexFuncI_any 41 #[] (fun n => decide (farN n)) W.heap.size W (.slice a l.length c) l W (enters_of Tryz.func41 (by kernel_rfl) rfl) (fun W' x _ _ _ => (far_any x W').mono fun e w' h => ⟨h.1, h.2 ▸ Below.refl _ _⟩) (X.out W h).2 (Below.refl _ _) (Nat.le_refl _)
  have HI := Lib.hid hI
  have hway := idx_far l
  obtain ⟨iv, hiv⟩ : ∃ iv, idxVal (fun n => decide (farN n)) l = iv := ⟨_, rfl⟩
  rw [hiv] at hway
  simp only [hiv] at HI
  have HM : Hid (madeE l = if 40 < (risOf l).length then .bare 8 else firstErr (farF l) l.length) := Lib.hid rfl
  have HMt : Hid (madeT l = if madeE l = .nil then goneText (risOf l) else []) := Lib.hid rfl
  have hnear : firstErr (farF l) l.length = .nil → ∀ n ∈ risOf l, ¬ farN n := fun h n hn => near_all h n (mem_risOf.1 hn)
  have HNear := Lib.hid hnear
  have HWay := Lib.hid hway
  clear hE1 hl hI hiv hnear hway
  generalize risOf l = q at *
  go_enter Tryz.func10, Tryz.ntmps10
  go_wp2_with fail
  refine HK.out.mono ?_
  rintro e w1 ⟨u, rfl, hown, hb1⟩
  have hat := hown.at encI_enc
  obtain ⟨aq, cq, bq, oq, rfl, haq, hcq, hcmq, hxq⟩ := hat
  unfold maxLen at hcmq
  have HXq := Lib.hid hxq
  have HOwn := Lib.hid hown
  clear hown hxq HK
  by_cases h40 : 40 < q.length
  case pos =>
    have g : (40 : Int) < (q.length : Int) := by omega
    have hm : madeE l = .bare 8 := by rw [HM.out, if_pos h40]
    have HMe := Lib.hid hm
    have HMT : Hid (madeT l = []) := Lib.hid (by rw [HMt.out, hm]; rfl)
    obtain ⟨v2, v8⟩ := HE1.out _ hb1
    clear h40 hm
    go_wp2_with fail
    go_quiet (fail)
    go_wp2_with fail
    go_ret2
    exact ⟨_, by rw [HMT.out]; rfl, by rw [HMe.out]; exact ⟨by decide, rfl⟩, Bdn hb1 _⟩
  have g : decide ((40 : Int) < (q.length : Int)) = false := by simp; omega
  have HM2 : Hid (madeE l = firstErr (farF l) l.length) := Lib.hid (by rw [HM.out, if_neg h40])
  have hq40 : q.length ≤ 40 := by omega
  clear h40
  go_wp2_with fail
  refine (HI.out _ hb1).mono ?_
  rintro e w2 ⟨rfl, hb2⟩
  have hb2' := hb1.trans (hb2.mono hb1.size)
  obtain ⟨v2, v8⟩ := HE1.out _ hb2'
  rcases HWay.out with ⟨rfl, hfe⟩ | ⟨k, rfl, hfe⟩
  case inr =>
    have hm : madeE l = .loc 2 k := HM2.out.trans hfe
    have HMe := Lib.hid hm
    have HMT : Hid (madeT l = []) := Lib.hid (by rw [HMt.out, hm]; rfl)
    have g2 : (0 : Int) ≤ (k : Int) := by omega
    clear hm hfe
    go_wp2_with fail
    go_region
    all_goals
      go_wp2_with fail
      go_ret2
      exact ⟨_, by rw [HMT.out]; rfl, by rw [HMe.out]; exact (ErV.fresh (by decide) k w2 88 _ rfl).below (Below.refl _ _).drew, (hb2'.alloc hb2'.size _).drew⟩
  have hm : madeE l = .nil := HM2.out.trans hfe
  have HMe := Lib.hid hm
  have HMT : Hid (madeT l = wholeT kGone q (bodyT (q.map Lib.itoa))) := Lib.hid (by rw [HMt.out, if_pos hm]; rfl)
  have HNr := Lib.hid (HNear.out hfe)
  clear hm hfe v2 v8
  go_wp2_with fail
  go_loopw [6, 26] (fun u i wr => ∃ (k : Nat) (vl : Value), k ≤ q.length ∧ i = .int .i64 k ∧ vl = u ∧ Own encS 9 1 w2.heap.size wr vl ((q.take k).map Lib.itoa) ∧ Below w2.heap.size w2 wr) (fun _ i _ => q.length - (intOf i).toNat)
  case atStart => exact ⟨0, _, by omega, rfl, rfl, Own.nil _ _ _ _ _, Below.refl _ _⟩
  case round =>
    obtain ⟨k, vl, hk, rfl, rfl, hvl, hb⟩ := hrel
    obtain ⟨wo, rfl⟩ : ∃ wo, wo = wr := ⟨wr, rfl⟩
    have hbw := hb2'.trans (hb.mono hb2'.size)
    have hb1o := hb2.trans (hb.mono hb2.size)
    by_cases hlt : k < q.length
    case neg =>
      obtain rfl : k = q.length := by omega
      rw [List.take_length] at hvl
      have f : decide ((q.length : Int) < (q.length : Int)) = false := by simp
      obtain ⟨e1, e2⟩ := ends_within (B := 1073741824) (by omega) fun x hx => near (HNr.out x hx)
      have hbl := body_len (m := 21) (ls := q.map Lib.itoa) fun s hs => by
        obtain ⟨n, hn', rfl⟩ := List.mem_map.1 hs
        have := near (HNr.out n hn')
        exact itoa_len n (by omega) (by omega)
      rw [List.length_map] at hbl
      have HWh := Lib.hid (dataWhole_any B kGone _ q _ (q.map Lib.itoa) wo (X.out _ hbw).1 (by decide) ((HOwn.out.below hb1o).at encI_enc) (hvl.at encS_enc) (by omega) (by rw [List.length_map]; omega) (by omega) (by omega))
      clear e1 e2 hbl hvl
      go_wp2_with fail
      refine HWh.out.mono ?_
      rintro e w4 ⟨rfl, hb4⟩
      go_wp2_with fail
      go_ret2
      exact ⟨_, by rw [HMT.out]; rfl, by rw [HMe.out]; rfl, hbw.trans (hb4.mono hbw.size)⟩
    obtain ⟨x, hxk⟩ := get_ex hlt
    have c1 := HXq.out k x hxk 0 _ rfl
    have c1 := (hb1o.cell (World.block_lt_of_cell? w1 _ c1)).trans c1
    have i1 := idx_at (c := cq) 1 Tryz.underlying26 szInt haq k hlt
    have hk1 : (k : Int) < (q.length : Int) := by omega
    simp only [Nat.mul_one, Nat.add_zero] at c1 i1
    have hnx := near (HNr.out x (List.mem_of_getElem? hxk))
    have HIt := Lib.hid (itoa_any B x (by omega) (by omega) wo (X.out _ hbw).1)
    have HSn : Hid ((q.take (k + 1)).map Lib.itoa = (q.take k).map Lib.itoa ++ [Lib.itoa x]) := Lib.hid (by rw [take_snoc' hxk, List.map_append]; rfl)
    obtain ⟨ls, hls⟩ : ∃ ls, (q.take k).map Lib.itoa = ls := ⟨_, rfl⟩
    have hlsl : ls.length ≤ 40 := by rw [← hls, List.length_map, List.length_take]; omega
    rw [hls] at hvl HSn
    clear hxk hnx hls
    generalize Lib.itoa x = tx at *
    go_wp2_with fail
    refine HIt.out.mono ?_
    rintro e w3 ⟨rfl, hb3⟩
    have hb3' := hb.trans (hb3.mono hb.size)
    have hvl3 := hvl.below hb3
    go_wp2_with (at_builtin; refine wpList_app rfl _ _ _ rfl w2.heap.size elStr vl ls.length _ rfl (hvl3.alloc _) (.slice (some ⟨w3.heap.size, 0, none⟩) 1 1) 1 (encS tx) rfl (src_one rfl rfl (by simp [Value.oneCell'])) (by unfold maxLen; omega) (by omega) (by have := hb3'.size; simp; omega) ?_; intro v5 w5 hown5 hg5 _)
    go_roundw
    case rel => exact ⟨k + 1, _, by omega, by go_num, rfl, by rw [HSn.out]; exact Own.snoc hown5, Bapp (hb3'.alloc hb3'.size _) (hvl3.alloc _) hg5 (Nat.le_refl _) (by have := hb3'.size; simp; omega)⟩
    case measure => simp [intOf]; omega
end Go.Proofs.YtefoaeamfkbgbaaGreatDoor
