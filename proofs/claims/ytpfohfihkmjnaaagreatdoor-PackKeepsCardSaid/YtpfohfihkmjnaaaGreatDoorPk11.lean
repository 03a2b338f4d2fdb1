/- A table of pieces, in plain words: a store, and what is known of its files. Of no program. Snaps in memory; snap.in, snap.Check, slices.Contains at texts. snap.Text: the walk. snap.Read: the walk. deedboxref2.SameFiles. deedboxlaw2.one, listed. snap.First; the statements' own helpers on snaps: OwnSnap, LongSnap, SameSnap, snapped. LongFiles, LongSnap, longChanges: what each answers, as a function of what it is given. LongRows, longPieces: what each answers, as a function of what it is given. deedboxref1.SumOf: the walk: the sum, bit by bit. deedboxref1's Ends, wholeText, headFault, GoneOf: the walks. -/
import Derived.Test.YtpfohfihkmjnaaaGreatDoorPk10
import Derived.Test.YtpfohfihkmjnaaaGreatDoorPk3
import Derived.Test.YtpfohfihkmjnaaaGreatDoorPk6
import Derived.Test.YtpfohfihkmjnaaaGreatDoorPk5
import Derived.Deep.RegionHeld3
import Derived.Deep.RegionWith
import Derived.Laws.StructEq
import Derived.Test.YtpfohfihkmjnaaaGreatDoorPk7
import Derived.Test.YtpfohfihkmjnaaaGreatDoorPk1
import Derived.Test.YtpfohfihkmjnaaaGreatDoorPk9
import Derived.Test.YtpfohfihkmjnaaaGreatDoorPk4
import Derived.Test.YtpfohfihkmjnaaaGreatDoorPk2
import Derived.Laws.BitsAll
import Derived.Outline
namespace Go.Proofs.YtpfohfihkmjnaaaGreatDoor
open Go.RowKit
def textPc (p : Pc) : Str := if p.part = [45] then madeT p.keys else makeT p.rows
def putPc (p : Pc) : Str := if p.spoil = [] then textPc p else p.spoil
def goesPc (fs : List Fl) (p : Pc) : Bool := decide ((ofText p.path p.part (textPc p) p.seq).2 = 0) && decide (findV fs p.path < 0)
def stepTb (t : St × List Fl) (p : Pc) : St × List Fl := if goesPc t.2 p = true then (putS t.1 p.path (putPc p), placeF (ofText p.path p.part (textPc p) p.seq).1 t.2) else t
def tableTb (l : List Pc) : St × List Fl := l.foldl stepTb (St.new, [])
theorem tableTb_snoc (l : List Pc) (p : Pc) : tableTb (l ++ [p]) = stepTb (tableTb l) p := by unfold tableTb; rw [List.foldl_append]; rfl
set_option maxRecDepth 100000 in
/-- A right path is a name. -/
theorem path_name {p k : Str} {n : Int} (h : pathF p = some (k, n)) : nameOkS p = true := by
  obtain ⟨h1, h2, h3, h4⟩ := pathF_form h
  have hl : (Lib.itoa n).length ≤ 11 := by
    have := numOf_itoa (n := n) (by omega) (by omega)
    exact numOf_len this
  have hd := itoa_digit (n := n) (by omega)
  have hfin : ∀ m : Fin 256, 48 ≤ m.val ∧ m.val ≤ 57 → nameSigns.contains (UInt8.ofFin m) = true := by decide
  have hdig : ∀ c : UInt8, 48 ≤ c.toNat ∧ c.toNat ≤ 57 → nameSigns.contains c = true := fun c hc => hfin c.toFin hc
  have hkd : ∀ c ∈ kData, nameSigns.contains c = true := by decide
  have hkg : ∀ c ∈ kGone, nameSigns.contains c = true := by decide
  have hk4 : k.length = 4 := by rcases h2 with rfl | rfl <;> rfl
  subst h1
  unfold nameOkS
  simp only [Bool.and_eq_true, decide_eq_true_eq, List.all_eq_true, List.length_append, List.length_cons]
  refine ⟨by simp, by omega, fun c hc => ?_⟩
  rcases List.mem_append.1 hc with hc | hc
  · rcases h2 with rfl | rfl
    · exact hkd c hc
    · exact hkg c hc
  · rcases List.mem_cons.1 hc with rfl | hc
    · decide
    · exact hdig c (hd c hc)
theorem check_name {f : Fl} (h : checkF f = 0) : nameOkS f.path = true := by
  obtain ⟨k, n, hp, -, -⟩ := checkF_zero h
  exact path_name hp
theorem madeT_len (l : List Int) : (madeT l).length ≤ 1100 := by
  unfold madeT
  split
  · rename_i h
    obtain ⟨h1, h2⟩ := madeE_nil h
    exact goneText_len h2 h1
  · simp
theorem makeT_len (l : List Rw) : (makeT l).length ≤ 2700 := by
  by_cases h : makeE l = .nil
  · rw [make_text h]
    obtain ⟨h1, h2, -⟩ := make_right h
    exact dataText_len h2 h1
  · have : makeT l = [] := if_neg h
    rw [this]; simp
theorem textPc_len (p : Pc) : (textPc p).length ≤ 2700 := by
  unfold textPc
  split
  · have := madeT_len p.keys; omega
  · exact makeT_len p.rows
theorem putPc_len {p : Pc} (h : p.spoil.length ≤ 200) : (putPc p).length ≤ 2700 := by
  unfold putPc
  split
  · exact textPc_len p
  · omega
/-- What stands of a table, behind n pieces. -/
structure TbOk (t : St × List Fl) (n : Nat) : Prop where
  up : UpF t.2
  ok : ∀ f ∈ t.2, checkF f = 0
  len : t.2.length ≤ n
  here : ∀ f ∈ t.2, ∃ o, getO t.1.objs f.path = some o
  only : ∀ o ∈ t.1.objs, ∃ f ∈ t.2, f.path = o.name
  num : t.1.objs.length ≤ n
  tot : total t.1.objs ≤ n * 2700
  txt : ∀ o ∈ t.1.objs, o.text.length ≤ 2700
  on : t.1.off = false
  cut : t.1.cut = -1
  ris : Rising t.1.objs
theorem TbOk.new : TbOk (St.new, []) 0 :=
  ⟨List.Pairwise.nil, fun _ h => (by cases h), Nat.le_refl _, fun _ h => (by cases h), fun _ h => (by cases h), Nat.le_refl _, Nat.le_refl _, fun _ h => (by cases h), rfl, rfl, List.Pairwise.nil⟩
theorem TbOk.mono {t : St × List Fl} {n m : Nat} (h : TbOk t n) (hm : n ≤ m) : TbOk t m :=
  ⟨h.up, h.ok, Nat.le_trans h.len hm, h.here, h.only, Nat.le_trans h.num hm, Nat.le_trans h.tot (Nat.mul_le_mul_right _ hm), h.txt, h.on, h.cut, h.ris⟩
/-- A file of a path that is not there is put, whole. -/
theorem put_fine {s : St} {n t : Str} (hn : nameOkS n = true) (ht : t.length ≤ 20000) (hoff : s.off = false) (hcut : s.cut = -1) (hg : getO s.objs n = none) (hl : s.objs.length < 200) (htot : total s.objs + t.length ≤ 262144) :
    putE s n t = .nil ∧ putS s n t = { s with objs := putO ⟨n, t, s.day⟩ s.objs } := by
  have ha : aft s t.length = s := by unfold aft; rw [if_pos (by omega)]
  have hw : wrote s t.length = t.length := by unfold wrote; rw [if_pos (by omega)]
  constructor
  · unfold putE
    rw [if_neg (by rw [hn]; decide), if_neg (by omega), if_neg (by rw [hoff]; decide), if_neg (by rw [hg]; decide), if_neg (by omega), ha, if_neg (by rw [hoff]; decide)]
  · unfold putS
    rw [if_neg (by rw [hn, hoff, hg]; simp; omega), ha, hw, List.take_length]
theorem findV_off {l : List Fl} (hok : ∀ f ∈ l, checkF f = 0) {p : Str} (hp : pathF p ≠ none) (hf : findV l p < 0) : ∀ g ∈ l, keyP g.path ≠ keyP p := fun g hg e =>
  findV_neg.1 hf g hg (keyP_inj (checkF_path (hok g hg)) hp e)
theorem TbOk.step {t : St × List Fl} {n : Nat} (h : TbOk t n) (hn : n < 90) {p : Pc} (hs : p.spoil.length ≤ 200) : TbOk (stepTb t p) (n + 1) := by
  unfold stepTb
  split
  · rename_i hgo
    unfold goesPc at hgo
    simp only [Bool.and_eq_true, decide_eq_true_eq] at hgo
    obtain ⟨h1, h2⟩ := hgo
    obtain ⟨hp, -, hc, he⟩ := ofText_inv h1
    obtain ⟨f, hf⟩ : ∃ f, (ofText p.path p.part (textPc p) p.seq).1 = f := ⟨_, rfl⟩
    rw [hf] at he ⊢
    have hfp : f.path = p.path := by rw [he]; rfl
    rw [← he] at hc
    have hnm : nameOkS p.path = true := by rw [← hfp]; exact check_name hc
    have hg : getO t.1.objs p.path = none := getO_none.2 fun o ho e => by
      obtain ⟨g, hgm, hge⟩ := h.only o ho
      exact findV_neg.1 h2 g hgm (hge.trans e)
    have hl := putPc_len hs
    have htot := h.tot
    have hnum := h.num
    obtain ⟨-, hput⟩ := put_fine (s := t.1) hnm (t := putPc p) (by omega) h.on h.cut hg (by omega) (by omega)
    rw [hput]
    have hlen := h.len
    refine ⟨placeF_up h.up (by rw [hfp]; exact findV_off h.ok hp h2), fun g hm => ?_, by simp only; rw [placeF_len]; omega, fun g hm => ?_, fun o ho => ?_, ?_, ?_, fun o ho => ?_, h.on, h.cut, putO_rising h.ris hg⟩
    · rcases mem_placeF.1 hm with rfl | hm
      · exact hc
      · exact h.ok g hm
    · rcases mem_placeF.1 hm with rfl | hm
      · rw [hfp]
        exact ⟨_, getO_put_same h.ris (x := ⟨p.path, putPc p, t.1.day⟩) hg⟩
      · obtain ⟨o, ho⟩ := h.here g hm
        have hne : g.path ≠ p.path := findV_neg.1 h2 g hm
        exact ⟨o, by rw [getO_put_other h.ris (x := ⟨p.path, putPc p, t.1.day⟩) hg hne]; exact ho⟩
    · rcases mem_putO.1 ho with rfl | ho
      · exact ⟨f, mem_placeF.2 (.inl rfl), hfp⟩
      · obtain ⟨g, hgm, hge⟩ := h.only o ho
        exact ⟨g, mem_placeF.2 (.inr hgm), hge⟩
    · simp only
      rw [putO_length]; omega
    · simp only
      rw [total_putO]
      simp only
      omega
    · rcases mem_putO.1 ho with rfl | ho
      · exact hl
      · exact h.txt o ho
  · exact h.mono (by omega)
theorem TbOk.of {l : List Pc} (hs : ∀ p ∈ l, p.spoil.length ≤ 200) (hn : l.length ≤ 90) : TbOk (tableTb l) l.length := by
  have key : ∀ (m : List Pc) (t : St × List Fl) (n : Nat), TbOk t n → n + m.length ≤ 90 → (∀ p ∈ m, p.spoil.length ≤ 200) → TbOk (m.foldl stepTb t) (n + m.length) := by
    intro m
    induction m with
    | nil => intro t n h _ _; exact h
    | cons p m ih =>
      intro t n h h2 h3
      rw [List.length_cons] at h2
      have := ih (stepTb t p) (n + 1) (h.step (by omega) (h3 p (by simp))) (by omega) (fun q hq => h3 q (by simp [hq]))
      rw [List.foldl_cons, List.length_cons]
      rw [show n + (m.length + 1) = n + 1 + m.length by omega]
      exact this
  have := key l (St.new, []) 0 TbOk.new (by omega) hs
  simpa [tableTb] using this
theorem TbOk.mid {t : St × List Fl} {n : Nat} (h : TbOk t n) : ∀ f ∈ t.2, midF f := fun f hf => by
  obtain ⟨k, m, hp, hq, -⟩ := checkF_zero (h.ok f hf)
  have hnm := nameOk_len (check_name (h.ok f hf))
  refine ⟨by omega, ?_⟩
  unfold partOk at hq
  split at hq
  · have : f.part = [45] := by simpa using hq
    rw [this]; decide
  · simp only [Bool.and_eq_true, decide_eq_true_eq] at hq
    have := hq.2.1
    omega
end Go.Proofs.YtpfohfihkmjnaaaGreatDoor
namespace Go.Proofs.YtpfohfihkmjnaaaGreatDoor
open Go.RowKit
/-- A cell of a block that was laid anew, later. -/
theorem newCell {w w6 : World} {cs : Array Value} {t : TypeId} (h : Below (w.alloc (.cells cs t)).heap.size (w.alloc (.cells cs t)) w6) (j : Nat) {x : Value} (hx : cs[j]? = some x) : w6.cell? ⟨w.heap.size, j, none⟩ = some x := by
  have h1 : (w.alloc (.cells cs t)).cell? ⟨w.heap.size, j, none⟩ = some x := by
    rw [cell_of_row (w.alloc _) w.heap.size _ _ t (0, 0) (heap_alloc_new w _)]; exact hx
  exact (h.cell (World.block_lt_of_cell? _ _ h1)).trans h1
abbrev snapV (s : Sn) (v : Value) : Value := .agg #[.int .i64 s.id, .int .i64 s.parent, .int .i64 s.seq, .int .i64 s.day, .int .i64 s.index, S s.op, v]
theorem snapCells {w w6 : World} {s : Sn} {v : Value} {t : TypeId} (h : Below (w.alloc (.cells #[.int .i64 s.id, .int .i64 s.parent, .int .i64 s.seq, .int .i64 s.day, .int .i64 s.index, S s.op, v] t)).heap.size (w.alloc (.cells #[.int .i64 s.id, .int .i64 s.parent, .int .i64 s.seq, .int .i64 s.day, .int .i64 s.index, S s.op, v] t)) w6) :
    w6.cell? ⟨w.heap.size, 0, none⟩ = some (.int .i64 s.id) ∧ w6.cell? ⟨w.heap.size, 1, none⟩ = some (.int .i64 s.parent) ∧ w6.cell? ⟨w.heap.size, 2, none⟩ = some (.int .i64 s.seq) ∧ w6.cell? ⟨w.heap.size, 3, none⟩ = some (.int .i64 s.day) ∧ w6.cell? ⟨w.heap.size, 4, none⟩ = some (.int .i64 s.index) ∧ w6.cell? ⟨w.heap.size, 5, none⟩ = some (S s.op) ∧ w6.cell? ⟨w.heap.size, 6, none⟩ = some v :=
  ⟨newCell h 0 rfl, newCell h 1 rfl, newCell h 2 rfl, newCell h 3 rfl, newCell h 4 rfl, newCell h 5 rfl, newCell h 6 rfl⟩
theorem strs_new (l : List Str) (w : World) (t : TypeId) (H n : Nat) (cs : Array Value) (hH : w.heap.size = H) (hcs : cs = (l.map S).toArray) (hn : l.length = n) (hm : n ≤ 100000) : StrsAt (w.alloc (.cells cs t)) (.slice (some ⟨H, 0, none⟩) n n) l := by
  subst hH hcs hn
  refine ⟨_, _, w.heap.size, 0, rfl, fun _ => rfl, Nat.le_refl _, by unfold maxLen; omega, fun k z hk j u hu => ?_⟩
  obtain rfl : j = 0 := by
    rcases Nat.eq_zero_or_pos j with h | h
    · exact h
    · rw [List.getElem?_eq_none (by simp; omega)] at hu; cases hu
  obtain rfl : S z = u := by simpa using hu
  rw [cell_of_row (w.alloc _) w.heap.size _ _ t (0, 0) (heap_alloc_new w _)]
  simp [hk]
theorem containsB_mem : ∀ (l : List Str) (x : Str), Lib.containsS (l.map fun s => (⟨s.toArray⟩ : ByteArray)) ⟨x.toArray⟩ = decide (x ∈ l) := by
  intro l x
  rw [Bool.eq_iff_iff]
  unfold Lib.containsS
  rw [decide_eq_true_eq, decide_eq_true_eq, Lib.idxOfS_nonneg_iff]
  simp
theorem containsS_any (v : Value) (l : List Str) (x : Str) (w : World) (hl : StrsAt w v l) (hn : l.length ≤ 100000) :
    Calls Tryz.prog 59 #[v, S x] w fun e w' => e = .returned (.bool (decide (x ∈ l))) ∧ w = w' := by
  obtain ⟨a, c, b, o, rfl, ha, hc, hcm, hx⟩ := hl
  by_cases h0 : 0 < l.length
  · obtain rfl := ha h0
    refine (Tryz.slices_Contains_string b o l.length c (l.map fun s => (⟨s.toArray⟩ : ByteArray)) ⟨x.toArray⟩ w (by simp) (by omega) (fun j hj => ?_)).mono ?_
    · have hj' : j < l.length := by simpa using hj
      have := hx j l[j] (by simp [hj']) 0 _ rfl
      simpa [List.getD, hj'] using this
    · rintro e w' ⟨rfl, rfl⟩
      refine ⟨?_, rfl⟩
      rw [List.take_of_length_le (by simp), containsB_mem]
  · have : l = [] := List.eq_nil_of_length_eq_zero (by omega)
    subst this
    refine (Tryz.slices_Contains_string_empty a c ⟨x.toArray⟩ w).mono ?_
    rintro e w' ⟨rfl, rfl⟩
    exact ⟨by simp, rfl⟩
theorem in_any (n lo hi : Int) (w : World) : Calls Tryz.prog 93 #[.int .i64 n, .int .i64 lo, .int .i64 hi] w fun e w' => e = .returned (.bool (inB n lo hi)) ∧ w = w' := by
  unfold inB
  by_cases h1 : lo ≤ n
  · by_cases h2 : n ≤ hi
    · rw [decide_eq_true h1, decide_eq_true h2]
      go_enter Tryz.func93, Tryz.ntmps93
      go_wp2_with fail
      go_ret
      exact ⟨rfl, rfl⟩
    · have g2 := decide_eq_false h2
      rw [decide_eq_true h1, g2]
      clear h2
      go_enter Tryz.func93, Tryz.ntmps93
      go_wp2_with fail
      go_ret
      exact ⟨rfl, rfl⟩
  · have g1 := decide_eq_false h1
    rw [g1]
    clear h1
    go_enter Tryz.func93, Tryz.ntmps93
    go_wp2_with fail
    go_ret
    exact ⟨rfl, rfl⟩
theorem snap_ways (s : Sn) : (snapBound s = true ∧ (inB s.id 1 1073741824 = false ∨ (inB s.id 1 1073741824 = true ∧ (s.parent < 0 ∨ (decide (s.parent < 0) = false ∧ (s.id ≤ s.parent ∨ (decide (s.id ≤ s.parent) = false ∧
    (inB s.seq 0 1073741824 = false ∨ (inB s.seq 0 1073741824 = true ∧ (inB s.day 0 100000 = false ∨ (inB s.day 0 100000 = true ∧ inB s.index 0 1073741824 = false))))))))))) ∨
    (snapBound s = false ∧ inB s.id 1 1073741824 = true ∧ decide (s.parent < 0) = false ∧ decide (s.id ≤ s.parent) = false ∧ inB s.seq 0 1073741824 = true ∧ inB s.day 0 100000 = true ∧ inB s.index 0 1073741824 = true) := by
  unfold snapBound
  cases inB s.id 1 1073741824 <;> cases inB s.seq 0 1073741824 <;> cases inB s.day 0 100000 <;> cases inB s.index 0 1073741824 <;> simp <;> omega
set_option maxHeartbeats 1000000 in
set_option maxRecDepth 20000 in
theorem snapCheck_any (E : Nat → Addr) (B : Nat) (s : Sn) (v : Value) (w : World) (hE : Errs [2, 4, 5, 8, 9] E B w) (hT : LNum B w) (hM : LMax B w) (hl : FilesAt w v s.files) (hs : ∀ x ∈ s.files, midF x) :
    Calls Tryz.prog 44 #[snapV s v] w fun e w' => ∃ ev, e = .returned ev ∧ ErV E w' ev (snapCheck s) ∧ Below w.heap.size w w' := by
  have hBw := hE.le
  have hif := isIfaceE
  have hSC : snapCheck s = if snapBound s = true then .bare 2 else if s.op ∉ kOps then .bare 4 else if listCheck s.files ≠ .nil then listCheck s.files else firstErr (seqFault s) s.files.length := rfl
  have HSC := Lib.hid hSC; clear hSC
  have Hs := Lib.hid hs; clear hs
  have hb0 : Below w.heap.size w (w.alloc (.cells #[.int .i64 s.id, .int .i64 s.parent, .int .i64 s.seq, .int .i64 s.day, .int .i64 s.index, S s.op, v] 25)) := (Below.refl _ _).alloc (Nat.le_refl _) _
  have CS := Lib.hid (fun w6 (h : Below (w.alloc (.cells #[.int .i64 s.id, .int .i64 s.parent, .int .i64 s.seq, .int .i64 s.day, .int .i64 s.index, S s.op, v] 25)).heap.size (w.alloc (.cells #[.int .i64 s.id, .int .i64 s.parent, .int .i64 s.seq, .int .i64 s.day, .int .i64 s.index, S s.op, v] 25)) w6) => snapCells h)
  have V2 := fun w6 (h : Below w.heap.size w w6) => (hE.below' h hBw).var 2 (by decide)
  have V4 := fun w6 (h : Below w.heap.size w w6) => (hE.below' h hBw).var 4 (by decide)
  have V9 := fun w6 (h : Below w.heap.size w w6) => (hE.below' h hBw).var 9 (by decide)
  simp only [errG] at V2 V4 V9
  have U2 := Lib.hid V2; have U4 := Lib.hid V4; have U9 := Lib.hid V9
  clear V2 V4 V9
  have v2 := U2.out _ hb0
  obtain ⟨c0, c1, c2, c3, c4, c5, c6⟩ := CS.out _ (Below.refl _ _)
  go_enter Tryz.func44, Tryz.ntmps44
  go_wp2_with fail
  generalize w.alloc (.cells #[.int .i64 s.id, .int .i64 s.parent, .int .i64 s.seq, .int .i64 s.day, .int .i64 s.index, S s.op, v] 25) = w0 at *
  rcases snap_ways s with ⟨hbd, hw⟩ | ⟨hbd, g1, g2, g3, g4, g5, g6⟩
  · have HC : Hid (snapCheck s = .bare 2) := Lib.hid (by rw [HSC.out, if_pos hbd])
    clear hbd
    rcases hw with g1 | ⟨g1, g2 | ⟨g2, g3 | ⟨g3, g4 | ⟨g4, g5 | ⟨g5, g6⟩⟩⟩⟩⟩
    all_goals
      refine (in_any _ _ _ _).mono ?_
      rintro e w' ⟨rfl, rfl⟩
      go_wp2_with (refine (in_any _ _ _ _).mono ?_; rintro e w' ⟨rfl, rfl⟩)
      go_ret
      exact ⟨_, rfl, by rw [HC.out]; exact ⟨by decide, rfl⟩, hb0⟩
  have hba : Below w0.heap.size w0 (w0.alloc (.cells #[S kStart, S kAppend, S kDelete, S kRewrite] 9)) := (Below.refl _ _).alloc (Nat.le_refl _) _
  have hops : StrsAt (w0.alloc (.cells #[S kStart, S kAppend, S kDelete, S kRewrite] 9)) (.slice (some ⟨w0.heap.size, 0, none⟩) 4 4) kOps := strs_new kOps w0 9 _ 4 _ rfl rfl rfl (by decide)
  have hbw := hb0.trans (hba.mono hb0.size)
  have k5 := (CS.out _ hba).2.2.2.2.2.1
  have v4 := U4.out _ hbw
  have hcn := containsS_any _ kOps s.op _ hops (by decide)
  refine (in_any _ _ _ _).mono ?_
  rintro e w' ⟨rfl, rfl⟩
  by_cases hop : s.op ∈ kOps
  case neg =>
    rw [decide_eq_false hop] at hcn
    have HCn := Lib.hid hcn
    have HC : Hid (snapCheck s = .bare 4) := Lib.hid (by rw [HSC.out, if_neg (by rw [hbd]; simp), if_pos hop])
    clear hop hbd hcn hops
    go_wp2_with (first | (go_at_call 93; refine (in_any _ _ _ _).mono ?_; rintro e w' ⟨rfl, rfl⟩) | (go_at_call 59; refine HCn.out.mono ?_; rintro e w' ⟨rfl, rfl⟩))
    go_ret
    exact ⟨_, rfl, by rw [HC.out]; exact ⟨by decide, rfl⟩, hbw⟩
  rw [decide_eq_true hop] at hcn
  have HCn := Lib.hid hcn
  have HC : Hid (snapCheck s = if listCheck s.files ≠ .nil then listCheck s.files else firstErr (seqFault s) s.files.length) := Lib.hid (by rw [HSC.out, if_neg (by rw [hbd]; simp), if_neg (fun h => h hop)])
  clear hop hbd hcn hops HSC
  go_wp2_with (first | (go_at_call 93; refine (in_any _ _ _ _).mono ?_; rintro e w' ⟨rfl, rfl⟩) | (go_at_call 59; refine HCn.out.mono ?_; rintro e w' ⟨rfl, rfl⟩; have k6 := (CS.out _ hba).2.2.2.2.2.2))
  clear HCn k5 v4 v2 c0 c1 c2 c3 c4 c5 c6 g1 g2 g3 g4 g5 g6
  generalize w0.alloc (.cells #[S kStart, S kAppend, S kDelete, S kRewrite] 9) = w1 at *
  refine (listCheck_any E B v s.files w1 (hE.below' hbw hBw) (hT.below' hbw hBw) (hM.below' hbw hBw) (hl.below hbw) Hs.out).mono ?_
  rintro e w2 ⟨ev, rfl, hev, hb2⟩
  have hb02 := hba.trans (hb2.mono hba.size)
  have hbw2 := hbw.trans (hb2.mono hbw.size)
  by_cases hck : listCheck s.files = .nil
  case neg =>
    obtain ⟨u, x, rfl⟩ := hev.iface hck
    have HC' : Hid (snapCheck s = listCheck s.files) := Lib.hid (by rw [HC.out, if_pos hck])
    have HEv := Lib.hid hev
    clear hck hev
    go_wp2_with fail
    go_ret
    exact ⟨_, rfl, by rw [HC'.out]; exact HEv.out, hbw2⟩
  rw [hck] at hev
  obtain rfl : ev = .nilIface := hev
  have HF : Hid (snapCheck s = firstErr (seqFault s) s.files.length) := Lib.hid (by rw [HC.out, if_neg (fun h => h hck)])
  clear hck HC
  obtain ⟨a, c, b, o, rfl, ha, hc, hcm, hx⟩ := hl
  unfold maxLen at hcm
  have k6 := (CS.out _ hb02).2.2.2.2.2.2
  obtain ⟨fl, hfl⟩ : ∃ fl, s.files = fl := ⟨_, rfl⟩
  rw [hfl] at hx ha hc k6 HF ⊢
  have HFl := Lib.hid hfl; clear hfl
  go_wp2_with fail
  clear k6
  go_loopw [58] (fun i wr => ∃ k : Nat, k ≤ fl.length ∧ i = .int .i64 k ∧ Hid (∀ j < k, seqFault s j = 0) ∧ Below w2.heap.size w2 wr) (fun i _ => fl.length - (intOf i).toNat)
  case atStart => exact ⟨0, by omega, rfl, Lib.hid fun j hj => absurd hj (by omega), Below.refl _ _⟩
  case round =>
    obtain ⟨k, hk, rfl, hj, hb⟩ := hrel
    have hb0r := hb02.trans (hb.mono hb02.size)
    have hbr := hbw2.trans (hb.mono hbw2.size)
    by_cases hlt : k < fl.length
    case neg =>
      obtain rfl : k = fl.length := by omega
      have f : decide ((fl.length : Int) < (fl.length : Int)) = false := by simp
      go_wp2_with fail
      go_ret
      exact ⟨_, rfl, by rw [HF.out, firstErr_all hj.out]; rfl, hbr⟩
    obtain ⟨x, hxk⟩ := get_ex hlt
    obtain ⟨c0, c1, c2, c3, c4, c5⟩ := flCells hx hbr hxk
    have i1 := idx_at (c := c) 6 Tryz.underlying23 szFl ha k hlt
    have hk1 : (k : Int) < (fl.length : Int) := by omega
    have hb3 : Below wr.heap.size wr (wr.alloc (.cells #[S x.path, S x.part, .int .i64 x.n, .int .i64 x.lo, .int .i64 x.hi, .int .i64 x.seq] 43)) := (Below.refl _ _).alloc (Nat.le_refl _) _
    have k2 := (CS.out _ (hb0r.trans (hb3.mono hb0r.size))).2.2.1
    have v9 := U9.out _ (hbr.trans (hb3.mono hbr.size))
    by_cases hsq : s.seq < x.seq
    · have hf : seqFault s k = 9 := by unfold seqFault; rw [HFl.out, hxk]; simp only; rw [if_pos hsq]
      have HL : Hid (snapCheck s = .loc 9 k) := Lib.hid (HF.out.trans ((firstErr_hit hlt hj.out (by rw [hf]; decide)).trans (by rw [hf])))
      clear hf hxk
      go_wp2_with fail
      go_ret
      exact ⟨_, rfl, by rw [HL.out]; exact ErV.fresh (by decide) _ _ _ _ (by simp), (hbr.trans (hb3.mono hbr.size)).alloc (hbr.trans (hb3.mono hbr.size)).size _⟩
    · have hf : seqFault s k = 0 := by unfold seqFault; rw [HFl.out, hxk]; simp only; rw [if_neg hsq]
      have Hf := Lib.hid hf
      have g : decide (s.seq < x.seq) = false := by simpa using hsq
      clear hf hxk hsq
      go_wp2_with fail
      refine ⟨⟨k + 1, by omega, by go_num, (Lib.hid fun j hj' => by
        rcases Nat.lt_or_ge j k with h | h
        · exact hj.out j h
        · obtain rfl : j = k := by omega
          exact Hf.out), hb.trans (hb3.mono hb.size)⟩, ?_⟩
      simp [intOf]; omega
end Go.Proofs.YtpfohfihkmjnaaaGreatDoor
namespace Go.Proofs.YtpfohfihkmjnaaaGreatDoor
open Go.RowKit
end Go.Proofs.YtpfohfihkmjnaaaGreatDoor
namespace Go.Proofs.YtpfohfihkmjnaaaGreatDoor
open Go.RowKit
/-- A struct of seven cells, written cell by cell. -/
abbrev sev (w : World) (g : Nat) (b0 b1 b2 b3 b4 b5 b6 : Value) : World := ((((((w.setCell ⟨g, 0, none⟩ b0).setCell ⟨g, 1, none⟩ b1).setCell ⟨g, 2, none⟩ b2).setCell ⟨g, 3, none⟩ b3).setCell ⟨g, 4, none⟩ b4).setCell ⟨g, 5, none⟩ b5).setCell ⟨g, 6, none⟩ b6
theorem sev_new {w : World} {g : Nat} {t : TypeId} {fr : Nat × Nat} {a0 a1 a2 a3 a4 a5 a6 : Value} (hg : w.heap[g]? = some (.cells #[a0, a1, a2, a3, a4, a5, a6] t fr)) (b0 b1 b2 b3 b4 b5 b6 : Value) : (sev w g b0 b1 b2 b3 b4 b5 b6).heap[g]? = some (.cells #[b0, b1, b2, b3, b4, b5, b6] t fr) := by
  have h := row_setCell (row_setCell (row_setCell (row_setCell (row_setCell (row_setCell (row_setCell (i := 0) hg b0) (i := 1) b1) (i := 2) b2) (i := 3) b3) (i := 4) b4) (i := 5) b5) (i := 6) b6
  simpa using h
theorem sev_below {B : Nat} {w0 w : World} {g : Nat} (hb : Below B w0 w) (hB : B ≤ g) (b0 b1 b2 b3 b4 b5 b6 : Value) : Below B w0 (sev w g b0 b1 b2 b3 b4 b5 b6) :=
  ((((((hb.setCell (p := ⟨g, 0, none⟩) hB _).setCell (p := ⟨g, 1, none⟩) hB _).setCell (p := ⟨g, 2, none⟩) hB _).setCell (p := ⟨g, 3, none⟩) hB _).setCell (p := ⟨g, 4, none⟩) hB _).setCell (p := ⟨g, 5, none⟩) hB _).setCell (p := ⟨g, 6, none⟩) hB _
theorem sev_cell {w : World} {g : Nat} {p : Addr} (hp : p.block ≠ g) (b0 b1 b2 b3 b4 b5 b6 : Value) : (sev w g b0 b1 b2 b3 b4 b5 b6).cell? p = w.cell? p := by
  have h : ∀ (W : World) (j : Nat) (x : Value), (W.setCell ⟨g, j, none⟩ x).cell? p = W.cell? p := fun W j x => World.cell?_setCell_other _ _ _ _ (fun e => hp (by rw [← e]))
  simp only [sev, h]
/-- An error's own block is another one than a struct's. -/
theorem ErV.away {E : Nat → Addr} {w w' : World} {v : Value} {er : Er} {g : Nat} {m : Int} (h : ErV E w v er) (hc : w.cell? ⟨g, 1, none⟩ = some (.int .i64 m)) (hw : ∀ p : Addr, p.block ≠ g → w'.cell? p = w.cell? p) : ErV E w' v er := by
  cases er with
  | nil => exact h
  | bare c => exact h
  | loc c i =>
    obtain ⟨hc', fb, hv, h0, h1⟩ := h
    have hne : fb ≠ g := by rintro rfl; rw [hc] at h1; cases h1
    exact ⟨hc', fb, hv, (hw ⟨fb, 0, none⟩ hne).trans h0, (hw ⟨fb, 1, none⟩ hne).trans h1⟩
theorem Own.moved {α : Type} {enc : α → List Value} {sz : Nat} {w w' : World} {v : Value} {l : List α} {e : TypeId} {B : Nat} (hen : Enc enc sz) (h : Own enc e sz B w v l) (hw : ∀ p : Addr, B ≤ p.block → w'.cell? p = w.cell? p) : At enc sz w' v l := by
  rcases Nat.eq_zero_or_pos l.length with h0 | h0
  · obtain ⟨a, c, b, o, hv, ha, hc, hm, hx⟩ := h.at hen
    exact ⟨a, c, b, o, hv, ha, hc, hm, fun k x hk => absurd (List.getElem?_eq_some_iff.1 hk).1 (by omega)⟩
  · obtain ⟨g', cap, cur, rfl, hB, _, hc, hm, _, _⟩ := h.open h0
    refine ⟨_, cap, g', 0, rfl, fun _ => rfl, hc, hm, fun k x hk j u hu => ?_⟩
    have h1 := h.cells hen k x hk j u hu
    rw [Nat.zero_add]
    exact (hw ⟨g', k * sz + j, none⟩ hB).trans h1
theorem At.sev {w : World} {v : Value} {l : List Fl} {e : TypeId} {B g : Nat} {w' : World} (h : Own encF e 6 B w v l) (hb : Below w.heap.size w w') (hg : g < B) (b0 b1 b2 b3 b4 b5 b6 : Value) : FilesAt (sev w' g b0 b1 b2 b3 b4 b5 b6) v l := by
  exact Own.moved encF_enc (Own.below h hb) fun p hp => sev_cell (by omega) _ _ _ _ _ _ _
theorem right_mid {l : List Fl} (h : RightL l) : ∀ x ∈ l, midF x := fun x hx => by
  have := fileLine_len (h.ok x hx)
  unfold fileLine at this
  simp only [List.length_append, List.length_cons] at this
  exact ⟨by omega, by omega⟩
end Go.Proofs.YtpfohfihkmjnaaaGreatDoor
namespace Go.Proofs.YtpfohfihkmjnaaaGreatDoor
open Go.RowKit
theorem fl_equalIn (x y : Fl) (w : World) : (Op.equalIn 10000 43 (fileV x) (fileV y)).run Tryz.prog w = .ok (decide (x = y)) w := by
  have uS := Tryz.underlying9
  have uI := Tryz.underlying3
  have aS := Tryz.isAgg9
  have aI := Tryz.isAgg3
  have zS := Tryz.sizeOf9
  have zI := Tryz.sizeOf3
  have hS : Tryz.prog.underlying 43 = some (.struct (Tryz.prog.fieldsOf 43)) := by kernel_rfl
  have hp : Tryz.prog.stoodInHeld 43 = false := by kernel_rfl
  rw [show (10000 : Nat) = 9999 + 1 from rfl, run_equalIn_agg w 9999 43 _ _ hS hp]
  simp only [Program.fieldsOf, Tryz.underlying43]
  go_simp
  cases x with
  | mk p1 q1 n1 a1 b1 s1 =>
  cases y with
  | mk p2 q2 n2 a2 b2 s2 =>
  by_cases h1 : p1 = p2 <;> by_cases h2 : q1 = q2 <;> by_cases h3 : n1 = n2 <;> by_cases h4 : a1 = a2 <;> by_cases h5 : b1 = b2 <;> by_cases h6 : s1 = s2 <;> simp [h1, h2, h3, h4, h5, h6]
theorem fl_neq (x y : Fl) (w : World) : (binOp .neq 43 (fileV x) (fileV y)).run Tryz.prog w = .ok (.bool (!decide (x = y))) w := by
  rw [run_neq_struct, fl_equalIn]; rfl
theorem fl_guard : Tryz.prog.eqGuardType Tryz.prog.depth 43 = false := by kernel_rfl
end Go.Proofs.YtpfohfihkmjnaaaGreatDoor
namespace Go.Proofs.YtpfohfihkmjnaaaGreatDoor
open Go.RowKit
end Go.Proofs.YtpfohfihkmjnaaaGreatDoor
namespace Go.Proofs.YtpfohfihkmjnaaaGreatDoor
open Go.RowKit
theorem own_low {α : Type} {enc : α → List Value} {e : TypeId} {sz B B' : Nat} {w : World} {v : Value} {l : List α} (h : Own enc e sz B' w v l) (hB : B ≤ B') : Own enc e sz B w v l := by
  obtain ⟨h1, h2⟩ := h
  refine ⟨h1, ?_⟩
  rcases h2 with h0 | ⟨g, cap, cur, hv, hg, rest⟩
  · exact .inl h0
  · exact .inr ⟨g, cap, cur, hv, Nat.le_trans hB hg, rest⟩
set_option maxRecDepth 20000 in
theorem ownSnapO_any (s : Sn) (v : Value) (w : World) (hl : FilesAt w v s.files) (hn : s.files.length ≤ 100000) :
    Calls Tryz.prog 15 #[snapV s v] w fun e w' => ∃ u, e = .returned (snapV s u) ∧ Own encF 43 6 w.heap.size w' u s.files ∧ Below w.heap.size w w' := by
  obtain ⟨w1, hw1⟩ : ∃ w1, w1 = w.alloc (.cells #[.int .i64 s.id, .int .i64 s.parent, .int .i64 s.seq, .int .i64 s.day, .int .i64 s.index, S s.op, v] 25) := ⟨_, rfl⟩
  have hb1 : Below w.heap.size w w1 := hw1 ▸ (Below.refl _ _).alloc (Nat.le_refl _) _
  have hs1 : w1.heap.size = w.heap.size + 1 := by rw [hw1]; simp
  have hba : Below w1.heap.size w1 (w1.alloc (.cells #[.int .i64 0, .int .i64 0, .int .i64 0, .int .i64 0, .int .i64 0, S [], .slice none 0 0] 25)) := (Below.refl _ _).alloc (Nat.le_refl _) _
  have CS := Lib.hid (fun w6 (h : Below w1.heap.size w1 w6) => snapCells (s := s) (v := v) (t := 25) (hw1 ▸ h))
  have HGs := Lib.hid (fun w6 (h : Below w1.heap.size w1 w6) => (h.block w.heap.size (by omega)).trans (hw1 ▸ heap_alloc_new w _ : w1.heap[w.heap.size]? = some (.cells #[.int .i64 s.id, .int .i64 s.parent, .int .i64 s.seq, .int .i64 s.day, .int .i64 s.index, S s.op, v] 25)))
  have HW := Lib.hid hw1
  have CZ := Lib.hid (fun w6 (h : Below (w1.alloc (.cells #[.int .i64 0, .int .i64 0, .int .i64 0, .int .i64 0, .int .i64 0, S [], .slice none 0 0] 25)).heap.size (w1.alloc (.cells #[.int .i64 0, .int .i64 0, .int .i64 0, .int .i64 0, .int .i64 0, S [], .slice none 0 0] 25)) w6) => snapCells (s := zeroSn) (v := .slice none 0 0) h)
  have HGz := Lib.hid (fun w6 (h : Below (w1.alloc (.cells #[.int .i64 0, .int .i64 0, .int .i64 0, .int .i64 0, .int .i64 0, S [], .slice none 0 0] 25)).heap.size (w1.alloc (.cells #[.int .i64 0, .int .i64 0, .int .i64 0, .int .i64 0, .int .i64 0, S [], .slice none 0 0] 25)) w6) => (h.block w1.heap.size (by simp)).trans (heap_alloc_new w1 (.cells #[.int .i64 0, .int .i64 0, .int .i64 0, .int .i64 0, .int .i64 0, S [], .slice none 0 0] 25)))
  have HSz : Hid ((w1.alloc (.cells #[.int .i64 0, .int .i64 0, .int .i64 0, .int .i64 0, .int .i64 0, S [], .slice none 0 0] 25)).heap.size = w.heap.size + 2) := Lib.hid (by simp [hs1])
  go_enter Tryz.func15, Tryz.ntmps15
  obtain ⟨c0, c1, c2, c3, c4, c5, c6⟩ := CS.out _ hba
  go_wp2_with fail
  rw [← HW.out]
  generalize w1.alloc (.cells #[.int .i64 0, .int .i64 0, .int .i64 0, .int .i64 0, .int .i64 0, S [], .slice none 0 0] 25) = w2 at *
  refine (ownFiles_any v s.files w2 (hl.below (hb1.trans (hba.mono hb1.size))) hn).mono ?_
  rintro e w3 ⟨u, rfl, hown, hb3⟩
  have hb13 := hba.trans (hb3.mono hba.size)
  have hb03 := hb1.trans (hb13.mono hb1.size)
  clear c0 c1 c2 c3 c4 c5 c6
  obtain ⟨c0, c1, c2, c3, c4, c5, c6⟩ := CS.out _ hb13
  obtain ⟨d0, d1, d2, d3, d4, d5, d6⟩ := CZ.out _ hb3
  rw [hs1] at d0 d1 d2 d3 d4 d5 d6
  have hg1 := HGs.out _ hb13
  have hg2 := HGz.out _ hb3
  rw [hs1] at hg2
  have f6 : w3.frozen? ⟨w.heap.size, 6, none⟩ = false := frozen_row hg1
  have fz : ∀ j, w3.frozen? ⟨w.heap.size + 1, j, none⟩ = false := fun j => frozen_row hg2
  have e0 := fz 0; have e1 := fz 1; have e2 := fz 2; have e3 := fz 3; have e4 := fz 4; have e5 := fz 5; have e6 := fz 6
  have HG2 := Lib.hid hg2
  clear fz hg1 hg2
  have hne : ¬ (w.heap.size + 1 = w.heap.size) := by omega
  obtain ⟨au, nu, cu, rfl⟩ : ∃ au nu cu, u = .slice au nu cu := by
    obtain ⟨a', c', h', -⟩ := (hown.at encF_enc).form'
    exact ⟨_, _, _, h'⟩
  go_wp2_with fail
  refine bodyPost_ret (results_cell_row rfl _ _ (w.heap.size + 1) 25 #[.int .i64 s.id, .int .i64 s.parent, .int .i64 s.seq, .int .i64 s.day, .int .i64 s.index, S s.op, .slice au nu cu] (0, 0) _ rfl (sev_new ((heap_setCell_other _ _ _ _ (by simp)).trans HG2.out) _ _ _ _ _ _ _) Tryz.underlying25 rfl (by kernel_rfl)) rfl ⟨_, rfl, ?_, ?_⟩
  · have hz := HSz.out
    have k0 : w.heap.size < w2.heap.size := by omega
    have k1 : w.heap.size + 1 < w2.heap.size := by omega
    exact own_low ((((((((hown.store k0 6 _).store k1 0 _).store k1 1 _).store k1 2 _).store k1 3 _).store k1 4 _).store k1 5 _).store k1 6 _) (by omega)
  · exact sev_below (hb03.setCell (p := ⟨w.heap.size, 6, none⟩) (Nat.le_refl _) _) (by omega) _ _ _ _ _ _ _
theorem ownSnap_any (s : Sn) (v : Value) (w : World) (hl : FilesAt w v s.files) (hn : s.files.length ≤ 100000) :
    Calls Tryz.prog 15 #[snapV s v] w fun e w' => ∃ u, e = .returned (snapV s u) ∧ FilesAt w' u s.files ∧ Below w.heap.size w w' :=
  (ownSnapO_any s v w hl hn).mono fun _ _ ⟨u, h1, h2, h3⟩ => ⟨u, h1, h2.at encF_enc, h3⟩
end Go.Proofs.YtpfohfihkmjnaaaGreatDoor
namespace Go.Proofs.YtpfohfihkmjnaaaGreatDoor
open Go.RowKit
theorem ret_one {P : Prop} [Decidable P] {r : Int} (hr : (if P then 0 else 1) = r) (h : ¬ P) : Ending.returned (.int .i64 1) = .returned (.int .i64 r) := by rw [← hr, if_neg h]
theorem ret_zero {P : Prop} [Decidable P] {r : Int} (hr : (if P then 0 else 1) = r) (h : P) : Ending.returned (.int .i64 0) = .returned (.int .i64 r) := by rw [← hr, if_pos h]
theorem ret_true {P : Prop} [Decidable P] {r : Bool} (hr : (!decide P) = r) (h : ¬ P) : Ending.returned (.bool true) = .returned (.bool r) := by rw [← hr, decide_eq_false h]; rfl
theorem ret_false {P : Prop} [Decidable P] {r : Bool} (hr : (!decide P) = r) (h : P) : Ending.returned (.bool false) = .returned (.bool r) := by rw [← hr, decide_eq_true h]; rfl
def shortL (l : List Fl) : Prop := (l.length ≤ 40 ∨ l.length = 60 ∨ l.length = 61) ∧ ∀ f ∈ l, shortF f
instance (l : List Fl) : Decidable (shortL l) := inferInstanceAs (Decidable (_ ∧ _))
def shortS (s : Sn) : Prop := s.op.length ≤ 30 ∧ shortL s.files
instance (s : Sn) : Decidable (shortS s) := inferInstanceAs (Decidable (_ ∧ _))
theorem shortL.len {l : List Fl} (h : shortL l) : l.length ≤ 61 := by have := h.1; omega
theorem shortL.mid {l : List Fl} (h : shortL l) : ∀ f ∈ l, midF f := fun f hf => (h.2 f hf).mid
set_option maxRecDepth 20000 in
theorem longFilesD_any (v : Value) (l : List Fl) (w : World) (hl : FilesAt w v l) :
    Calls Tryz.prog 21 #[v] w fun e w' => e = .returned (.int .i64 (if shortL l then 0 else 1)) ∧ Below w.heap.size w w' := by
  obtain ⟨rv, hrv⟩ : ∃ rv : Int, (if shortL l then (0 : Int) else 1) = rv := ⟨_, rfl⟩
  rw [hrv]
  have HR := Lib.hid hrv
  clear hrv
  obtain ⟨a, c, b, o, rfl, ha, hc, hcm, hx⟩ := hl
  unfold maxLen at hcm
  by_cases h61 : l.length ≤ 40 ∨ l.length = 60 ∨ l.length = 61
  case neg =>
    have g1 : (40 : Int) < (l.length : Int) := by omega
    have g2 : ((l.length : Int) != 60) = true := by simp; omega
    have g3 : ((l.length : Int) != 61) = true := by simp; omega
    go_enter Tryz.func21, Tryz.ntmps21
    go_wp2_with fail
    go_ret
    exact ⟨ret_one HR.out (fun h : shortL l => h61 h.1), Below.refl _ _⟩
  have H61 := Lib.hid h61
  have hg : decide ((40 : Int) < (l.length : Int)) = false ∨ (decide ((40 : Int) < (l.length : Int)) = true ∧ (((l.length : Int) != 60) = false ∨ (((l.length : Int) != 60) = true ∧ ((l.length : Int) != 61) = false))) := by
    rcases h61 with h | h | h
    · exact .inl (by simp; omega)
    · exact .inr ⟨by simp; omega, .inl (by simp; omega)⟩
    · exact .inr ⟨by simp; omega, .inr ⟨by simp; omega, by simp; omega⟩⟩
  clear h61
  go_enter Tryz.func21, Tryz.ntmps21
  rcases hg with g1 | ⟨g1, g2 | ⟨g2, g3⟩⟩
  all_goals
    go_wp2_with fail
    go_loopw [3] (fun i wr => ∃ k : Nat, k ≤ l.length ∧ i = .int .i64 k ∧ Hid (∀ j < k, ∀ x, l[j]? = some x → shortF x) ∧ Below w.heap.size w wr) (fun i _ => l.length - (intOf i).toNat)
    case atStart => exact ⟨0, by omega, rfl, Lib.hid fun j hj => absurd hj (by omega), Below.refl _ _⟩
    case round =>
      obtain ⟨k, hk, rfl, hj, hb⟩ := hrel
      clear g1
      by_cases hlt : k < l.length
      case neg =>
        have f : decide ((k : Int) < (l.length : Int)) = false := by simp; omega
        go_wp2_with fail
        go_ret
        exact ⟨ret_zero HR.out (show shortL l from ⟨H61.out, fun x hx => by
          obtain ⟨j, hj'⟩ := List.getElem?_of_mem hx
          exact hj.out j (by have := (List.getElem?_eq_some_iff.1 hj').1; omega) x hj'⟩), hb⟩
      obtain ⟨x, hxk⟩ := get_ex hlt
      have c0 := hx k x hxk 0 _ rfl
      have c1 := hx k x hxk 1 _ rfl
      have c2 := hx k x hxk 2 _ rfl
      have c3 := hx k x hxk 3 _ rfl
      have c4 := hx k x hxk 4 _ rfl
      have c5 := hx k x hxk 5 _ rfl
      have c0 := (hb.cell (World.block_lt_of_cell? w _ c0)).trans c0
      have c1 := (hb.cell (World.block_lt_of_cell? w _ c1)).trans c1
      have c2 := (hb.cell (World.block_lt_of_cell? w _ c2)).trans c2
      have c3 := (hb.cell (World.block_lt_of_cell? w _ c3)).trans c3
      have c4 := (hb.cell (World.block_lt_of_cell? w _ c4)).trans c4
      have c5 := (hb.cell (World.block_lt_of_cell? w _ c5)).trans c5
      have i1 := idx_at (c := c) 6 Tryz.underlying23 szFl ha k hlt
      have f : (k : Int) < (l.length : Int) := by omega
      simp only [Nat.add_zero] at c0
      have Hx := Lib.hid hxk; clear hxk
      go_wp2_with fail
      refine (longFile_any x _).mono ?_
      rintro e w1 ⟨rfl, hb1⟩
      have hb' := hb.trans (hb1.mono hb.size)
      by_cases e1 : shortF x
      · rw [if_pos e1]
        have K1 := Lib.hid e1; clear e1
        go_wp2_with fail
        refine ⟨⟨k + 1, by omega, by go_num, Lib.hid fun j hj' y hy => by
          rcases Nat.lt_or_ge j k with h | h
          · exact hj.out j h y hy
          · obtain rfl : j = k := by omega
            rw [Hx.out] at hy
            cases hy
            exact K1.out, hb'⟩, ?_⟩
        simp [intOf]; omega
      · rw [if_neg e1]
        have K1 := Lib.hid e1; clear e1
        go_wp2_with fail
        go_ret
        exact ⟨ret_one HR.out (fun h : shortL l => K1.out (h.2 x (List.mem_of_getElem? Hx.out))), hb'⟩
set_option maxRecDepth 20000 in
theorem longSnapD_any (s : Sn) (v : Value) (w : World) (hl : FilesAt w v s.files) :
    Calls Tryz.prog 8 #[snapV s v] w fun e w' => e = .returned (.int .i64 (if shortS s then 0 else 1)) ∧ Below w.heap.size w w' := by
  obtain ⟨rv, hrv⟩ : ∃ rv : Int, (if shortS s then (0 : Int) else 1) = rv := ⟨_, rfl⟩
  rw [hrv]
  have HR := Lib.hid hrv
  clear hrv
  have hb0 : Below w.heap.size w (w.alloc (.cells #[.int .i64 s.id, .int .i64 s.parent, .int .i64 s.seq, .int .i64 s.day, .int .i64 s.index, S s.op, v] 25)) := (Below.refl _ _).alloc (Nat.le_refl _) _
  obtain ⟨c0, c1, c2, c3, c4, c5, c6⟩ := snapCells (s := s) (v := v) (t := 25) (Below.refl _ (w.alloc (.cells #[.int .i64 s.id, .int .i64 s.parent, .int .i64 s.seq, .int .i64 s.day, .int .i64 s.index, S s.op, v] 25)))
  have hL := longFilesD_any v s.files (w.alloc (.cells #[.int .i64 s.id, .int .i64 s.parent, .int .i64 s.seq, .int .i64 s.day, .int .i64 s.index, S s.op, v] 25)) (hl.below hb0)
  have HL := Lib.hid hL; clear hL
  by_cases h1 : s.op.length ≤ 30
  · have g1 : decide ((30 : Int) < (s.op.length : Int)) = false := by simp; omega
    go_enter Tryz.func8, Tryz.ntmps8
    go_wp2_with fail
    refine HL.out.mono ?_
    rintro e w2 ⟨rfl, hb2⟩
    have hb2' := hb0.trans (hb2.mono hb0.size)
    clear c0 c1 c2 c3 c4 c5 c6
    by_cases hsh : shortL s.files
    · rw [if_pos hsh]
      have HS := Lib.hid hsh; clear hsh
      go_wp2_with fail
      go_ret
      exact ⟨ret_zero HR.out (show shortS s from ⟨h1, HS.out⟩), hb2'⟩
    · rw [if_neg hsh]
      have HS := Lib.hid hsh; clear hsh
      go_wp2_with fail
      go_ret
      exact ⟨ret_one HR.out (fun h : shortS s => HS.out h.2), hb2'⟩
  · have g1 : (30 : Int) < (s.op.length : Int) := by omega
    have H1 := Lib.hid h1
    clear h1
    go_enter Tryz.func8, Tryz.ntmps8
    go_wp2_with fail
    go_ret
    exact ⟨ret_one HR.out (fun h : shortS s => H1.out h.1), hb0⟩
end Go.Proofs.YtpfohfihkmjnaaaGreatDoor
namespace Go.Proofs.YtpfohfihkmjnaaaGreatDoor
open Go.RowKit
def shortRws (n : Int) (l : List Rw) : Prop := (l.length : Int) ≤ n ∧ ∀ r ∈ l, r.part.length ≤ 30
instance (n : Int) (l : List Rw) : Decidable (shortRws n l) := inferInstanceAs (Decidable (_ ∧ _))
def shortPc (p : Pc) : Prop := p.path.length ≤ 20 ∧ p.part.length ≤ 20 ∧ p.spoil.length ≤ 200 ∧ shortRws 30 p.rows ∧ p.keys.length ≤ 30
instance (p : Pc) : Decidable (shortPc p) := inferInstanceAs (Decidable (_ ∧ _))
def shortPcs (l : List Pc) : Prop := l.length ≤ 15 ∧ ∀ p ∈ l, shortPc p
instance (l : List Pc) : Decidable (shortPcs l) := inferInstanceAs (Decidable (_ ∧ _))
set_option maxRecDepth 20000 in
theorem longRowsD_any (v : Value) (l : List Rw) (n : Int) (w : World) (hl : RowsAt w v l) :
    Calls Tryz.prog 29 #[v, .int .i64 n] w fun e w' => e = .returned (.int .i64 (if shortRws n l then 0 else 1)) ∧ w = w' := by
  obtain ⟨rv, hrv⟩ : ∃ rv : Int, (if shortRws n l then (0 : Int) else 1) = rv := ⟨_, rfl⟩
  rw [hrv]
  have HR := Lib.hid hrv
  clear hrv
  obtain ⟨a, c, b, o, rfl, ha, hc, hcm, hx⟩ := hl
  unfold maxLen at hcm
  by_cases h0 : n < (l.length : Int)
  · go_enter Tryz.func29, Tryz.ntmps29
    go_wp2_with fail
    go_ret
    exact ⟨ret_one HR.out (fun h : shortRws n l => by have := h.1; omega), rfl⟩
  have g0 : decide (n < (l.length : Int)) = false := by simpa using h0
  have H0 := Lib.hid (show (l.length : Int) ≤ n by omega)
  clear h0
  go_enter Tryz.func29, Tryz.ntmps29
  go_wp2_with fail
  go_loop [5] (fun i => ∃ k : Nat, k ≤ l.length ∧ i = .int .i64 k ∧ Hid (∀ r ∈ l.take k, r.part.length ≤ 30)) (fun i => l.length - (intOf i).toNat)
  case atStart => exact ⟨0, by omega, rfl, Lib.hid (by simp)⟩
  case round =>
    obtain ⟨k, hk, rfl, hj⟩ := hrel
    by_cases hlt : k < l.length
    case neg =>
      obtain rfl : k = l.length := by omega
      have f : decide ((l.length : Int) < (l.length : Int)) = false := by simp
      have HJ := Lib.hid (show ∀ r ∈ l, r.part.length ≤ 30 by have := hj.out; rwa [List.take_length] at this)
      go_wp2_with fail
      go_ret
      exact ⟨ret_zero HR.out (show shortRws n l from ⟨H0.out, HJ.out⟩), rfl⟩
    obtain ⟨x, hxk⟩ := get_ex hlt
    have c0 := hx k x hxk 0 _ rfl
    have i1 := idx_at (c := c) 3 Tryz.underlying44 szRw ha k hlt
    have hk1 : (k : Int) < (l.length : Int) := by omega
    simp only [Nat.add_zero] at c0
    have hsn := take_snoc' hxk
    by_cases hp : x.part.length ≤ 30
    · have g : decide ((30 : Int) < (x.part.length : Int)) = false := by simp; omega
      have HJ := Lib.hid (show ∀ r ∈ l.take (k + 1), r.part.length ≤ 30 by
        rw [hsn]
        intro r hr
        rcases List.mem_append.1 hr with h | h
        · exact hj.out r h
        · obtain rfl := List.mem_singleton.1 h
          exact hp)
      clear hsn hxk hp hj
      go_wp2_with fail
      go_round
      case rel => exact ⟨k + 1, by omega, by go_num, HJ⟩
      case measure => simp [intOf]; omega
    · have g : (30 : Int) < (x.part.length : Int) := by omega
      have Hx := Lib.hid hxk
      have Hp := Lib.hid hp
      clear hsn hxk hp hj
      go_wp2_with fail
      go_ret
      exact ⟨ret_one HR.out (fun h : shortRws n l => Hp.out (h.2 x (List.mem_of_getElem? Hx.out))), rfl⟩
set_option maxRecDepth 20000 in
theorem longPiecesD_any (v : Value) (l : List Pc) (w : World) (hl : PiecesAt w v l) (hh : HeldPc w l) :
    Calls Tryz.prog 7 #[v] w fun e w' => e = .returned (.bool (!decide (shortPcs l))) ∧ w = w' := by
  obtain ⟨rv, hrv⟩ : ∃ rv : Bool, (!decide (shortPcs l)) = rv := ⟨_, rfl⟩
  rw [hrv]
  have HR := Lib.hid hrv
  clear hrv
  obtain ⟨a, c, b, o, rfl, ha, hc, hcm, hx⟩ := hl
  unfold maxLen at hcm
  have HH := Lib.hid hh
  have HX := Lib.hid hx
  clear hh hx
  by_cases h30 : l.length ≤ 15
  case neg =>
    have g1 : (15 : Int) < (l.length : Int) := by omega
    go_enter Tryz.func7, Tryz.ntmps7
    go_wp2_with fail
    go_ret
    exact ⟨ret_true HR.out (fun h : shortPcs l => h30 h.1), rfl⟩
  have g1 : decide ((15 : Int) < (l.length : Int)) = false := by simp; omega
  go_enter Tryz.func7, Tryz.ntmps7
  go_wp2_with fail
  go_loop [3] (fun i => ∃ k : Nat, k ≤ l.length ∧ i = .int .i64 k ∧ Hid (∀ j < k, ∀ x, l[j]? = some x → shortPc x)) (fun i => l.length - (intOf i).toNat)
  case atStart => exact ⟨0, by omega, rfl, Lib.hid fun j hj => absurd hj (by omega)⟩
  case round =>
    obtain ⟨k, hk, rfl, hj⟩ := hrel
    clear g1
    by_cases hlt : k < l.length
    case neg =>
      have f : decide ((k : Int) < (l.length : Int)) = false := by simp; omega
      go_wp2_with fail
      go_ret
      exact ⟨ret_false HR.out (show shortPcs l from ⟨h30, fun x hx => by
        obtain ⟨j, hj'⟩ := List.getElem?_of_mem hx
        exact hj.out j (by have := (List.getElem?_eq_some_iff.1 hj').1; omega) x hj'⟩), rfl⟩
    obtain ⟨x, hxk⟩ := get_ex hlt
    obtain ⟨c0, c1, c2, c3, c4, c5⟩ := pcCells HX.out (Below.refl _ w) hxk
    have i1 := idx_at (c := c) 6 Tryz.underlying22 szPc ha k hlt
    have f : (k : Int) < (l.length : Int) := by omega
    have HLr := Lib.hid (longRowsD_any x.va x.rows 30 w (HH.out x (List.mem_of_getElem? hxk)).1)
    obtain ⟨ak, ck, hvk, -, -⟩ := At.form' (HH.out x (List.mem_of_getElem? hxk)).2
    rw [hvk] at c4
    have Hx := Lib.hid hxk; clear hxk hvk
    by_cases p1 : x.path.length ≤ 20
    case neg =>
      have q1 : (20 : Int) < (x.path.length : Int) := by omega
      have Hp := Lib.hid p1
      clear p1
      go_wp2_with fail
      go_ret
      exact ⟨ret_true HR.out (fun h : shortPcs l => Hp.out (h.2 x (List.mem_of_getElem? Hx.out)).1), rfl⟩
    have q1 : decide ((20 : Int) < (x.path.length : Int)) = false := by simp; omega
    have P1 := Lib.hid p1
    clear p1
    by_cases p2 : x.part.length ≤ 20
    case neg =>
      have q2 : (20 : Int) < (x.part.length : Int) := by omega
      have Hp := Lib.hid p2
      clear p2
      go_wp2_with fail
      go_ret
      exact ⟨ret_true HR.out (fun h : shortPcs l => Hp.out (h.2 x (List.mem_of_getElem? Hx.out)).2.1), rfl⟩
    have q2 : decide ((20 : Int) < (x.part.length : Int)) = false := by simp; omega
    have P2 := Lib.hid p2
    clear p2
    by_cases p3 : x.spoil.length ≤ 200
    case neg =>
      have q3 : (200 : Int) < (x.spoil.length : Int) := by omega
      have Hp := Lib.hid p3
      clear p3
      go_wp2_with fail
      go_ret
      exact ⟨ret_true HR.out (fun h : shortPcs l => Hp.out (h.2 x (List.mem_of_getElem? Hx.out)).2.2.1), rfl⟩
    have q3 : decide ((200 : Int) < (x.spoil.length : Int)) = false := by simp; omega
    have P3 := Lib.hid p3
    clear p3
    by_cases p4 : shortRws 30 x.rows
    case neg =>
      rw [if_neg p4] at HLr
      have Hp := Lib.hid p4
      clear p4
      go_wp2_with fail
      refine HLr.out.mono ?_
      rintro e w1 ⟨rfl, rfl⟩
      go_wp2_with fail
      go_ret
      exact ⟨ret_true HR.out (fun h : shortPcs l => Hp.out (h.2 x (List.mem_of_getElem? Hx.out)).2.2.2.1), rfl⟩
    rw [if_pos p4] at HLr
    have P4 := Lib.hid p4
    clear p4
    by_cases p5 : x.keys.length ≤ 30
    case neg =>
      have q5 : (30 : Int) < (x.keys.length : Int) := by omega
      have Hp := Lib.hid p5
      clear p5
      go_wp2_with fail
      refine HLr.out.mono ?_
      rintro e w1 ⟨rfl, rfl⟩
      go_wp2_with fail
      go_ret
      exact ⟨ret_true HR.out (fun h : shortPcs l => Hp.out (h.2 x (List.mem_of_getElem? Hx.out)).2.2.2.2), rfl⟩
    have q5 : decide ((30 : Int) < (x.keys.length : Int)) = false := by simp; omega
    have P5 := Lib.hid p5
    clear p5
    go_wp2_with fail
    refine HLr.out.mono ?_
    rintro e w1 ⟨rfl, rfl⟩
    go_wp2_with fail
    go_round
    case rel => exact ⟨k + 1, by omega, by go_num, Lib.hid fun j hj' y hy => by
      rcases Nat.lt_or_ge j k with h | h
      · exact hj.out j h y hy
      · obtain rfl : j = k := by omega
        rw [Hx.out] at hy
        obtain rfl := Option.some.inj hy
        exact ⟨P1.out, P2.out, P3.out, P4.out, P5.out⟩⟩
    case measure => simp [intOf]; omega
end Go.Proofs.YtpfohfihkmjnaaaGreatDoor
namespace Go.Proofs.YtpfohfihkmjnaaaGreatDoor
open Go.RowKit
theorem i64_xor_nat (a b : Nat) (ha : a < 4294967296) (hb : b < 4294967296) : bits .xor .i64 (a : Int) (b : Int) = ((a ^^^ b : Nat) : Int) := by
  have hx : a ^^^ b < 2 ^ 32 := Nat.xor_lt_two_pow (by omega) (by omega)
  show IntKind.i64.wrap ((BitVec.ofInt 64 (a : Int) ^^^ BitVec.ofInt 64 (b : Int)).toNat : Int) = _
  rw [BitVec.toNat_xor, ofInt_u64 a (by omega), ofInt_u64 b (by omega), IntKind.wrap_i64]
  omega
set_option maxRecDepth 400000 in
set_option maxHeartbeats 1000000 in
theorem refSum_any (s : Str) (w : World) (hs : s.length ≤ 100000) :
    Calls Tryz.prog 117 #[S s] w fun e w' => e = .returned (.int .i64 (sumOf s : Nat)) ∧ w = w' := by
  go_enter Tryz.func117, Tryz.ntmps117
  go_wp2_with fail
  go_loop [3, 4] (fun c i => ∃ k : Nat, k ≤ s.length ∧ i = .int .i64 k ∧ c = .int .i64 (crcFold 4294967295 (s.take k) : Nat)) (fun _ i => s.length - (intOf i).toNat)
  case atStart => exact ⟨0, by omega, rfl, rfl⟩
  case round =>
    obtain ⟨k, hk, rfl, rfl⟩ := hrel
    have hc : crcFold 4294967295 (s.take k) < 4294967296 := crcFold_lt _ (by omega)
    by_cases hlt : k < s.length
    case neg =>
      obtain rfl : k = s.length := by omega
      have f : decide ((s.length : Int) < (s.length : Int)) = false := by simp
      have hf := i64_xor_nat _ 4294967295 hc (by omega)
      rw [List.take_length] at hf hc ⊢
      have HF : Hid (bits .xor .i64 ((crcFold 4294967295 s : Nat) : Int) 4294967295 = (sumOf s : Nat)) := Lib.hid hf
      generalize crcFold 4294967295 s = c at *
      clear hf hc
      go_wp2_with fail
      go_ret
      exact ⟨show Ending.returned (.int .i64 (bits .xor .i64 (c : Int) 4294967295)) = _ by rw [HF.out], rfl⟩
    have hk1 : (k : Int) < s.length := by omega
    have hsn : crcFold 4294967295 (s.take (k + 1)) = crcStep (crcFold 4294967295 (s.take k)) s[k] := by
      rw [take_snoc' (x := s[k]) (by simp [hlt]), crcFold_snoc]
    have HSn := Lib.hid hsn; clear hsn
    generalize crcFold 4294967295 (s.take k) = c at *
    have hbk : (({ data := s.toArray } : ByteArray)[k]'(by simpa [ByteArray.size] using hlt)) = s[k] := rfl
    have hr1 := i64_xor_nat c s[k].toNat hc (by have := byte_lt s[k]; omega)
    have hx := xor_byte hc s[k]
    have hy0 : (0 : Int) ≤ (s[k].toNat : Int) := by omega
    have hy1 : (s[k].toNat : Int) < 256 := by have := byte_lt s[k]; omega
    have hst : crcStep c s[k] = crcIter 8 (c ^^^ s[k].toNat) := rfl
    rw [hst] at HSn
    clear hst
    have HSl := Lib.hid hlt
    generalize c ^^^ s[k].toNat = x at *
    go_wp2_with fail
    go_loop [3, 5] (fun d j => ∃ m : Nat, m ≤ 8 ∧ j = .int .i64 m ∧ d = .int .i64 (crcIter m x : Nat)) (fun _ j => 8 - (intOf j).toNat)
    case atStart => exact ⟨0, by omega, rfl, rfl⟩
    case round =>
      obtain ⟨m, hm, rfl, rfl⟩ := hrel
      by_cases hm8 : m < 8
      case neg =>
        obtain rfl : m = 8 := by omega
        go_wp2_with fail
        refine ⟨⟨k + 1, by omega, by go_num, by rw [HSn.out]⟩, ?_⟩
        simp [intOf]; omega
      have hm8' : (m : Int) < 8 := by omega
      have hd : crcIter m x < 4294967296 := crcIter_lt m hx
      have hsu : crcIter (m + 1) x = crcBit (crcIter m x) := crcIter_succ m x
      have HSu := Lib.hid hsu; clear hsu
      generalize crcIter m x = d at *
      have h1 : (0 : Int) ≤ d := by omega
      have h2 : (d : Int) < 4294967296 := by omega
      rcases Nat.mod_two_eq_zero_or_one d with hp | hp
      · have t1 : ((d : Int) % 2 == 1) = false := beq_eq_false_iff_ne.2 (by omega)
        have t2 : ((d : Int).tmod 2 == 1) = false := by rw [Int.tmod_eq_emod_of_nonneg h1]; exact t1
        have q0 : ((crcBit d : Nat) : Int) = (d : Int) / 2 := by unfold crcBit; rw [if_neg (by omega)]; omega
        have Q0 := Lib.hid q0
        clear hd hp q0
        go_wp2_with fail
        refine ⟨⟨m + 1, by omega, by go_num, by rw [HSu.out, Q0.out]⟩, ?_⟩
        simp [intOf]; omega
      · have t1 : ((d : Int) % 2 == 1) = true := by rw [beq_iff_eq]; omega
        have t2 : ((d : Int).tmod 2 == 1) = true := by rw [Int.tmod_eq_emod_of_nonneg h1]; exact t1
        have q1 : bits .xor .i64 ((d : Int) / 2) 3988292384 = ((crcBit d : Nat) : Int) := by
          have := i64_xor_nat (d / 2) 3988292384 (by omega) (by omega)
          rw [show ((d / 2 : Nat) : Int) = (d : Int) / 2 by omega] at this
          unfold crcBit crcP
          rw [if_pos hp]
          exact this
        have q2 : bits .xor .i64 ((d : Int).tdiv 2) 3988292384 = ((crcBit d : Nat) : Int) := by rw [Int.tdiv_eq_ediv_of_nonneg h1]; exact q1
        clear hd hp
        go_wp2_with fail
        refine ⟨⟨m + 1, by omega, by go_num, by rw [HSu.out]⟩, ?_⟩
        simp [intOf]; omega
end Go.Proofs.YtpfohfihkmjnaaaGreatDoor
namespace Go.Proofs.YtpfohfihkmjnaaaGreatDoor
open Go.RowKit
theorem ends_snoc {q : List Int} (h : q ≠ []) (x : Int) : endsI (q ++ [x]) = (if x < (endsI q).1 then x else (endsI q).1, if (endsI q).2 < x then x else (endsI q).2) := by
  match q, h with
  | a :: r, _ =>
    have h1 : Lib.minOf (a :: r ++ [x]) = min (Lib.minOf (a :: r)) x := by
      show ((a :: r) ++ [x]).foldl min a = min ((a :: r).foldl min a) x
      rw [List.foldl_append]; rfl
    have h2 : Lib.maxOf (a :: r ++ [x]) = max (Lib.maxOf (a :: r)) x := by
      show ((a :: r) ++ [x]).foldl max a = max ((a :: r).foldl max a) x
      rw [List.foldl_append]; rfl
    have e1 : endsI (a :: r) = (Lib.minOf (a :: r), Lib.maxOf (a :: r)) := if_neg (by simp)
    have e2 : endsI (a :: r ++ [x]) = (Lib.minOf (a :: r ++ [x]), Lib.maxOf (a :: r ++ [x])) := if_neg (by simp)
    rw [e2, e1, h1, h2]
    refine Prod.ext ?_ ?_
    · show min (Lib.minOf (a :: r)) x = if x < Lib.minOf (a :: r) then x else Lib.minOf (a :: r)
      split <;> omega
    · show max (Lib.maxOf (a :: r)) x = if Lib.maxOf (a :: r) < x then x else Lib.maxOf (a :: r)
      split <;> omega
theorem ends_one (x : Int) : endsI [x] = (x, x) := by
  unfold endsI
  rw [if_neg (by simp)]
  show (min x x, max x x) = (x, x)
  rw [Int.min_self, Int.max_self]
set_option maxHeartbeats 1000000 in
theorem refEnds_any (v : Value) (l : List Int) (w : World) (hl : IntsAt w v l) :
    Calls Tryz.prog 82 #[v] w fun e w' => e = .returned (.tuple #[.int .i64 (endsI l).1, .int .i64 (endsI l).2]) ∧ w = w' := by
  obtain ⟨a, c, b, o, rfl, ha, hc, hcm, hx⟩ := hl
  unfold maxLen at hcm
  rcases Nat.eq_zero_or_pos l.length with h0 | hpos
  · obtain rfl := List.eq_nil_of_length_eq_zero h0
    go_enter Tryz.func82, Tryz.ntmps82
    go_wp2_with fail
    go_ret2
    exact ⟨rfl, rfl⟩
  obtain rfl := ha hpos
  obtain ⟨x0, hx0⟩ := get_ex hpos
  have c0 := hx 0 x0 hx0 0 _ rfl
  have i0 := idx_at (c := c) (b := b) (o := o) 1 Tryz.underlying69 szInt (fun _ => rfl) 0 hpos
  simp only [Nat.zero_mul, Nat.add_zero] at c0 i0
  have e0 : ((0 : Nat) : Int) = 0 := rfl
  rw [e0] at i0
  have gk : ((l.length : Int) == 0) = false := beq_eq_false_iff_ne.2 (by omega)
  have hp1 : (0 : Int) < (l.length : Int) := by omega
  have H1 : Hid (endsI (l.take 1) = (x0, x0)) := Lib.hid (by
    rw [show l.take 1 = [x0] by rw [show (1 : Nat) = 0 + 1 from rfl, take_snoc' hx0]; rfl, ends_one])
  have HX := Lib.hid hx
  clear e0 hx0 hx
  go_enter Tryz.func82, Tryz.ntmps82
  go_wp2_with fail
  go_loop [4, 5, 6] (fun lo hi i => ∃ k : Nat, 1 ≤ k ∧ k ≤ l.length ∧ i = .int .i64 k ∧ ∃ m n, lo = .int .i64 m ∧ hi = .int .i64 n ∧ Hid (endsI (l.take k) = (m, n))) (fun _ _ i => l.length - (intOf i).toNat)
  case atStart => exact ⟨1, by omega, by omega, rfl, x0, x0, rfl, rfl, H1⟩
  case round =>
    obtain ⟨k, hk1, hk, rfl, m, n, rfl, rfl, hmn⟩ := hrel
    by_cases hlt : k < l.length
    case neg =>
      obtain rfl : k = l.length := by omega
      have f : decide ((l.length : Int) < (l.length : Int)) = false := by simp
      have HE : Hid (endsI l = (m, n)) := Lib.hid (by have := hmn.out; rwa [List.take_length] at this)
      go_wp2_with fail
      go_ret2
      exact ⟨by rw [HE.out]; rfl, rfl⟩
    obtain ⟨x, hxk⟩ := get_ex hlt
    have c1 := HX.out k x hxk 0 _ rfl
    have i1 := idx_at (c := c) (b := b) (o := o) 1 Tryz.underlying69 szInt (fun _ => rfl) k hlt
    simp only [Nat.mul_one, Nat.add_zero] at c1 i1
    have f : (k : Int) < (l.length : Int) := by omega
    have HN := Lib.hid (show endsI (l.take (k + 1)) = (if x < m then x else m, if n < x then x else n) by
      rw [take_snoc' hxk, ends_snoc (fun e => by have := congrArg List.length e; rw [List.length_take] at this; simp only [List.length_nil] at this; omega), hmn.out])
    clear hxk
    have hmw : (x < m ∧ (if x < m then x else m) = x) ∨ (decide (x < m) = false ∧ (if x < m then x else m) = m) := by
      by_cases h : x < m
      · exact .inl ⟨h, if_pos h⟩
      · exact .inr ⟨decide_eq_false h, if_neg h⟩
    have hnw : (n < x ∧ (if n < x then x else n) = x) ∨ (decide (n < x) = false ∧ (if n < x then x else n) = n) := by
      by_cases h : n < x
      · exact .inl ⟨h, if_pos h⟩
      · exact .inr ⟨decide_eq_false h, if_neg h⟩
    rcases hmw with ⟨g1, e1⟩ | ⟨g1, e1⟩
    all_goals
      rcases hnw with ⟨g2, e2⟩ | ⟨g2, e2⟩
      all_goals
        rw [e1, e2] at HN
        clear e1 e2
        go_wp2_with fail
        go_round
        case rel => exact ⟨k + 1, by omega, by omega, by go_num, _, _, rfl, rfl, HN⟩
        case measure => simp [intOf]; omega
set_option maxHeartbeats 1000000 in
theorem wholeText_any (word : Str) (v : Value) (keys : List Int) (body : Str) (w : World) (hk : IntsAt w v keys) (hw : word.length ≤ 10) (hn : keys.length ≤ 1000) (hend : (-9223372036854775808 ≤ (endsI keys).1 ∧ (endsI keys).1 ≤ 9223372036854775807) ∧ (-9223372036854775808 ≤ (endsI keys).2 ∧ (endsI keys).2 ≤ 9223372036854775807)) (hb : body.length ≤ 100000) :
    Calls Tryz.prog 74 #[S word, v, S body] w fun e w' => e = .returned (S (wholeT word keys body)) ∧ Below w.heap.size w w' := by
  have HE := Lib.hid (refEnds_any v keys w hk)
  obtain ⟨a, c, rfl, -, -⟩ := hk.form'
  have hsl := sumOf_lt body
  have HD := Lib.hid (fun m (h0 : -9223372036854775808 ≤ m) (h1 : m ≤ 9223372036854775807) W => decimalE_any m W h0 h1)
  have HSm := Lib.hid (fun W => refSum_any body W hb)
  have hW : wholeT word keys body = (((((((word ++ [32]) ++ Lib.itoa keys.length) ++ [32]) ++ Lib.itoa (endsI keys).1) ++ [32]) ++ Lib.itoa (endsI keys).2) ++ [32]) ++ Lib.itoa (sumOf body) ++ [10] ++ body := by
    unfold wholeT headT numsTail
    simp
  have HWh := Lib.hid hW
  have l0 := itoa_len keys.length (by omega) (by omega)
  have l1 := itoa_len (endsI keys).1 hend.1.1 hend.1.2
  have l2 := itoa_len (endsI keys).2 hend.2.1 hend.2.2
  have l3 := itoa_len (sumOf body) (by omega) (by omega)
  have HSl := Lib.hid hsl
  rw [hW]
  clear hW hk hsl
  generalize endsI keys = en at *
  obtain ⟨lo, hi⟩ := en
  simp only at HE HD l1 l2 hend HWh ⊢
  obtain ⟨t0, ht0⟩ : ∃ t, Lib.itoa (keys.length : Int) = t := ⟨_, rfl⟩
  obtain ⟨t1, ht1⟩ : ∃ t, Lib.itoa lo = t := ⟨_, rfl⟩
  obtain ⟨t2, ht2⟩ : ∃ t, Lib.itoa hi = t := ⟨_, rfl⟩
  obtain ⟨t3, ht3⟩ : ∃ t, Lib.itoa (sumOf body : Int) = t := ⟨_, rfl⟩
  have D0 := Lib.hid (fun W => HD.out keys.length (by omega) (by omega) W)
  have D1 := Lib.hid (fun W => HD.out lo hend.1.1 hend.1.2 W)
  have D2 := Lib.hid (fun W => HD.out hi hend.2.1 hend.2.2 W)
  have D3 := Lib.hid (fun W => HD.out (sumOf body : Int) (by omega) (by have := HSl.out; omega) W)
  rw [ht0] at D0 l0 ⊢
  rw [ht1] at D1 l1 ⊢
  rw [ht2] at D2 l2 ⊢
  rw [ht3] at D3 l3 ⊢
  clear ht0 ht1 ht2 ht3 HD HWh HSl hend
  generalize sumOf body = sm at *
  have app : ∀ (p q : Str), p.length + q.length ≤ 1000000 → ∀ W, (Op.stringOp .add ⟨p.toArray⟩ ⟨q.toArray⟩).run Tryz.prog W = .ok (.string ⟨(p ++ q).toArray⟩) W := fun p q h W => by
    have := cat_run ⟨p.toArray⟩ ⟨q.toArray⟩ p.length q.length rfl rfl h W
    rwa [S_app] at this
  have a1 := app word [32] (by simp; omega)
  have a2 := app (word ++ [32]) t0 (by simp; omega)
  have a3 := app ((word ++ [32]) ++ t0) [32] (by simp; omega)
  have a4 := app (((word ++ [32]) ++ t0) ++ [32]) t1 (by simp; omega)
  have a5 := app ((((word ++ [32]) ++ t0) ++ [32]) ++ t1) [32] (by simp; omega)
  have a6 := app (((((word ++ [32]) ++ t0) ++ [32]) ++ t1) ++ [32]) t2 (by simp; omega)
  have a7 := app ((((((word ++ [32]) ++ t0) ++ [32]) ++ t1) ++ [32]) ++ t2) [32] (by simp; omega)
  have a8 := app (((((((word ++ [32]) ++ t0) ++ [32]) ++ t1) ++ [32]) ++ t2) ++ [32]) t3 (by simp; omega)
  have a9 := app ((((((((word ++ [32]) ++ t0) ++ [32]) ++ t1) ++ [32]) ++ t2) ++ [32]) ++ t3) [10] (by simp; omega)
  have a10 := app (((((((((word ++ [32]) ++ t0) ++ [32]) ++ t1) ++ [32]) ++ t2) ++ [32]) ++ t3) ++ [10]) body (by simp; omega)
  clear app l0 l1 l2 l3
  generalize hA1 : word ++ [32] = A1 at *
  generalize hA2 : A1 ++ t0 = A2 at *
  generalize hA3 : A2 ++ [32] = A3 at *
  generalize hA4 : A3 ++ t1 = A4 at *
  generalize hA5 : A4 ++ [32] = A5 at *
  generalize hA6 : A5 ++ t2 = A6 at *
  generalize hA7 : A6 ++ [32] = A7 at *
  generalize hA8 : A7 ++ t3 = A8 at *
  generalize hA9 : A8 ++ [10] = A9 at *
  generalize hA10 : A9 ++ body = A10 at *
  clear hA1 hA2 hA3 hA4 hA5 hA6 hA7 hA8 hA9 hA10
  go_enter Tryz.func74, Tryz.ntmps74
  go_wp2_with fail
  refine HE.out.mono ?_
  rintro e w1 ⟨rfl, rfl⟩
  go_wp2_with fail
  refine (D0.out _).mono ?_
  rintro e w2 ⟨rfl, hb2⟩
  go_wp2_with fail
  refine (D1.out _).mono ?_
  rintro e w3 ⟨rfl, hb3⟩
  have hb3' := hb2.trans (hb3.mono hb2.size)
  go_wp2_with fail
  refine (D2.out _).mono ?_
  rintro e w4 ⟨rfl, hb4⟩
  have hb4' := hb3'.trans (hb4.mono hb3'.size)
  go_wp2_with fail
  refine (HSm.out _).mono ?_
  rintro e w5 ⟨rfl, rfl⟩
  go_wp2_with fail
  refine (D3.out _).mono ?_
  rintro e w6 ⟨rfl, hb6⟩
  go_wp2_with fail
  go_ret
  exact ⟨rfl, hb4'.trans (hb6.mono hb4'.size)⟩
end Go.Proofs.YtpfohfihkmjnaaaGreatDoor
