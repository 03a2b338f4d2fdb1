/- list.Read: the walk. Snaps in memory; snap.in, snap.Check, slices.Contains at texts. data.table, data.Sum: the walks: the table has of each byte what its bits make; the sum is the sum in plain words. strconv.FormatUint in base ten: the walk. strings.Builder: WriteString and String, laid at this program by hand (the tool passes over copyCheck, whose body here names no text). -/
import Derived.Test.YtikboodjfanjkaaGreatDoorBx5
import Derived.Test.YtikboodjfanjkaaGreatDoorBx4
import Derived.Test.YtikboodjfanjkaaGreatDoorBx3
import Derived.Deep.WholeRow
import Derived.Laws.Tables
import Derived.Laws.Rows
import Derived.Laws.BitsAll
import Derived.Outline
import Derived.Lib.AppendIntMem
import Derived.Test.YtikboodjfanjkaaGreatDoorBx1
import Derived.Test.YtikboodjfanjkaaGreatDoorBx2
import Derived.Shelf.Strings.Builder1
namespace Go.Proofs.YtikboodjfanjkaaGreatDoor
open Go.RowKit

/-- The lines that were read. -/
def readOf (ls : List Str) : List Fl := ls.map fun x => (fileRead x).1
theorem linesE_full {ls : List Str} (h : 60 < manyL ls) : linesE ls = .bare 8 := by unfold linesE; rw [if_pos h]
theorem linesE_few {ls : List Str} (h : ¬ 60 < manyL ls) : linesE ls = firstErr (lineFault ls) (manyL ls) := by unfold linesE; rw [if_neg h]
theorem manyL_ge (ls : List Str) : ls.length - 1 ≤ manyL ls ∧ manyL ls ≤ ls.length := by unfold manyL; split <;> omega
theorem last_at {ls : List Str} {x : Str} (h : ls[ls.length - 1]? = some x) : ls.getLast?.getD [] = x := by
  rw [List.getLast?_eq_getElem?, h]; rfl
theorem manyL_nil {ls : List Str} (h : ls[ls.length - 1]? = some []) : manyL ls = ls.length - 1 := by
  unfold manyL; rw [last_at h, if_pos rfl]
theorem manyL_ne {ls : List Str} {x : Str} (h : ls[ls.length - 1]? = some x) (hx : x ≠ []) : manyL ls = ls.length := by
  unfold manyL; rw [last_at h, if_neg hx]
theorem lineFault_last {ls : List Str} {x : Str} {k : Nat} (h : ls[k]? = some x) (hk : k + 1 = ls.length) : lineFault ls k = 1 := by
  unfold lineFault; rw [h]; simp only; rw [if_pos hk]
theorem lineFault_bad {ls : List Str} {x : Str} {k : Nat} (h : ls[k]? = some x) (hk : ¬ k + 1 = ls.length) (hx : (fileRead x).2 ≠ 0) : lineFault ls k = (fileRead x).2 := by
  unfold lineFault; rw [h]; simp only; rw [if_neg hk, if_pos hx]
theorem lineFault_zero {ls : List Str} {x : Str} (h : ls[0]? = some x) (hk : ¬ 1 = ls.length) (hx : (fileRead x).2 = 0) : lineFault ls 0 = 0 := by
  unfold lineFault; rw [h]; simp only; rw [if_neg (by simpa using hk), if_neg (by simpa using hx), if_neg (by simp)]
theorem lineFault_ord {ls : List Str} {x y : Str} {k : Nat} (h : ls[k]? = some x) (hk : ¬ k + 1 = ls.length) (hx : (fileRead x).2 = 0) (h0 : 0 < k) (hy : ls[k - 1]? = some y) (hc : cmpP (fileRead x).1.path (fileRead y).1.path ≤ 0) : lineFault ls k = 9 := by
  unfold lineFault; rw [h]; simp only; rw [if_neg hk, if_neg (by simpa using hx), if_pos ⟨h0, y, hy, hc⟩]
theorem lineFault_fine {ls : List Str} {x y : Str} {k : Nat} (h : ls[k]? = some x) (hk : ¬ k + 1 = ls.length) (hx : (fileRead x).2 = 0) (hy : ls[k - 1]? = some y) (hc : ¬ cmpP (fileRead x).1.path (fileRead y).1.path ≤ 0) : lineFault ls k = 0 := by
  unfold lineFault; rw [h]; simp only; rw [if_neg hk, if_neg (by simpa using hx), if_neg]
  rintro ⟨_, g, hg, hle⟩
  rw [hy] at hg
  cases hg
  exact hc hle
theorem erOf_bad {c : Nat} (h : c ≠ 0) : erOf c = .bare c := if_neg h
theorem erOf_nil {c : Nat} (h : c = 0) : erOf c = .nil := if_pos h
theorem readOf_at {ls : List Str} {k j : Nat} {y : Str} (h : ls[j]? = some y) (hj : j < k) : (readOf (ls.take k))[j]? = some (fileRead y).1 := by
  unfold readOf; rw [List.getElem?_map, List.getElem?_take_of_lt hj, h]; rfl
theorem readOf_snoc {ls : List Str} {k : Nat} {x : Str} (h : ls[k]? = some x) : readOf (ls.take (k + 1)) = readOf (ls.take k) ++ [(fileRead x).1] := by
  unfold readOf; rw [take_snoc' h, List.map_append]; rfl

theorem Own.cells {α : Type} {enc : α → List Value} {e : TypeId} {sz B : Nat} {w : World} {l : List α} {g n c : Nat} (hen : Enc enc sz) (h : Own enc e sz B w (.slice (some ⟨g, 0, none⟩) n c) l) : ∀ (k : Nat) (x : α), l[k]? = some x → ∀ (j : Nat) (u : Value), (enc x)[j]? = some u → w.cell? ⟨g, k * sz + j, none⟩ = some u := by
  obtain ⟨_, _, b', o', hv', hga, _, _, hx'⟩ := h.at hen
  intro k x hk j u hu
  simp only [Value.slice.injEq] at hv'
  have hga' := hv'.1.trans (hga (by have := (List.getElem?_eq_some_iff.1 hk).1; omega))
  simp only [Option.some.injEq, Addr.mk.injEq, and_true] at hga'
  obtain ⟨rfl, rfl⟩ := hga'
  have := hx' k x hk j u hu
  simpa using this
theorem Own.base {α : Type} {enc : α → List Value} {e : TypeId} {sz B B' : Nat} {w : World} {v : Value} {l : List α} (h : Own enc e sz B w v l) (hB : B' ≤ B) : Own enc e sz B' w v l := by
  unfold Own World.ownsRow at h ⊢
  refine ⟨h.1, h.2.imp id ?_⟩
  rintro ⟨g, c, cs, h1, h2, h3⟩
  exact ⟨g, c, cs, h1, Nat.le_trans hB h2, h3⟩
theorem Own.cells1 {α : Type} {enc : α → List Value} {e : TypeId} {B : Nat} {w : World} {l : List α} {g n c : Nat} {f : α → Value} (hen : Enc enc 1) (hf : ∀ x, enc x = [f x]) (h : Own enc e 1 B w (.slice (some ⟨g, 0, none⟩) n c) l) : ∀ (k : Nat) (x : α), l[k]? = some x → w.cell? ⟨g, k, none⟩ = some (f x) := by
  intro k x hk
  have := h.cells hen k x hk 0 (f x) (by rw [hf]; rfl)
  simpa using this

theorem fileRead_len {s : Str} {m : Nat} (h : s.length ≤ m) : (fileRead s).1.path.length ≤ m ∧ (fileRead s).1.part.length ≤ m := by
  have hm := fun p hp => Nat.le_trans (cutAt_mem_len (c := 32) (s := s) (p := p) hp) h
  unfold fileRead
  cases hf : fileOf (cutAt 32 s) with
  | none => exact ⟨Nat.zero_le _, Nat.zero_le _⟩
  | some f =>
    simp only
    split
    · generalize cutAt 32 s = L at *
      unfold fileOf at hf
      split at hf
      · split at hf
        · cases hf; exact ⟨hm _ (by simp), hm _ (by simp)⟩
        · cases hf
      · cases hf
    · exact ⟨Nat.zero_le _, Nat.zero_le _⟩
set_option maxHeartbeats 1600000 in
set_option maxRecDepth 20000 in
theorem listRead_any (E : Nat → Addr) (B : Nat) (s : Str) (w : World) (hE : Errs [1, 2, 4, 5, 8, 9] E B w) (hT : LNum B w) (hM : LMax B w) (hs : s.length ≤ 10000) :
    Calls Tryz.prog 36 #[S s] w fun e w' => ∃ u ev, e = .returned (.tuple #[u, ev]) ∧ Own encF 50 6 w.heap.size w' u (listReadL s) ∧ ErV E w' ev (listReadE s) ∧ Below w.heap.size w w' := by
  have hBw := hE.le
  have hif := isIfaceE
  have hR : listReadE s = linesE (cutAt 10 s) := rfl
  have hL : listReadL s = if listReadE s = .nil then readOf ((cutAt 10 s).take (manyL (cutAt 10 s))) else [] := rfl
  have hsp := split1_any B s 10 w hM (by omega)
  have hpos : 0 < (cutAt 10 s).length := by rw [cutAt_length]; omega
  have hcnt : (cutAt 10 s).length ≤ 10001 := by
    rw [cutAt_length]
    have h2 : s.count 10 ≤ s.length := List.count_le_length
    omega
  have hln : ∀ x ∈ cutAt 10 s, x.length ≤ 10000 := fun p hp => by
    have := cutAt_mem_len (c := 10) hp; omega
  have V1 := fun w6 (h : Below w.heap.size w w6) => (hE.below' h hBw).var 1 (by decide)
  have V8 := fun w6 (h : Below w.heap.size w w6) => (hE.below' h hBw).var 8 (by decide)
  have V9 := fun w6 (h : Below w.heap.size w w6) => (hE.below' h hBw).var 9 (by decide)
  simp only [errG] at V1 V8 V9
  have U1 := Lib.hid V1; have U8 := Lib.hid V8; have U9 := Lib.hid V9
  clear V1 V8 V9
  generalize cutAt 10 s = ls at *
  obtain ⟨n, hn⟩ : ∃ n, ls.length = n := ⟨_, rfl⟩
  rw [hn] at hsp hpos hcnt
  obtain ⟨lst, hlst⟩ := get_ex (l := ls) (k := n - 1) (by omega)
  have hmg := manyL_ge ls
  have hmn := fun (h : lst = []) => manyL_nil (ls := ls) (by rw [hn, hlst, h])
  have hme := fun (h : lst ≠ []) => manyL_ne (ls := ls) (by rw [hn]; exact hlst) h
  rw [hn] at hmg hmn hme
  have HR := Lib.hid hR; have HL := Lib.hid hL; have HLn := Lib.hid hln
  have HN := Lib.hid hn; have HLst := Lib.hid hlst; have HMn := Lib.hid hmn; have HMe := Lib.hid hme
  clear hR hL hln hn hlst hmn hme
  have ix := fun (k : Nat) (hk : k < n) => idx_at (P := Tryz.prog) (c := n) (o := 0) (b := w.heap.size) 1 Tryz.underlying24 szStr (fun _ => rfl) k hk
  simp only [Nat.mul_one, Nat.zero_add] at ix
  have IX := Lib.hid ix; clear ix
  have iL := IX.out (n - 1) (by omega)
  have hcast : ((n - 1 : Nat) : Int) = (n : Int) - 1 := by omega
  simp only [hcast] at iL
  clear hcast
  have hj0 : (0 : Int) ≤ (n : Int) - 1 := by omega
  have hj1 : (n : Int) - 1 < (n : Int) := by omega
  obtain ⟨ml, hml⟩ : ∃ ml, manyL ls = ml := ⟨_, rfl⟩
  rw [hml] at hmg
  have HML := Lib.hid hml; clear hml
  go_enter Tryz.func36, Tryz.ntmps36
  go_wp2_with fail
  refine hsp.mono ?_
  rintro e w1 ⟨rfl, hown, hb1⟩
  clear hsp
  have hx := hown.cells1 (f := S) encS_enc (fun _ => rfl)
  have HX := Lib.hid hx; clear hx hown
  have cL := HX.out _ _ HLst.out
  have v8 := U8.out _ hb1
  by_cases h1 : 60 < n - 1
  · have g1 : (60 : Int) < (n : Int) - 1 := by omega
    have HF : Hid (listReadE s = .bare 8) := Lib.hid (by rw [HR.out]; exact linesE_full (by rw [HML.out]; omega))
    clear h1
    go_wp2_with fail
    go_quiet (fail)
    go_wp2_with fail
    go_ret2
    exact ⟨_, _, rfl, by rw [HL.out, HF.out]; exact Own.nil _ _ _ _ _, by rw [HF.out]; exact ⟨by decide, rfl⟩, Bdn hb1 _⟩
  have g1 : decide ((60 : Int) < (n : Int) - 1) = false := by simp; omega
  by_cases hB : 60 < n ∧ lst ≠ []
  · obtain ⟨h2, h3⟩ := hB
    have g2 : (60 : Int) < (n : Int) := by omega
    have g3 : (!lst.isEmpty) = true := by simpa using h3
    have HF : Hid (listReadE s = .bare 8) := Lib.hid (by rw [HR.out]; exact linesE_full (by rw [HMe.out h3]; omega))
    clear h1 h2 h3
    go_wp2_with fail
    go_quiet (fail)
    go_wp2_with fail
    go_ret2
    exact ⟨_, _, rfl, by rw [HL.out, HF.out]; exact Own.nil _ _ _ _ _, by rw [HF.out]; exact ⟨by decide, rfl⟩, Bdn hb1 _⟩
  have hg : (decide ((60 : Int) < (n : Int)) = false) ∨ ((60 : Int) < (n : Int) ∧ lst = []) := by
    by_cases h2 : 60 < n
    · exact .inr ⟨by omega, Decidable.not_not.1 fun h => hB ⟨h2, h⟩⟩
    · exact .inl (by simp; omega)
  have hm60 : ¬ 60 < ml := by
    rcases hg with h | ⟨h, h3⟩
    · simp at h; omega
    · have := HMn.out h3; rw [HML.out] at this; omega
  have HF : Hid (listReadE s = firstErr (lineFault ls) ml) := Lib.hid (by rw [HR.out, linesE_few (by rw [HML.out]; exact hm60), HML.out])
  clear hB h1 v8
  rcases hg with g2 | ⟨g2, g3'⟩
  case' inr =>
    have g3 : (!lst.isEmpty) = false := by rw [g3']; rfl
    clear g3'
  all_goals
    go_wp2_with fail
    go_loopw [2, 3, 6, 35] (fun r1 r2 out i wr => r1 = .slice none 0 0 ∧ r2 = .nilIface ∧ ∃ k : Nat, k < n ∧ i = .int .i64 k ∧ Hid (∀ j < k, lineFault ls j = 0) ∧ Own encF 50 6 w1.heap.size wr out (readOf (ls.take k)) ∧ Below w1.heap.size w1 wr) (fun _ _ _ i _ => n - (intOf i).toNat)
    case atStart => exact ⟨rfl, rfl, 0, hpos, rfl, Lib.hid fun j hj => absurd hj (by omega), Own.nil _ _ _ _ _, Below.refl _ _⟩
    case round =>
      obtain ⟨rfl, rfl, k, hk, rfl, hj, ho, hb⟩ := hrel
      have hbw := hb1.trans (hb.mono hb1.size)
      clear cL iL
      obtain ⟨x, hxk⟩ := get_ex (l := ls) (k := k) (by rw [HN.out]; exact hk)
      have c1 := HX.out k x hxk
      have c1 := (hb.cell (World.block_lt_of_cell? w1 _ c1)).trans c1
      have i1 := IX.out k hk
      have hk1 : (k : Int) < (n : Int) := by omega
      have hxl := HLn.out x (List.mem_of_getElem? hxk)
      have Hxk := Lib.hid hxk; clear hxk
      have hb' : Below w.heap.size w wr := hbw
      have hRd := fileRead_any E B x wr ((hE.sub (by decide)).below' hbw hBw) (hT.below' hbw hBw) (hM.below' hbw hBw) hxl
      have HRd := Lib.hid hRd; clear hRd
      by_cases hlast : k = n - 1
      · have gk : ((k : Int) == (n : Int) - 1) = true := by simp; omega
        have hxl' : x = lst := by have h1 := Hxk.out; rw [hlast, HLst.out] at h1; exact (Option.some.inj h1).symm
        by_cases hx0 : x = []
        · subst hx0
          have hmk := HMn.out hxl'.symm
          have hE0 : listReadE s = .nil := by rw [HF.out]; exact firstErr_all fun j hj' => hj.out j (by rw [HML.out] at hmk; omega)
          have hL0 : listReadL s = readOf (ls.take k) := by rw [HL.out, if_pos hE0, hmk, hlast]
          have HE0 := Lib.hid hE0; have HL0 := Lib.hid hL0
          clear hE0 hL0 hmk hxl' hlast
          go_wp2_with fail
          go_ret2
          exact ⟨_, _, rfl, by rw [HL0.out]; exact Own.base ho hb1.size, by rw [HE0.out]; rfl, hbw⟩
        · have gx : x.isEmpty = false := by simpa using hx0
          have hmk := HMe.out (hxl' ▸ hx0)
          have hf := lineFault_last Hxk.out (by rw [HN.out]; omega)
          have hE0 : listReadE s = .loc 1 k := by
            rw [HF.out, ← hf]; refine firstErr_hit (by rw [HML.out] at hmk; omega) hj.out (by rw [hf]; decide)
          have hL0 : listReadL s = [] := by rw [HL.out, hE0]; rfl
          have HE0 := Lib.hid hE0; have HL0 := Lib.hid hL0
          clear hE0 hL0 hmk hxl' hlast hx0 hf
          go_wp2_with fail
          refine HRd.out.mono ?_
          rintro e w2 ⟨ev, rfl, hev, hb2⟩
          have hb2' := hbw.trans (hb2.mono hbw.size)
          clear hev
          generalize fileRead x = fx at *
          have hb3 : Below w.heap.size w (w2.alloc (.cells #[S fx.1.path, S fx.1.part, .int .i64 fx.1.n, .int .i64 fx.1.lo, .int .i64 fx.1.hi, .int .i64 fx.1.seq] 50)) := hb2'.alloc hb2'.size _
          have v1 := U1.out _ hb3
          go_wp2_with fail
          go_ret2
          exact ⟨_, _, rfl, by rw [HL0.out]; exact Own.nil _ _ _ _ _, by rw [HE0.out]; exact ErV.fresh (by decide) _ _ _ _ (by simp), hb3.alloc hb3.size _⟩
      have gk : ((k : Int) == (n : Int) - 1) = false := by simp; omega
      have hkn : ¬ k + 1 = ls.length := by rw [HN.out]; omega
      have hkl : k < ml := by omega
      have hkn1 : k + 1 < n := by omega
      have HKN := Lib.hid hkn
      clear hkn hlast hxl
      by_cases hck : (fileRead x).2 = 0
      case neg =>
        have hf := lineFault_bad Hxk.out HKN.out hck
        have hE0 : listReadE s = .loc (fileRead x).2 k := by
          rw [HF.out, ← hf]; exact firstErr_hit hkl hj.out (by rw [hf]; exact hck)
        have hL0 : listReadL s = [] := by rw [HL.out, hE0]; rfl
        have hfe := erOf_bad hck
        have HE0 := Lib.hid hE0; have HL0 := Lib.hid hL0; have HFE := Lib.hid hfe
        clear hE0 hL0 hf hfe hck
        go_wp2_with fail
        refine HRd.out.mono ?_
        rintro e w2 ⟨ev, rfl, hev, hb2⟩
        have hb2' := hbw.trans (hb2.mono hbw.size)
        rw [HFE.out] at hev
        obtain ⟨hcr, rfl⟩ := hev
        clear HRd
        generalize fileRead x = fx at *
        have hb3 : Below w.heap.size w (w2.alloc (.cells #[S fx.1.path, S fx.1.part, .int .i64 fx.1.n, .int .i64 fx.1.lo, .int .i64 fx.1.hi, .int .i64 fx.1.seq] 50)) := hb2'.alloc hb2'.size _
        obtain ⟨ce, hce⟩ : ∃ ce, fx.2 = ce := ⟨_, rfl⟩
        rw [hce] at hcr HE0 ⊢
        clear hce
        go_wp2_with fail
        go_quiet (fail)
        go_wp2_with fail
        go_ret2
        exact ⟨_, _, rfl, by rw [HL0.out]; exact Own.nil _ _ _ _ _, by rw [HE0.out]; exact ErV.fresh hcr _ _ _ _ (by simp), (Bdn hb3 _).alloc hb3.size _⟩
      have HK := Lib.hid hck; clear hck
      have hsn := readOf_snoc Hxk.out
      have hql : (readOf (ls.take k)).length = k := by unfold readOf; rw [List.length_map, List.length_take, HN.out]; omega
      have hfk : (k = 0 ∧ lineFault ls k = 0) ∨ (0 < k) := by
        rcases Nat.eq_zero_or_pos k with h | h
        · left; refine ⟨h, ?_⟩; subst h; exact lineFault_zero Hxk.out (by have := HKN.out; omega) HK.out
        · exact .inr h
      have hy : 0 < k → ∃ y, ls[k - 1]? = some y ∧ (readOf (ls.take k))[k - 1]? = some (fileRead y).1 := fun h => by
        obtain ⟨y, hy⟩ := get_ex (l := ls) (k := k - 1) (by rw [HN.out]; omega)
        exact ⟨y, hy, readOf_at hy (by omega)⟩
      have hyl := fun y (hy : ls[k - 1]? = some y) => HLn.out y (List.mem_of_getElem? hy)
      have HYL := Lib.hid hyl; clear hyl
      generalize readOf (ls.take k) = q at *
      have HQl := Lib.hid hql; have HSn := Lib.hid hsn
      clear hql hsn
      rcases hfk with ⟨h0, hf⟩ | hk0
      · have gk0 : decide (0 < k) = false := by simp [h0]
        have Hf := Lib.hid hf; have H0 := Lib.hid h0
        clear hf h0 hy HYL
        go_wp2_with fail
        refine HRd.out.mono ?_
        rintro e w2 ⟨ev, rfl, hev, hb2⟩
        rw [erOf_nil HK.out] at hev
        obtain rfl : ev = .nilIface := hev
        have hb2' := hb.trans (hb2.mono hb.size)
        have ho2 := ho.below hb2
        clear HRd HK
        generalize fileRead x = fx at *
        have hb3 : Below w1.heap.size w1 (w2.alloc (.cells #[S fx.1.path, S fx.1.part, .int .i64 fx.1.n, .int .i64 fx.1.lo, .int .i64 fx.1.hi, .int .i64 fx.1.seq] 50)) := hb2'.alloc hb2'.size _
        have ho3 := ho2.alloc (.cells #[S fx.1.path, S fx.1.part, .int .i64 fx.1.n, .int .i64 fx.1.lo, .int .i64 fx.1.hi, .int .i64 fx.1.seq] 50)
        have CF := Lib.hid (fun w6 (h : Below (w2.alloc (.cells #[S fx.1.path, S fx.1.part, .int .i64 fx.1.n, .int .i64 fx.1.lo, .int .i64 fx.1.hi, .int .i64 fx.1.seq] 50)).heap.size (w2.alloc (.cells #[S fx.1.path, S fx.1.part, .int .i64 fx.1.n, .int .i64 fx.1.lo, .int .i64 fx.1.hi, .int .i64 fx.1.seq] 50)) w6) => fileCells (f := fx.1) rfl h)
        go_wp2_with fail
        go_quiet (fail)
        obtain ⟨c0, c1, c2, c3, c4, c5⟩ := CF.out _ (Bdn (Below.refl _ _) nq)
        have hb3 := Bdn hb3 nq
        have ho3 := ho3.below (Bdn (Below.refl _ _) nq)
        clear CF
        generalize (w2.alloc (.cells #[S fx.1.path, S fx.1.part, .int .i64 fx.1.n, .int .i64 fx.1.lo, .int .i64 fx.1.hi, .int .i64 fx.1.seq] 50)).drewN nq = w3 at *
        go_wp2_with (at_builtin; refine wpList_app rfl _ _ _ rfl w1.heap.size elFl _ q.length _ rfl (ho3.alloc _) (.slice (some ⟨w3.heap.size, 0, none⟩) 1 1) 1 (encF fx.1) rfl (src_one rfl rfl (by simp [Value.oneCell'])) (by rw [HQl.out]; unfold maxLen; omega) (by rw [HQl.out]; omega) (by have := hb3.size; simp; omega) ?_; intro v' w4 hown hg _)
        go_roundw
        case rel => exact ⟨rfl, rfl, k + 1, by omega, by go_num, (Lib.hid fun j hj' => by
          obtain rfl : j = k := by have := H0.out; omega
          exact Hf.out), by rw [HSn.out]; exact Own.snoc hown, Bapp (hb3.alloc hb3.size _) (ho3.alloc _) hg (Nat.le_refl _) (by have := hb3.size; simp; omega)⟩
        case measure => simp [intOf]; omega
      obtain ⟨y, hyk, hqk⟩ := hy hk0
      have hyl := fileRead_len (HYL.out y hyk)
      have hxl' := fileRead_len (HLn.out x (List.mem_of_getElem? Hxk.out))
      clear hy HYL
      have gk0 : decide (0 < k) = true := decide_eq_true hk0
      have hk01 : (1 : Int) ≤ k := by omega
      have hk02 : (0 : Int) ≤ (k : Int) - 1 := by omega
      have hk03 : (k : Int) - 1 < (k : Int) := by omega
      have hwk : IntKind.i64.wrap ((k : Int) - 1) = (k : Int) - 1 := by rw [IntKind.wrap_i64]; omega
      obtain ⟨g2', cap, cur, rfl, hBg, _, hcap, hmx, _, _⟩ := ho.open (by rw [HQl.out]; omega)
      rw [HQl.out] at ho hcap ⊢
      have i2 := idx_at (c := cap) (o := 0) (b := g2') (n := k) 6 Tryz.underlying28 szFl (fun _ => rfl) (k - 1) (by omega)
      have hcast : ((k - 1 : Nat) : Int) = (k : Int) - 1 := by omega
      simp only [hcast, Nat.zero_add] at i2
      have d0 := ho.cells encF_enc (k - 1) _ hqk 0 _ rfl
      have hfo := fun h => lineFault_ord Hxk.out HKN.out HK.out hk0 hyk h
      have hff := fun h => lineFault_fine Hxk.out HKN.out HK.out hyk h
      have HOrd := Lib.hid hfo; have HFF := Lib.hid hff
      clear hfo hff hcast hyk hqk
      go_wp2_with fail
      refine HRd.out.mono ?_
      rintro e w2 ⟨ev, rfl, hev, hb2⟩
      rw [erOf_nil HK.out] at hev
      obtain rfl : ev = .nilIface := hev
      have hb2' := hb.trans (hb2.mono hb.size)
      have ho2 := ho.below hb2
      have d0 := (hb2.cell (World.block_lt_of_cell? wr _ d0)).trans d0
      clear HRd HK c1 ho hbw hb'
      generalize fileRead x = fx at *
      generalize fileRead y = fy at *
      have hb3 : Below w1.heap.size w1 (w2.alloc (.cells #[S fx.1.path, S fx.1.part, .int .i64 fx.1.n, .int .i64 fx.1.lo, .int .i64 fx.1.hi, .int .i64 fx.1.seq] 50)) := hb2'.alloc hb2'.size _
      have hb2a : Below w2.heap.size w2 (w2.alloc (.cells #[S fx.1.path, S fx.1.part, .int .i64 fx.1.n, .int .i64 fx.1.lo, .int .i64 fx.1.hi, .int .i64 fx.1.seq] 50)) := (Below.refl _ _).alloc (Nat.le_refl _) _
      have d0 := (hb2a.cell (World.block_lt_of_cell? w2 _ d0)).trans d0
      have ho3 := ho2.alloc (.cells #[S fx.1.path, S fx.1.part, .int .i64 fx.1.n, .int .i64 fx.1.lo, .int .i64 fx.1.hi, .int .i64 fx.1.seq] 50)
      have CF := Lib.hid (fun w6 (h : Below (w2.alloc (.cells #[S fx.1.path, S fx.1.part, .int .i64 fx.1.n, .int .i64 fx.1.lo, .int .i64 fx.1.hi, .int .i64 fx.1.seq] 50)).heap.size (w2.alloc (.cells #[S fx.1.path, S fx.1.part, .int .i64 fx.1.n, .int .i64 fx.1.lo, .int .i64 fx.1.hi, .int .i64 fx.1.seq] 50)) w6) => fileCells (f := fx.1) rfl h)
      have p0 := (CF.out _ (Below.refl _ _)).1
      go_wp2_with fail
      generalize (w2.alloc (.cells #[S fx.1.path, S fx.1.part, .int .i64 fx.1.n, .int .i64 fx.1.lo, .int .i64 fx.1.hi, .int .i64 fx.1.seq] 50)) = w2b at *
      have hb3d := hb3.drew
      have hbw3 := hb1.trans (hb3d.mono hb1.size)
      have hC := listCompare_any E B fx.1.path fy.1.path w2b.drew ((hE.sub (by decide)).below' hbw3 hBw) (hT.below' hbw3 hBw) (hM.below' hbw3 hBw) (by have := hxl'.1; omega) (by have := hyl.1; omega)
      obtain ⟨cv, hcv⟩ : ∃ cv, cmpP fx.1.path fy.1.path = cv := ⟨_, rfl⟩
      rw [hcv] at hC HOrd HFF
      have HC := Lib.hid hC
      clear hC hcv
      by_cases hle : cv ≤ 0
      · have hf := HOrd.out hle
        have hE0 : listReadE s = .loc 9 k := by
          rw [HF.out, ← hf]; exact firstErr_hit hkl hj.out (by rw [hf]; decide)
        have hL0 : listReadL s = [] := by rw [HL.out, hE0]; rfl
        have HE0 := Lib.hid hE0; have HL0 := Lib.hid hL0
        clear hE0 hL0 hf
        go_region_held3 (fun w' => w'.cell? ⟨w2.heap.size, 0, none⟩ = some (S fx.1.path) ∧ w'.cell? ⟨g2', (k - 1) * 6, none⟩ = some (S fy.1.path)) (exact ⟨p0, d0⟩) (first | (go_at_call 97; refine HC.out.mono ?_; rintro e w3 ⟨rfl, hb4⟩; have p0' := (hb4.cell (World.block_lt_of_cell? w2b _ p0)).trans p0; have d0' := (hb4.cell (World.block_lt_of_cell? w2b _ d0)).trans d0; clear p0 d0; have p0 := p0'; have d0 := d0'; clear p0' d0'))
        have hb4' := hb3d.trans (hb4.mono hb3d.size)
        have hbw4 := hb1.trans (hb4'.mono hb1.size)
        have v9 := U9.out _ hbw4
        go_wp2_with fail
        go_ret2
        exact ⟨_, _, rfl, by rw [HL0.out]; exact Own.nil _ _ _ _ _, by rw [HE0.out]; exact ErV.fresh (by decide) _ _ _ _ (by simp), hbw4.alloc hbw4.size _⟩
      · have hf := HFF.out (by omega)
        have Hf := Lib.hid hf; clear hf
        have hgt : 0 < cv := by omega
        clear hle
        go_region_held3 (fun w' => w'.cell? ⟨w2.heap.size, 0, none⟩ = some (S fx.1.path) ∧ w'.cell? ⟨g2', (k - 1) * 6, none⟩ = some (S fy.1.path)) (exact ⟨p0, d0⟩) (first | (go_at_call 97; refine HC.out.mono ?_; rintro e w3 ⟨rfl, hb4⟩; have p0' := (hb4.cell (World.block_lt_of_cell? w2b _ p0)).trans p0; have d0' := (hb4.cell (World.block_lt_of_cell? w2b _ d0)).trans d0; clear p0 d0; have p0 := p0'; have d0 := d0'; clear p0' d0'))
        have hb4' := hb3d.trans (hb4.mono hb3d.size)
        obtain ⟨c0, c1, c2, c3, c4, c5⟩ := CF.out _ ((Below.refl _ _).drew.trans hb4)
        have ho3 := (ho3.below ((Below.refl _ _).drew.trans hb4))
        have hb3 := hb4'
        clear CF p0 d0 hb4'
        go_wp2_with (at_builtin; refine wpList_app rfl _ _ _ rfl w1.heap.size elFl _ q.length _ rfl (ho3.alloc _) (.slice (some ⟨w3.heap.size, 0, none⟩) 1 1) 1 (encF fx.1) rfl (src_one rfl rfl (by simp [Value.oneCell'])) (by rw [HQl.out]; unfold maxLen; omega) (by rw [HQl.out]; omega) (by have := hb3.size; simp; omega) ?_; intro v' w4 hown hg _)
        go_roundw
        case rel => exact ⟨rfl, rfl, k + 1, by omega, by go_num, (Lib.hid fun j hj' => by
          rcases Nat.lt_or_ge j k with h | h
          · exact hj.out j h
          · obtain rfl : j = k := by omega
            exact Hf.out), by rw [HSn.out]; exact Own.snoc hown, Bapp (hb3.alloc hb3.size _) (ho3.alloc _) hg (Nat.le_refl _) (by have := hb3.size; simp; omega)⟩
        case measure => simp [intOf]; omega
end Go.Proofs.YtikboodjfanjkaaGreatDoor
namespace Go.Proofs.YtikboodjfanjkaaGreatDoor
open Go.RowKit

/-- A cell of a block that was laid anew, later. -/
theorem newCell {w w6 : World} {cs : Array Value} {t : TypeId} (h : Below (w.alloc (.cells cs t)).heap.size (w.alloc (.cells cs t)) w6) (j : Nat) {x : Value} (hx : cs[j]? = some x) : w6.cell? ⟨w.heap.size, j, none⟩ = some x := by
  have h1 : (w.alloc (.cells cs t)).cell? ⟨w.heap.size, j, none⟩ = some x := by
    rw [cell_of_row (w.alloc _) w.heap.size _ _ t (0, 0) (heap_alloc_new w _)]; exact hx
  exact (h.cell (World.block_lt_of_cell? _ _ h1)).trans h1
abbrev snapV (s : Sn) (v : Value) : Value := .agg #[.int .i64 s.id, .int .i64 s.parent, .int .i64 s.seq, .int .i64 s.day, .int .i64 s.index, S s.op, v]
theorem snapCells {w w6 : World} {s : Sn} {v : Value} {t : TypeId} (h : Below (w.alloc (.cells #[.int .i64 s.id, .int .i64 s.parent, .int .i64 s.seq, .int .i64 s.day, .int .i64 s.index, S s.op, v] t)).heap.size (w.alloc (.cells #[.int .i64 s.id, .int .i64 s.parent, .int .i64 s.seq, .int .i64 s.day, .int .i64 s.index, S s.op, v] t)) w6) :
    w6.cell? ⟨w.heap.size, 0, none⟩ = some (.int .i64 s.id) ∧ w6.cell? ⟨w.heap.size, 1, none⟩ = some (.int .i64 s.parent) ∧ w6.cell? ⟨w.heap.size, 2, none⟩ = some (.int .i64 s.seq) ∧ w6.cell? ⟨w.heap.size, 3, none⟩ = some (.int .i64 s.day) ∧ w6.cell? ⟨w.heap.size, 4, none⟩ = some (.int .i64 s.index) ∧ w6.cell? ⟨w.heap.size, 5, none⟩ = some (S s.op) ∧ w6.cell? ⟨w.heap.size, 6, none⟩ = some v :=
  ⟨newCell h 0 rfl, newCell h 1 rfl, newCell h 2 rfl, newCell h 3 rfl, newCell h 4 rfl, newCell h 5 rfl, newCell h 6 rfl⟩

theorem strs_new (l : List Str) (w : World) (t : TypeId) (H n : Nat) (cs : Array Value) (hH : w.heap.size = H) (hcs : cs = (l.map S).toArray) (hn : l.length = n) (hm : n ≤ 100000) : StrsAt (w.alloc (.cells cs t)) (.slice (some ⟨H, 0, none⟩) n n) l := by
  subst hH hcs hn
  refine ⟨_, _, w.heap.size, 0, rfl, fun _ => rfl, Nat.le_refl _, by unfold maxLen; omega, fun k z hk j u hu => ?_⟩
  obtain rfl : j = 0 := by
    rcases Nat.eq_zero_or_pos j with h | h
    · exact h
    · rw [List.getElem?_eq_none (by simp; omega)] at hu; cases hu
  obtain rfl : S z = u := by simpa using hu
  rw [cell_of_row (w.alloc _) w.heap.size _ _ t (0, 0) (heap_alloc_new w _)]
  simp [hk]

theorem containsB_mem : ∀ (l : List Str) (x : Str), Lib.containsS (l.map fun s => (⟨s.toArray⟩ : ByteArray)) ⟨x.toArray⟩ = decide (x ∈ l) := by
  intro l x
  rw [Bool.eq_iff_iff]
  unfold Lib.containsS
  rw [decide_eq_true_eq, decide_eq_true_eq, Lib.idxOfS_nonneg_iff]
  simp
theorem containsS_any (v : Value) (l : List Str) (x : Str) (w : World) (hl : StrsAt w v l) (hn : l.length ≤ 100000) :
    Calls Tryz.prog 84 #[v, S x] w fun e w' => e = .returned (.bool (decide (x ∈ l))) ∧ w = w' := by
  obtain ⟨a, c, b, o, rfl, ha, hc, hcm, hx⟩ := hl
  by_cases h0 : 0 < l.length
  · obtain rfl := ha h0
    refine (Tryz.slices_Contains_string b o l.length c (l.map fun s => (⟨s.toArray⟩ : ByteArray)) ⟨x.toArray⟩ w (by simp) (by omega) (fun j hj => ?_)).mono ?_
    · have hj' : j < l.length := by simpa using hj
      have := hx j l[j] (by simp [hj']) 0 _ rfl
      simpa [List.getD, hj'] using this
    · rintro e w' ⟨rfl, rfl⟩
      refine ⟨?_, rfl⟩
      rw [List.take_of_length_le (by simp), containsB_mem]
  · have : l = [] := List.eq_nil_of_length_eq_zero (by omega)
    subst this
    refine (Tryz.slices_Contains_string_empty a c ⟨x.toArray⟩ w).mono ?_
    rintro e w' ⟨rfl, rfl⟩
    exact ⟨by simp, rfl⟩

theorem in_any (n lo hi : Int) (w : World) : Calls Tryz.prog 117 #[.int .i64 n, .int .i64 lo, .int .i64 hi] w fun e w' => e = .returned (.bool (inB n lo hi)) ∧ w = w' := by
  unfold inB
  by_cases h1 : lo ≤ n
  · by_cases h2 : n ≤ hi
    · rw [decide_eq_true h1, decide_eq_true h2]
      go_enter Tryz.func117, Tryz.ntmps117
      go_wp2_with fail
      go_ret
      exact ⟨rfl, rfl⟩
    · have g2 := decide_eq_false h2
      rw [decide_eq_true h1, g2]
      clear h2
      go_enter Tryz.func117, Tryz.ntmps117
      go_wp2_with fail
      go_ret
      exact ⟨rfl, rfl⟩
  · have g1 := decide_eq_false h1
    rw [g1]
    clear h1
    go_enter Tryz.func117, Tryz.ntmps117
    go_wp2_with fail
    go_ret
    exact ⟨rfl, rfl⟩

theorem snap_ways (s : Sn) : (snapBound s = true ∧ (inB s.id 1 1073741824 = false ∨ (inB s.id 1 1073741824 = true ∧ (s.parent < 0 ∨ (decide (s.parent < 0) = false ∧ (s.id ≤ s.parent ∨ (decide (s.id ≤ s.parent) = false ∧
    (inB s.seq 0 1073741824 = false ∨ (inB s.seq 0 1073741824 = true ∧ (inB s.day 0 100000 = false ∨ (inB s.day 0 100000 = true ∧ inB s.index 0 1073741824 = false))))))))))) ∨
    (snapBound s = false ∧ inB s.id 1 1073741824 = true ∧ decide (s.parent < 0) = false ∧ decide (s.id ≤ s.parent) = false ∧ inB s.seq 0 1073741824 = true ∧ inB s.day 0 100000 = true ∧ inB s.index 0 1073741824 = true) := by
  unfold snapBound
  cases inB s.id 1 1073741824 <;> cases inB s.seq 0 1073741824 <;> cases inB s.day 0 100000 <;> cases inB s.index 0 1073741824 <;> simp <;> omega

set_option maxHeartbeats 1000000 in
set_option maxRecDepth 20000 in
theorem snapCheck_any (E : Nat → Addr) (B : Nat) (s : Sn) (v : Value) (w : World) (hE : Errs [2, 4, 5, 8, 9] E B w) (hT : LNum B w) (hM : LMax B w) (hl : FilesAt w v s.files) (hs : ∀ x ∈ s.files, midF x) :
    Calls Tryz.prog 50 #[snapV s v] w fun e w' => ∃ ev, e = .returned ev ∧ ErV E w' ev (snapCheck s) ∧ Below w.heap.size w w' := by
  have hBw := hE.le
  have hif := isIfaceE
  have hSC : snapCheck s = if snapBound s = true then .bare 2 else if s.op ∉ kOps then .bare 4 else if listCheck s.files ≠ .nil then listCheck s.files else firstErr (seqFault s) s.files.length := rfl
  have HSC := Lib.hid hSC; clear hSC
  have Hs := Lib.hid hs; clear hs
  have hb0 : Below w.heap.size w (w.alloc (.cells #[.int .i64 s.id, .int .i64 s.parent, .int .i64 s.seq, .int .i64 s.day, .int .i64 s.index, S s.op, v] 30)) := (Below.refl _ _).alloc (Nat.le_refl _) _
  have CS := Lib.hid (fun w6 (h : Below (w.alloc (.cells #[.int .i64 s.id, .int .i64 s.parent, .int .i64 s.seq, .int .i64 s.day, .int .i64 s.index, S s.op, v] 30)).heap.size (w.alloc (.cells #[.int .i64 s.id, .int .i64 s.parent, .int .i64 s.seq, .int .i64 s.day, .int .i64 s.index, S s.op, v] 30)) w6) => snapCells h)
  have V2 := fun w6 (h : Below w.heap.size w w6) => (hE.below' h hBw).var 2 (by decide)
  have V4 := fun w6 (h : Below w.heap.size w w6) => (hE.below' h hBw).var 4 (by decide)
  have V9 := fun w6 (h : Below w.heap.size w w6) => (hE.below' h hBw).var 9 (by decide)
  simp only [errG] at V2 V4 V9
  have U2 := Lib.hid V2; have U4 := Lib.hid V4; have U9 := Lib.hid V9
  clear V2 V4 V9
  have v2 := U2.out _ hb0
  obtain ⟨c0, c1, c2, c3, c4, c5, c6⟩ := CS.out _ (Below.refl _ _)
  go_enter Tryz.func50, Tryz.ntmps50
  go_wp2_with fail
  generalize w.alloc (.cells #[.int .i64 s.id, .int .i64 s.parent, .int .i64 s.seq, .int .i64 s.day, .int .i64 s.index, S s.op, v] 30) = w0 at *
  rcases snap_ways s with ⟨hbd, hw⟩ | ⟨hbd, g1, g2, g3, g4, g5, g6⟩
  · have HC : Hid (snapCheck s = .bare 2) := Lib.hid (by rw [HSC.out, if_pos hbd])
    clear hbd
    rcases hw with g1 | ⟨g1, g2 | ⟨g2, g3 | ⟨g3, g4 | ⟨g4, g5 | ⟨g5, g6⟩⟩⟩⟩⟩
    all_goals
      refine (in_any _ _ _ _).mono ?_
      rintro e w' ⟨rfl, rfl⟩
      go_wp2_with (refine (in_any _ _ _ _).mono ?_; rintro e w' ⟨rfl, rfl⟩)
      go_ret
      exact ⟨_, rfl, by rw [HC.out]; exact ⟨by decide, rfl⟩, hb0⟩
  have hba : Below w0.heap.size w0 (w0.alloc (.cells #[S kStart, S kAppend, S kDelete, S kRewrite] 9)) := (Below.refl _ _).alloc (Nat.le_refl _) _
  have hops : StrsAt (w0.alloc (.cells #[S kStart, S kAppend, S kDelete, S kRewrite] 9)) (.slice (some ⟨w0.heap.size, 0, none⟩) 4 4) kOps := strs_new kOps w0 9 _ 4 _ rfl rfl rfl (by decide)
  have hbw := hb0.trans (hba.mono hb0.size)
  have k5 := (CS.out _ hba).2.2.2.2.2.1
  have v4 := U4.out _ hbw
  have hcn := containsS_any _ kOps s.op _ hops (by decide)
  refine (in_any _ _ _ _).mono ?_
  rintro e w' ⟨rfl, rfl⟩
  by_cases hop : s.op ∈ kOps
  case neg =>
    rw [decide_eq_false hop] at hcn
    have HCn := Lib.hid hcn
    have HC : Hid (snapCheck s = .bare 4) := Lib.hid (by rw [HSC.out, if_neg (by rw [hbd]; simp), if_pos hop])
    clear hop hbd hcn hops
    go_wp2_with (first | (go_at_call 117; refine (in_any _ _ _ _).mono ?_; rintro e w' ⟨rfl, rfl⟩) | (go_at_call 84; refine HCn.out.mono ?_; rintro e w' ⟨rfl, rfl⟩))
    go_ret
    exact ⟨_, rfl, by rw [HC.out]; exact ⟨by decide, rfl⟩, hbw⟩
  rw [decide_eq_true hop] at hcn
  have HCn := Lib.hid hcn
  have HC : Hid (snapCheck s = if listCheck s.files ≠ .nil then listCheck s.files else firstErr (seqFault s) s.files.length) := Lib.hid (by rw [HSC.out, if_neg (by rw [hbd]; simp), if_neg (fun h => h hop)])
  clear hop hbd hcn hops HSC
  go_wp2_with (first | (go_at_call 117; refine (in_any _ _ _ _).mono ?_; rintro e w' ⟨rfl, rfl⟩) | (go_at_call 84; refine HCn.out.mono ?_; rintro e w' ⟨rfl, rfl⟩; have k6 := (CS.out _ hba).2.2.2.2.2.2))
  clear HCn k5 v4 v2 c0 c1 c2 c3 c4 c5 c6 g1 g2 g3 g4 g5 g6
  generalize w0.alloc (.cells #[S kStart, S kAppend, S kDelete, S kRewrite] 9) = w1 at *
  refine (listCheck_any E B v s.files w1 (hE.below' hbw hBw) (hT.below' hbw hBw) (hM.below' hbw hBw) (hl.below hbw) Hs.out).mono ?_
  rintro e w2 ⟨ev, rfl, hev, hb2⟩
  have hb02 := hba.trans (hb2.mono hba.size)
  have hbw2 := hbw.trans (hb2.mono hbw.size)
  by_cases hck : listCheck s.files = .nil
  case neg =>
    obtain ⟨u, x, rfl⟩ := hev.iface hck
    have HC' : Hid (snapCheck s = listCheck s.files) := Lib.hid (by rw [HC.out, if_pos hck])
    have HEv := Lib.hid hev
    clear hck hev
    go_wp2_with fail
    go_ret
    exact ⟨_, rfl, by rw [HC'.out]; exact HEv.out, hbw2⟩
  rw [hck] at hev
  obtain rfl : ev = .nilIface := hev
  have HF : Hid (snapCheck s = firstErr (seqFault s) s.files.length) := Lib.hid (by rw [HC.out, if_neg (fun h => h hck)])
  clear hck HC
  obtain ⟨a, c, b, o, rfl, ha, hc, hcm, hx⟩ := hl
  unfold maxLen at hcm
  have k6 := (CS.out _ hb02).2.2.2.2.2.2
  obtain ⟨fl, hfl⟩ : ∃ fl, s.files = fl := ⟨_, rfl⟩
  rw [hfl] at hx ha hc k6 HF ⊢
  have HFl := Lib.hid hfl; clear hfl
  go_wp2_with fail
  clear k6
  go_loopw [58] (fun i wr => ∃ k : Nat, k ≤ fl.length ∧ i = .int .i64 k ∧ Hid (∀ j < k, seqFault s j = 0) ∧ Below w2.heap.size w2 wr) (fun i _ => fl.length - (intOf i).toNat)
  case atStart => exact ⟨0, by omega, rfl, Lib.hid fun j hj => absurd hj (by omega), Below.refl _ _⟩
  case round =>
    obtain ⟨k, hk, rfl, hj, hb⟩ := hrel
    have hb0r := hb02.trans (hb.mono hb02.size)
    have hbr := hbw2.trans (hb.mono hbw2.size)
    by_cases hlt : k < fl.length
    case neg =>
      obtain rfl : k = fl.length := by omega
      have f : decide ((fl.length : Int) < (fl.length : Int)) = false := by simp
      go_wp2_with fail
      go_ret
      exact ⟨_, rfl, by rw [HF.out, firstErr_all hj.out]; rfl, hbr⟩
    obtain ⟨x, hxk⟩ := get_ex hlt
    obtain ⟨c0, c1, c2, c3, c4, c5⟩ := flCells hx hbr hxk
    have i1 := idx_at (c := c) 6 Tryz.underlying28 szFl ha k hlt
    have hk1 : (k : Int) < (fl.length : Int) := by omega
    have hb3 : Below wr.heap.size wr (wr.alloc (.cells #[S x.path, S x.part, .int .i64 x.n, .int .i64 x.lo, .int .i64 x.hi, .int .i64 x.seq] 50)) := (Below.refl _ _).alloc (Nat.le_refl _) _
    have k2 := (CS.out _ (hb0r.trans (hb3.mono hb0r.size))).2.2.1
    have v9 := U9.out _ (hbr.trans (hb3.mono hbr.size))
    by_cases hsq : s.seq < x.seq
    · have hf : seqFault s k = 9 := by unfold seqFault; rw [HFl.out, hxk]; simp only; rw [if_pos hsq]
      have HL : Hid (snapCheck s = .loc 9 k) := Lib.hid (HF.out.trans ((firstErr_hit hlt hj.out (by rw [hf]; decide)).trans (by rw [hf])))
      clear hf hxk
      go_wp2_with fail
      go_ret
      exact ⟨_, rfl, by rw [HL.out]; exact ErV.fresh (by decide) _ _ _ _ (by simp), (hbr.trans (hb3.mono hbr.size)).alloc (hbr.trans (hb3.mono hbr.size)).size _⟩
    · have hf : seqFault s k = 0 := by unfold seqFault; rw [HFl.out, hxk]; simp only; rw [if_neg hsq]
      have Hf := Lib.hid hf
      have g : decide (s.seq < x.seq) = false := by simpa using hsq
      clear hf hxk hsq
      go_wp2_with fail
      refine ⟨⟨k + 1, by omega, by go_num, (Lib.hid fun j hj' => by
        rcases Nat.lt_or_ge j k with h | h
        · exact hj.out j h
        · obtain rfl : j = k := by omega
          exact Hf.out), hb.trans (hb3.mono hb.size)⟩, ?_⟩
      simp [intOf]; omega
end Go.Proofs.YtikboodjfanjkaaGreatDoor
namespace Go.Proofs.YtikboodjfanjkaaGreatDoor
open Go.RowKit

theorem zero256 : Tryz.zeroCells191 = (List.replicate 256 (Value.int .u32 0)).toArray := by kernel_rfl
/-- The table's cells when k of them are laid. -/
def tabCells (k : Nat) : List Value := (List.range 256).map fun i => Value.int .u32 (if i < k then (crcIter 8 i : Nat) else 0)
theorem tab_zero : (List.replicate 256 (Value.int .u32 0)) = tabCells 0 := by
  unfold tabCells
  generalize 256 = n
  apply List.ext_getElem
  · simp
  · intro i h1 h2; simp
theorem tab_len (k : Nat) : (tabCells k).length = 256 := by simp [tabCells]
theorem tab_set {k : Nat} : (tabCells k).set k (.int .u32 (crcIter 8 k : Nat)) = tabCells (k + 1) := by
  apply List.ext_getElem
  · simp [tabCells]
  · intro i h1 h2
    rw [List.getElem_set]
    split
    · rename_i h; subst h; simp [tabCells]
    · rename_i h
      simp only [tabCells, List.getElem_map, List.getElem_range]
      by_cases h3 : i < k
      · rw [if_pos h3, if_pos (by omega)]
      · rw [if_neg h3, if_neg (by omega)]
theorem tab_at {i : Nat} (hi : i < 256) : (tabCells 256)[i]? = some (.int .u32 (crcIter 8 i : Nat)) := by
  rw [List.getElem?_eq_getElem (by rw [tab_len]; exact hi)]
  simp [tabCells, hi]
theorem tab_one (k : Nat) : (tabCells k).toArray.all (·.oneCell') = true := by
  rw [Array.all_eq_true_iff_forall_mem]
  intro v hv
  simp only [tabCells, List.mem_toArray, List.mem_map] at hv
  obtain ⟨i, _, rfl⟩ := hv
  rfl
/-- The same as an array: not to be opened. -/
def tabA (k : Nat) : Array Value := (tabCells k).toArray
theorem tabA_size (k : Nat) : (tabA k).size = 256 := by unfold tabA; rw [List.size_toArray, tab_len]
theorem tabA_set (k : Nat) : (tabA k).setIfInBounds k (.int .u32 (crcIter 8 k : Nat)) = tabA (k + 1) := by
  unfold tabA; rw [List.setIfInBounds_toArray, tab_set]
theorem tabA_cell (k : Nat) (hk : k < 256) : (tabA k)[k]? = some (.int .u32 0) := by
  unfold tabA
  rw [List.getElem?_toArray, List.getElem?_eq_getElem (by rw [tab_len]; exact hk)]
  simp [tabCells]
theorem tabA_at {i : Nat} (hi : i < 256) : (tabA 256)[i]? = some (.int .u32 (crcIter 8 i : Nat)) := by
  unfold tabA; rw [List.getElem?_toArray, tab_at hi]
theorem tabA_one (k : Nat) : (tabA k).all (·.oneCell') = true := tab_one k
theorem tabA_zero : Tryz.zeroCells191 = tabA 0 := by rw [zero256, tab_zero]; rfl
theorem size256 : (Tryz.prog.info? 191).map (·.size) = some 256 := by kernel_rfl
/-- A bit's round, as the walk spells it. -/
theorem bit_round {c : Nat} (h : c < 4294967296) : bits .xor .u32 ((c : Int) / 2) (IntKind.u32.wrap (3988292384 * bits .and .u32 (c : Int) 1)) = (crcBit c : Nat) ∧ bits .xor .u32 ((c : Int) / 2) (3988292384 * bits .and .u32 (c : Int) 1 % 4294967296) = (crcBit c : Nat) := by
  rw [← IntKind.wrap_u32', and_self]
  have h1 : bits .and .u32 (c : Int) 1 = ((c % 2 : Nat) : Int) := by
    have := u32_and_nat c 1 h (by omega)
    rw [show ((1 : Nat) : Int) = 1 from rfl] at this
    rw [this, Nat.and_one_is_mod]
  rw [h1]
  have h2 : IntKind.u32.wrap (3988292384 * ((c % 2 : Nat) : Int)) = ((crcP * (c % 2) : Nat) : Int) := by
    rw [IntKind.wrap_u32']; unfold crcP; omega
  rw [h2, show ((c : Int) / 2) = ((c / 2 : Nat) : Int) by omega, u32_xor_nat _ _ (by omega) (by unfold crcP; omega)]
  congr 1
  unfold crcBit
  rcases Nat.mod_two_eq_zero_or_one c with h3 | h3
  · rw [h3, if_neg (by omega)]; simp
  · rw [h3, if_pos rfl]; simp
set_option maxHeartbeats 1000000 in
set_option maxRecDepth 20000 in
theorem table_any (w : World) :
    Calls Tryz.prog 152 #[] w fun e w' => e = .returned (.agg (tabA 256)) ∧ Below w.heap.size w w' := by
  have hg1 : ((w.alloc (.cells Tryz.zeroCells191 191)).alloc (.cells Tryz.zeroCells191 191)).heap[w.heap.size + 1]? = some (.cells (tabA 0) 191 (0, 0)) := by
    rw [heap_alloc2_new, tabA_zero]
  have hg0 : ((w.alloc (.cells Tryz.zeroCells191 191)).alloc (.cells Tryz.zeroCells191 191)).heap[w.heap.size]? = some (.cells (tabA 0) 191 (0, 0)) := by
    rw [heap_alloc2_old, tabA_zero]
  have hb0 : Below w.heap.size w ((w.alloc (.cells Tryz.zeroCells191 191)).alloc (.cells Tryz.zeroCells191 191)) := ((Below.refl _ _).alloc (Nat.le_refl _) _).alloc (by simp) _
  have G1 := Lib.hid hg1; have G0 := Lib.hid hg0
  clear hg1 hg0
  go_enter Tryz.func152, Tryz.ntmps152
  go_wp2_with fail
  generalize (w.alloc (.cells Tryz.zeroCells191 191)).alloc (.cells Tryz.zeroCells191 191) = w0 at *
  obtain ⟨H, hH⟩ : ∃ H, w.heap.size = H := ⟨_, rfl⟩
  rw [hH] at G1 G0 hb0 ⊢
  have HH := Lib.hid hH; clear hH
  go_loopw [2, 3, 4, 9] (fun _ _ i _ wr => ∃ k : Nat, k ≤ 256 ∧ i = .int .i64 k ∧ Hid (wr.heap[H + 1]? = some (.cells (tabA k) 191 (0, 0))) ∧ Hid (wr.heap[H]? = some (.cells (tabA 0) 191 (0, 0))) ∧ Below H w wr) (fun _ _ i _ _ => 256 - (intOf i).toNat)
  case atStart => exact ⟨0, by omega, rfl, G1, G0, hb0⟩
  case round =>
    obtain ⟨k, hk, rfl, hg1, hg0, hb⟩ := hrel
    clear G1 G0 hb0
    by_cases hlt : k < 256
    case neg =>
      have f : decide ((k : Int) < 256) = false := by simp; omega
      obtain rfl : k = 256 := by omega
      go_wp2_with (first | (refine wpList_load_row rfl 191 _ rfl (H + 1) rfl 191 (tabA 256) (0, 0) _ hg1.out Tryz.underlying191 rfl (by rw [tabA_size]; exact size256) ?_) | (refine wpList_store_row rfl _ _ _ rfl H (tabA 256) rfl rfl 191 (tabA 0) hg0.out (by rw [tabA_size]; exact size256) (by rw [tabA_size, tabA_size]) (tabA_one _) ?_))
      exact bodyPost_ret (results_cell_row rfl _ _ H 191 (tabA 256) (0, 0) _ rfl (setRow_heap _ H _ _ _ _ hg0.out) Tryz.underlying191 rfl (by rw [tabA_size]; exact size256)) rfl ⟨rfl, by rw [HH.out]; exact hb.grown (grown_setRow wr H _) (Nat.le_of_lt (Array.getElem?_eq_some_iff.1 hg0.out).1) (fun k hk => by cases hk; exact Nat.le_refl _)⟩
    have hlt' : (k : Int) < 256 := by omega
    have hcv : IntKind.u32.wrap (k : Int) = k := by rw [IntKind.wrap_u32']; omega
    go_wp2_with fail
    obtain ⟨wo, rfl⟩ : ∃ wo : World, wo = wr := ⟨_, rfl⟩
    go_loop [3, 9] (fun c j => ∃ m : Nat, m ≤ 8 ∧ j = .int .i64 m ∧ c = .int .u32 (crcIter m k : Nat)) (fun _ j => 8 - (intOf j).toNat)
    case atStart => exact ⟨0, by omega, rfl, rfl⟩
    case round =>
      obtain ⟨m, hm, rfl, rfl⟩ := hrel
      by_cases hm8 : m < 8
      · have hm8' : (m : Int) < 8 := by omega
        have hc : crcIter m k < 4294967296 := crcIter_lt m (by omega)
        have hsu : crcIter (m + 1) k = crcBit (crcIter m k) := crcIter_succ m k
        have HSu := Lib.hid hsu; clear hsu
        generalize crcIter m k = c at *
        have hbr := (bit_round hc).2
        have h1 : (0 : Int) ≤ c := by omega
        have h2 : (c : Int) < 4294967296 := by omega
        go_wp2_with fail
        refine ⟨⟨m + 1, by omega, by go_num, by rw [HSu.out]⟩, ?_⟩
        simp [intOf]; omega
      · obtain rfl : m = 8 := by omega
        have c0 := cell_of_row wo (H + 1) k _ _ _ hg1.out
        rw [tabA_cell k hlt] at c0
        have f0 : wo.frozen? ⟨H + 1, k, none⟩ = false := frozen_row hg1.out
        generalize hcr : crcIter 8 k = cr at *
        go_wp2_with fail
        go_roundw
        case rel => exact ⟨k + 1, by omega, by go_num, Lib.hid (by rw [row_setCell hg1.out, ← hcr, tabA_set]), Lib.hid ((heap_setCell_other _ _ _ _ (by simp)).trans hg0.out), hb.setCell (p := ⟨H + 1, k, none⟩) (by simp) _⟩
        case measure => simp [intOf]; omega
/-- A byte's round, as the walk spells it. -/
theorem sum_round (c : Nat) (b : UInt8) : bits .xor .u8 ((c : Int) % 256) (b.toNat : Int) = ((c % 256 ^^^ b.toNat : Nat) : Int) := by
  rw [show ((c : Int) % 256) = ((c % 256 : Nat) : Int) by omega]
  exact u8_xor_nat _ _ (by omega) (byte_lt b)
theorem sum_round2 {c : Nat} (h : c < 4294967296) (b : UInt8) : bits .xor .u32 ((c : Int) / 256) ((crcIter 8 (c % 256 ^^^ b.toNat) : Nat) : Int) = (crcStep c b : Nat) := by
  have hx : c % 256 ^^^ b.toNat < 2 ^ 8 := Nat.xor_lt_two_pow (by omega) (byte_lt b)
  rw [show ((c : Int) / 256) = ((c / 256 : Nat) : Int) by omega, u32_xor_nat _ _ (by omega) (crcIter_lt 8 (by omega)), crc_table]
set_option maxHeartbeats 1000000 in
set_option maxRecDepth 200000 in
theorem sum_any (s : Str) (w : World) (hs : s.length ≤ 100000) :
    Calls Tryz.prog 116 #[S s] w fun e w' => e = .returned (.int .u32 (sumOf s : Nat)) ∧ Below w.heap.size w w' := by
  go_enter Tryz.func116, Tryz.ntmps116
  go_wp2_with fail
  refine (table_any w).mono ?_
  rintro e w1 ⟨rfl, hb1⟩
  go_wp2_with (refine wpList_store_row rfl _ _ _ rfl w1.heap.size (tabA 256) rfl rfl 191 (tabA 0) (by rw [heap_alloc_new, tabA_zero]) (by rw [tabA_size]; exact size256) (by rw [tabA_size, tabA_size]) (tabA_one _) ?_)
  have hb2 : Below w.heap.size w ((w1.alloc (.cells Tryz.zeroCells191 191)).setRow w1.heap.size (tabA 256)) := (hb1.alloc hb1.size _).grown (grown_setRow _ _ _) (by have := hb1.size; simp; omega) (fun k hk => by cases hk; exact hb1.size)
  have hg2 := setRow_heap (w1.alloc (.cells Tryz.zeroCells191 191)) w1.heap.size _ (tabA 256) _ _ (heap_alloc_new w1 _)
  have G2 := Lib.hid hg2; clear hg2
  generalize (w1.alloc (.cells Tryz.zeroCells191 191)).setRow w1.heap.size (tabA 256) = w2 at *
  generalize w1.heap.size = g at *
  generalize htb : tabA 256 = tb at *
  have HTb := Lib.hid htb; clear htb
  go_loop [4, 9] (fun c i => ∃ k : Nat, k ≤ s.length ∧ i = .int .i64 k ∧ c = .int .u32 (crcFold 4294967295 (s.take k) : Nat)) (fun _ i => s.length - (intOf i).toNat)
  case atStart => exact ⟨0, by omega, rfl, rfl⟩
  case round =>
    obtain ⟨k, hk, rfl, rfl⟩ := hrel
    have hc : crcFold 4294967295 (s.take k) < 4294967296 := crcFold_lt _ (by omega)
    by_cases hlt : k < s.length
    · have hk1 : (k : Int) < s.length := by omega
      have hsn : crcFold 4294967295 (s.take (k + 1)) = crcStep (crcFold 4294967295 (s.take k)) s[k] := by
        rw [take_snoc' (x := s[k]) (by simp [hlt]), crcFold_snoc]
      have HSn := Lib.hid hsn; clear hsn
      generalize crcFold 4294967295 (s.take k) = c at *
      have hbk : (({ data := s.toArray } : ByteArray)[k]'(by simpa [ByteArray.size] using hlt)) = s[k] := rfl
      have hr1 := sum_round c s[k]
      have hr2 := sum_round2 hc s[k]
      have hx8 : c % 256 ^^^ s[k].toNat < 2 ^ 8 := Nat.xor_lt_two_pow (by omega) (byte_lt s[k])
      have hca := cell_of_row w2 g (c % 256 ^^^ s[k].toNat) _ _ _ G2.out
      rw [← HTb.out, tabA_at (by omega)] at hca
      have hx0 : (0 : Int) ≤ ((c % 256 ^^^ s[k].toNat : Nat) : Int) := by omega
      have hx1 : ((c % 256 ^^^ s[k].toNat : Nat) : Int) < 256 := by omega
      have h1 : (0 : Int) ≤ c := by omega
      have h2 : (c : Int) < 4294967296 := by omega
      generalize c % 256 ^^^ s[k].toNat = x at *
      clear hc hb1 hb2 h1 h2
      go_wp2_with fail
      refine ⟨⟨k + 1, by omega, by go_num, by rw [HSn.out]⟩, ?_⟩
      simp [intOf]; omega
    · obtain rfl : k = s.length := by omega
      have hf : bits .xor .u32 IntKind.u32.max ((crcFold 4294967295 (s.take s.length) : Nat) : Int) = (sumOf s : Nat) := by
        rw [List.take_length] at hc ⊢
        have := u32_xor_nat 4294967295 (crcFold 4294967295 s) (by omega) hc
        unfold sumOf
        rw [Nat.xor_comm]
        exact this
      have HF := Lib.hid hf; clear hf
      generalize crcFold 4294967295 (s.take s.length) = c at *
      have HB2 := Lib.hid hb2
      have HS := Lib.hid hs
      clear hc hb1 hb2 hs
      go_wp2_with fail
      go_ret
      exact ⟨show Ending.returned (.int .u32 (bits .xor .u32 IntKind.u32.max (c : Int))) = _ by rw [HF.out], HB2.out⟩
end Go.Proofs.YtikboodjfanjkaaGreatDoor
namespace Go.Proofs.YtikboodjfanjkaaGreatDoor
open Go.RowKit Go.Sort Go.Lib

theorem formatUintI_any (u : Nat) (hu64 : u < 18446744073709551616) (w : World) (htab : Lib.TabIs Tryz.prog w "internal/strconv.uint64pow10" .u64 Lib.pow10Tab) :
    Calls Tryz.prog 151 #[.int .u64 u, .int .i64 10] w fun e w' => e = .returned (.string ⟨(Lib.decDigits u).toArray⟩) ∧ Below w.heap.size w w' := by
  by_cases hs : u < 100
  · have g : (u : Int) < 100 := by omega
    have hc : IntKind.i64.wrap (u : Int) = u := by rw [IntKind.wrap_i64]; omega
    go_enter Tryz.func151, Tryz.ntmps151
    go_wp2_with (go_at_call 185; refine (Tryz.internal_strconv_small u hs _).mono ?_; rintro e w' ⟨rfl, rfl⟩)
    go_ret
    exact ⟨rfl, Below.refl _ _⟩
  · have hu1 : 1 ≤ u := by omega
    have g : decide ((u : Int) < 100) = false := by simp; omega
    have hnd20 : Lib.nDigits u ≤ 20 := by have := Lib.numDigits_eq u hu1 hu64; split at this <;> omega
    have hal : Tryz.prog.arrayLen 227 = 24 := by simp [Program.arrayLen, Tryz.underlying227]
    have hsl : ∀ W, (Instr.sliceAt 227 (.pointer (some ⟨w.heap.size, 0, none⟩)) none (some (.int .i64 (Lib.nDigits u : Int))) none).run Tryz.prog W = .ok (.slice (some ⟨w.heap.size, 0, none⟩) (Lib.nDigits u) 24) W := fun W => by
      rw [run_sliceAt_array_h W 227 ⟨w.heap.size, 0, none⟩ (by simp [Program.arrayLen, Program.elem, Tryz.underlying227]) .i64 (Lib.nDigits u : Int) (by omega) (by rw [hal]; omega)]
      go_simp
    have hH0 := Lib.holds_zero0 w 227 (Lib.nDigits u) (by omega)
    have hfmt := Tryz.internal_strconv_formatBase10 w.heap.size 0 24 u (Array.replicate (Lib.nDigits u) 0) (w.alloc (.cells Lib.zeros24 227)) hH0 (by rw [Array.size_replicate]; exact Lib.lt_pow_nDigits u) hu64 (by rw [Array.size_replicate]; omega)
    rw [Array.size_replicate] at hfmt
    have HH0 := Lib.hid hH0
    clear hH0 hal
    go_enter Tryz.func151, Tryz.ntmps151
    go_wp2_with (go_at_call 186; refine (Tryz.internal_strconv_numDigits u hu1 hu64 _ (Lib.tabIs_alloc htab _)).mono ?_; rintro e w' ⟨rfl, rfl⟩)
    refine hfmt.mono ?_
    rintro e w' ⟨rfl, k, v', dk, rfl, hF⟩
    have hcv : (convert 134 9 (.slice (some ⟨w.heap.size, 0, none⟩) (Lib.nDigits u) 24)).run Tryz.prog ((putRow (fun (b : UInt8) => Value.int .u8 (b.toNat : Int)) (w.alloc (.cells Lib.zeros24 227)) w.heap.size 0 dk).drewN k) = .ok (.string ⟨(Lib.decDigits u).toArray⟩) ((putRow (fun (b : UInt8) => Value.int .u8 (b.toNat : Int)) (w.alloc (.cells Lib.zeros24 227)) w.heap.size 0 dk).drewN k) := by
      have h := run_convert_bytes_back (P := Tryz.prog) ((putRow (fun (b : UInt8) => Value.int .u8 (b.toNat : Int)) (w.alloc (.cells Lib.zeros24 227)) w.heap.size 0 dk).drewN k) 134 9 5 ⟨w.heap.size, 0, none⟩ 24 (Lib.decDigits u) Tryz.underlying134 Tryz.underlying5 Tryz.underlying9 (fun j hj => by
        rw [Lib.row_is_numeral hF j hj, Lib.add_plain, World.cell?_drewN]
        exact cell?_putRow (fun (b : UInt8) => Value.int .u8 (b.toNat : Int)) _ w.heap.size 0 _ dk HH0.out (by rw [hF.size, Array.size_replicate]) j (by rw [hF.size]; rw [Lib.decDigits_length] at hj; exact hj))
      rw [Lib.decDigits_length] at h
      exact h
    go_wp2_with fail
    go_ret
    obtain ⟨os, eo⟩ := Lib.fin_at w (.cells Lib.zeros24 227) dk k 0
    refine ⟨rfl, ?_⟩
    rw [eo]
    exact Bgrow w k os
theorem formatUint_any (B : Nat) (u : Nat) (hu64 : u < 18446744073709551616) (w : World) (hT : LNum B w) :
    Calls Tryz.prog 115 #[.int .u64 u, .int .i64 10] w fun e w' => e = .returned (S (Lib.itoa u)) ∧ Below w.heap.size w w' := by
  have h := formatUintI_any u hu64 w hT.tab
  rw [show Lib.decDigits u = Lib.itoa u from (Lib.itoa_nonneg u).symm] at h
  go_enter Tryz.func115, Tryz.ntmps115
  go_wp2_with fail
  refine h.mono ?_
  rintro e w1 ⟨rfl, hb⟩
  go_wp2_with fail
  go_ret
  exact ⟨rfl, hb⟩
end Go.Proofs.YtikboodjfanjkaaGreatDoor
namespace Go.Proofs
open Go.Shelf
def Tryz.bld166_ren : Go.Shelf.Ren := ⟨fun | 166 => 92 | 240 => 140 | 276 => 172 | n => n, fun | 0 => 0 | 3 => 3 | 4 => 4 | 5 => 5 | 9 => 9 | 20 => 20 | 37 => 134 | 70 => 133 | 72 => 136 | 75 => 62 | 80 => 139 | 164 => 210 | n => n, fun | n => n⟩
theorem Tryz.bld166 : Go.Proofs.Lays.n166 Tryz.prog Tryz.bld166_ren := {
  mixed := by kernel_rfl
  f166 := Tryz.func92.trans (congrArg some (by kernel_rfl))
  f240 := Tryz.func140.trans (congrArg some (by kernel_rfl))
  f276 := Tryz.func172.trans (congrArg some (by kernel_rfl))
  t0 := Tryz.underlying0
  a0 := Tryz.isAgg0
  z0 := Tryz.sizeOf0
  v0 := Tryz.zeroValue0
  t3 := Tryz.underlying3
  a3 := Tryz.isAgg3
  z3 := Tryz.sizeOf3
  v3 := Tryz.zeroValue3
  t4 := Tryz.underlying4
  a4 := Tryz.isAgg4
  z4 := Tryz.sizeOf4
  v4 := Tryz.zeroValue4
  t9 := Tryz.underlying9
  a9 := Tryz.isAgg9
  z9 := Tryz.sizeOf9
  v9 := Tryz.zeroValue9
  t20 := Tryz.underlying20
  a20 := Tryz.isAgg20
  z20 := Tryz.sizeOf20
  v20 := Tryz.zeroValue20
  t37 := Tryz.underlying134
  a37 := Tryz.isAgg134
  z37 := Tryz.sizeOf134
  v37 := Tryz.zeroValue134
  t70 := Tryz.underlying133
  a70 := Tryz.isAgg133
  z70 := Tryz.sizeOf133
  v70 := Tryz.zeroValue133
  t72 := Tryz.underlying136
  a72 := Tryz.isAgg136
  z72 := Tryz.sizeOf136
  v72 := Tryz.zeroValue136
  t75 := Tryz.underlying62
  a75 := Tryz.isAgg62
  z75 := Tryz.sizeOf62
  v75 := Tryz.zeroValue62
  t164 := Tryz.underlying210
  a164 := Tryz.isAgg210
  z164 := Tryz.sizeOf210
  v164 := Tryz.zeroValue210 }
theorem Tryz.bldX166 : Builder.Extra Tryz.prog Tryz.bld166_ren where
  sizeBuilder := by kernel_rfl
  liesBuilder := by kernel_rfl
  t5 := Tryz.underlying5
  a5 := Tryz.isAgg5
  z5 := Tryz.sizeOf5
  v5 := Tryz.zeroValue5
  infoByte := by kernel_rfl
  cellsByte := by kernel_rfl
  sizeByte := by kernel_rfl
  neB5 := by decide
end Go.Proofs
namespace Go.Proofs.YtikboodjfanjkaaGreatDoor
open Go.RowKit
/-- A builder of the call's own that holds the text s. -/
abbrev BldAt (B b : Nat) (s : Str) (w : World) : Prop := Lib.IsBuilder 136 5 B b (Lib.byteCells s) w
theorem bldWrite_any (B b : Nat) (s t : Str) (w : World) (h : BldAt B b s w) (hl : s.length + t.length ≤ 1000000) (hB : B ≤ w.heap.size) :
    Calls Tryz.prog 92 #[.pointer (some ⟨b, 0, none⟩), S t] w fun e w' => e = .returned (.tuple #[.int .i64 t.length, .nilIface]) ∧ BldAt B b (s ++ t) w' ∧ Below B w w' := by
  refine (Any.Builder_WriteString Tryz.bld166 Tryz.bldX166 B b (Lib.byteCells s) ⟨t.toArray⟩ w h (by simp [Lib.byteCells, ByteArray.size]; omega) hB).mono ?_
  rintro e w' ⟨rfl, h1, h2⟩
  refine ⟨by simp [ByteArray.size], .inr ?_, h2⟩
  have e1 : Lib.byteCells s ++ Lib.strCells ⟨t.toArray⟩ = Lib.byteCells (s ++ t) := by simp [Lib.byteCells, Lib.strCells]
  rw [← e1]
  exact h1
theorem bldString_any (B b : Nat) (s : Str) (w : World) (h : BldAt B b s w) (hB : B ≤ w.heap.size) :
    Calls Tryz.prog 94 #[.pointer (some ⟨b, 0, none⟩)] w fun e w' => e = .returned (S s) ∧ Below B w w' :=
  Tryz.Builder_String_any B b s w h hB
end Go.Proofs.YtikboodjfanjkaaGreatDoor
