/- list.Read: the walk. -/
import Derived.Test.YtpicofkmeijioaaGreatDoorFlQ
namespace Go.Proofs.YtpicofkmeijioaaGreatDoor
open Go.RowKit

/-- The lines that were read. -/
def readOf (ls : List Str) : List Fl := ls.map fun x => (fileRead x).1
theorem linesE_full {ls : List Str} (h : 60 < manyL ls) : linesE ls = .bare 8 := by unfold linesE; rw [if_pos h]
theorem linesE_few {ls : List Str} (h : ¬ 60 < manyL ls) : linesE ls = firstErr (lineFault ls) (manyL ls) := by unfold linesE; rw [if_neg h]
theorem manyL_ge (ls : List Str) : ls.length - 1 ≤ manyL ls ∧ manyL ls ≤ ls.length := by unfold manyL; split <;> omega
theorem last_at {ls : List Str} {x : Str} (h : ls[ls.length - 1]? = some x) : ls.getLast?.getD [] = x := by
  rw [List.getLast?_eq_getElem?, h]; rfl
theorem manyL_nil {ls : List Str} (h : ls[ls.length - 1]? = some []) : manyL ls = ls.length - 1 := by
  unfold manyL; rw [last_at h, if_pos rfl]
theorem manyL_ne {ls : List Str} {x : Str} (h : ls[ls.length - 1]? = some x) (hx : x ≠ []) : manyL ls = ls.length := by
  unfold manyL; rw [last_at h, if_neg hx]
theorem lineFault_last {ls : List Str} {x : Str} {k : Nat} (h : ls[k]? = some x) (hk : k + 1 = ls.length) : lineFault ls k = 1 := by
  unfold lineFault; rw [h]; simp only; rw [if_pos hk]
theorem lineFault_bad {ls : List Str} {x : Str} {k : Nat} (h : ls[k]? = some x) (hk : ¬ k + 1 = ls.length) (hx : (fileRead x).2 ≠ 0) : lineFault ls k = (fileRead x).2 := by
  unfold lineFault; rw [h]; simp only; rw [if_neg hk, if_pos hx]
theorem lineFault_zero {ls : List Str} {x : Str} (h : ls[0]? = some x) (hk : ¬ 1 = ls.length) (hx : (fileRead x).2 = 0) : lineFault ls 0 = 0 := by
  unfold lineFault; rw [h]; simp only; rw [if_neg (by simpa using hk), if_neg (by simpa using hx), if_neg (by simp)]
theorem lineFault_ord {ls : List Str} {x y : Str} {k : Nat} (h : ls[k]? = some x) (hk : ¬ k + 1 = ls.length) (hx : (fileRead x).2 = 0) (h0 : 0 < k) (hy : ls[k - 1]? = some y) (hc : cmpP (fileRead x).1.path (fileRead y).1.path ≤ 0) : lineFault ls k = 9 := by
  unfold lineFault; rw [h]; simp only; rw [if_neg hk, if_neg (by simpa using hx), if_pos ⟨h0, y, hy, hc⟩]
theorem lineFault_fine {ls : List Str} {x y : Str} {k : Nat} (h : ls[k]? = some x) (hk : ¬ k + 1 = ls.length) (hx : (fileRead x).2 = 0) (hy : ls[k - 1]? = some y) (hc : ¬ cmpP (fileRead x).1.path (fileRead y).1.path ≤ 0) : lineFault ls k = 0 := by
  unfold lineFault; rw [h]; simp only; rw [if_neg hk, if_neg (by simpa using hx), if_neg]
  rintro ⟨_, g, hg, hle⟩
  rw [hy] at hg
  cases hg
  exact hc hle
theorem erOf_bad {c : Nat} (h : c ≠ 0) : erOf c = .bare c := if_neg h
theorem erOf_nil {c : Nat} (h : c = 0) : erOf c = .nil := if_pos h
theorem readOf_at {ls : List Str} {k j : Nat} {y : Str} (h : ls[j]? = some y) (hj : j < k) : (readOf (ls.take k))[j]? = some (fileRead y).1 := by
  unfold readOf; rw [List.getElem?_map, List.getElem?_take_of_lt hj, h]; rfl
theorem readOf_snoc {ls : List Str} {k : Nat} {x : Str} (h : ls[k]? = some x) : readOf (ls.take (k + 1)) = readOf (ls.take k) ++ [(fileRead x).1] := by
  unfold readOf; rw [take_snoc' h, List.map_append]; rfl

theorem Own.cells {α : Type} {enc : α → List Value} {e : TypeId} {sz B : Nat} {w : World} {l : List α} {g n c : Nat} (hen : Enc enc sz) (h : Own enc e sz B w (.slice (some ⟨g, 0, none⟩) n c) l) : ∀ (k : Nat) (x : α), l[k]? = some x → ∀ (j : Nat) (u : Value), (enc x)[j]? = some u → w.cell? ⟨g, k * sz + j, none⟩ = some u := by
  obtain ⟨_, _, b', o', hv', hga, _, _, hx'⟩ := h.at hen
  intro k x hk j u hu
  simp only [Value.slice.injEq] at hv'
  have hga' := hv'.1.trans (hga (by have := (List.getElem?_eq_some_iff.1 hk).1; omega))
  simp only [Option.some.injEq, Addr.mk.injEq, and_true] at hga'
  obtain ⟨rfl, rfl⟩ := hga'
  have := hx' k x hk j u hu
  simpa using this
theorem Own.cells1 {α : Type} {enc : α → List Value} {e : TypeId} {B : Nat} {w : World} {l : List α} {g n c : Nat} {f : α → Value} (hen : Enc enc 1) (hf : ∀ x, enc x = [f x]) (h : Own enc e 1 B w (.slice (some ⟨g, 0, none⟩) n c) l) : ∀ (k : Nat) (x : α), l[k]? = some x → w.cell? ⟨g, k, none⟩ = some (f x) := by
  intro k x hk
  have := h.cells hen k x hk 0 (f x) (by rw [hf]; rfl)
  simpa using this

theorem fileRead_len {s : Str} {m : Nat} (h : s.length ≤ m) : (fileRead s).1.path.length ≤ m ∧ (fileRead s).1.part.length ≤ m := by
  have hm := fun p hp => Nat.le_trans (cutAt_mem_len (c := 32) (s := s) (p := p) hp) h
  unfold fileRead
  cases hf : fileOf (cutAt 32 s) with
  | none => exact ⟨Nat.zero_le _, Nat.zero_le _⟩
  | some f =>
    simp only
    split
    · generalize cutAt 32 s = L at *
      unfold fileOf at hf
      split at hf
      · split at hf
        · cases hf; exact ⟨hm _ (by simp), hm _ (by simp)⟩
        · cases hf
      · cases hf
    · exact ⟨Nat.zero_le _, Nat.zero_le _⟩
set_option maxHeartbeats 1600000 in
set_option maxRecDepth 20000 in
theorem listRead_any (E : Nat → Addr) (B : Nat) (s : Str) (w : World) (hE : Errs [1, 2, 4, 5, 8, 9] E B w) (hT : LNum B w) (hM : LMax B w) (hs : s.length ≤ 10000) :
    Calls Tryz.prog 33 #[S s] w fun e w' => ∃ u ev, e = .returned (.tuple #[u, ev]) ∧ FilesAt w' u (listReadL s) ∧ ErV E w' ev (listReadE s) ∧ Below w.heap.size w w' := by
  have hBw := hE.le
  have hif := isIfaceE
  have hR : listReadE s = linesE (cutAt 10 s) := rfl
  have hL : listReadL s = if listReadE s = .nil then readOf ((cutAt 10 s).take (manyL (cutAt 10 s))) else [] := rfl
  have hsp := split1_any B s 10 w hM (by omega)
  have hpos : 0 < (cutAt 10 s).length := by rw [cutAt_length]; omega
  have hcnt : (cutAt 10 s).length ≤ 10001 := by
    rw [cutAt_length]
    have h2 : s.count 10 ≤ s.length := List.count_le_length
    omega
  have hln : ∀ x ∈ cutAt 10 s, x.length ≤ 10000 := fun p hp => by
    have := cutAt_mem_len (c := 10) hp; omega
  have V1 := fun w6 (h : Below w.heap.size w w6) => (hE.below' h hBw).var 1 (by decide)
  have V8 := fun w6 (h : Below w.heap.size w w6) => (hE.below' h hBw).var 8 (by decide)
  have V9 := fun w6 (h : Below w.heap.size w w6) => (hE.below' h hBw).var 9 (by decide)
  simp only [errG] at V1 V8 V9
  have U1 := Lib.hid V1; have U8 := Lib.hid V8; have U9 := Lib.hid V9
  clear V1 V8 V9
  generalize cutAt 10 s = ls at *
  obtain ⟨n, hn⟩ : ∃ n, ls.length = n := ⟨_, rfl⟩
  rw [hn] at hsp hpos hcnt
  obtain ⟨lst, hlst⟩ := get_ex (l := ls) (k := n - 1) (by omega)
  have hmg := manyL_ge ls
  have hmn := fun (h : lst = []) => manyL_nil (ls := ls) (by rw [hn, hlst, h])
  have hme := fun (h : lst ≠ []) => manyL_ne (ls := ls) (by rw [hn]; exact hlst) h
  rw [hn] at hmg hmn hme
  have HR := Lib.hid hR; have HL := Lib.hid hL; have HLn := Lib.hid hln
  have HN := Lib.hid hn; have HLst := Lib.hid hlst; have HMn := Lib.hid hmn; have HMe := Lib.hid hme
  clear hR hL hln hn hlst hmn hme
  have ix := fun (k : Nat) (hk : k < n) => idx_at (P := Tryz.prog) (c := n) (o := 0) (b := w.heap.size) 1 Tryz.underlying24 szStr (fun _ => rfl) k hk
  simp only [Nat.mul_one, Nat.zero_add] at ix
  have IX := Lib.hid ix; clear ix
  have iL := IX.out (n - 1) (by omega)
  have hcast : ((n - 1 : Nat) : Int) = (n : Int) - 1 := by omega
  simp only [hcast] at iL
  clear hcast
  have hj0 : (0 : Int) ≤ (n : Int) - 1 := by omega
  have hj1 : (n : Int) - 1 < (n : Int) := by omega
  obtain ⟨ml, hml⟩ : ∃ ml, manyL ls = ml := ⟨_, rfl⟩
  rw [hml] at hmg
  have HML := Lib.hid hml; clear hml
  go_enter Tryz.func33, Tryz.ntmps33
  go_wp2_with fail
  refine hsp.mono ?_
  rintro e w1 ⟨rfl, hown, hb1⟩
  clear hsp
  have hx := hown.cells1 (f := S) encS_enc (fun _ => rfl)
  have HX := Lib.hid hx; clear hx hown
  have cL := HX.out _ _ HLst.out
  have v8 := U8.out _ hb1
  by_cases h1 : 60 < n - 1
  · have g1 : (60 : Int) < (n : Int) - 1 := by omega
    have HF : Hid (listReadE s = .bare 8) := Lib.hid (by rw [HR.out]; exact linesE_full (by rw [HML.out]; omega))
    clear h1
    go_wp2_with fail
    go_quiet (fail)
    go_wp2_with fail
    go_ret2
    exact ⟨_, _, rfl, by rw [HL.out, HF.out]; exact At.nil _ _ _, by rw [HF.out]; exact ⟨by decide, rfl⟩, Bdn hb1 _⟩
  have g1 : decide ((60 : Int) < (n : Int) - 1) = false := by simp; omega
  by_cases hB : 60 < n ∧ lst ≠ []
  · obtain ⟨h2, h3⟩ := hB
    have g2 : (60 : Int) < (n : Int) := by omega
    have g3 : (!lst.isEmpty) = true := by simpa using h3
    have HF : Hid (listReadE s = .bare 8) := Lib.hid (by rw [HR.out]; exact linesE_full (by rw [HMe.out h3]; omega))
    clear h1 h2 h3
    go_wp2_with fail
    go_quiet (fail)
    go_wp2_with fail
    go_ret2
    exact ⟨_, _, rfl, by rw [HL.out, HF.out]; exact At.nil _ _ _, by rw [HF.out]; exact ⟨by decide, rfl⟩, Bdn hb1 _⟩
  have hg : (decide ((60 : Int) < (n : Int)) = false) ∨ ((60 : Int) < (n : Int) ∧ lst = []) := by
    by_cases h2 : 60 < n
    · exact .inr ⟨by omega, Decidable.not_not.1 fun h => hB ⟨h2, h⟩⟩
    · exact .inl (by simp; omega)
  have hm60 : ¬ 60 < ml := by
    rcases hg with h | ⟨h, h3⟩
    · simp at h; omega
    · have := HMn.out h3; rw [HML.out] at this; omega
  have HF : Hid (listReadE s = firstErr (lineFault ls) ml) := Lib.hid (by rw [HR.out, linesE_few (by rw [HML.out]; exact hm60), HML.out])
  clear hB h1 v8
  rcases hg with g2 | ⟨g2, g3'⟩
  case' inr =>
    have g3 : (!lst.isEmpty) = false := by rw [g3']; rfl
    clear g3'
  all_goals
    go_wp2_with fail
    go_loopw [2, 3, 6, 35] (fun r1 r2 out i wr => r1 = .slice none 0 0 ∧ r2 = .nilIface ∧ ∃ k : Nat, k < n ∧ i = .int .i64 k ∧ Hid (∀ j < k, lineFault ls j = 0) ∧ Own encF 50 6 w1.heap.size wr out (readOf (ls.take k)) ∧ Below w1.heap.size w1 wr) (fun _ _ _ i _ => n - (intOf i).toNat)
    case atStart => exact ⟨rfl, rfl, 0, hpos, rfl, Lib.hid fun j hj => absurd hj (by omega), Own.nil _ _ _ _ _, Below.refl _ _⟩
    case round =>
      obtain ⟨rfl, rfl, k, hk, rfl, hj, ho, hb⟩ := hrel
      have hbw := hb1.trans (hb.mono hb1.size)
      clear cL iL
      obtain ⟨x, hxk⟩ := get_ex (l := ls) (k := k) (by rw [HN.out]; exact hk)
      have c1 := HX.out k x hxk
      have c1 := (hb.cell (World.block_lt_of_cell? w1 _ c1)).trans c1
      have i1 := IX.out k hk
      have hk1 : (k : Int) < (n : Int) := by omega
      have hxl := HLn.out x (List.mem_of_getElem? hxk)
      have Hxk := Lib.hid hxk; clear hxk
      have hb' : Below w.heap.size w wr := hbw
      have hRd := fileRead_any E B x wr ((hE.sub (by decide)).below' hbw hBw) (hT.below' hbw hBw) (hM.below' hbw hBw) hxl
      have HRd := Lib.hid hRd; clear hRd
      by_cases hlast : k = n - 1
      · have gk : ((k : Int) == (n : Int) - 1) = true := by simp; omega
        have hxl' : x = lst := by have h1 := Hxk.out; rw [hlast, HLst.out] at h1; exact (Option.some.inj h1).symm
        by_cases hx0 : x = []
        · subst hx0
          have hmk := HMn.out hxl'.symm
          have hE0 : listReadE s = .nil := by rw [HF.out]; exact firstErr_all fun j hj' => hj.out j (by rw [HML.out] at hmk; omega)
          have hL0 : listReadL s = readOf (ls.take k) := by rw [HL.out, if_pos hE0, hmk, hlast]
          have HE0 := Lib.hid hE0; have HL0 := Lib.hid hL0
          clear hE0 hL0 hmk hxl' hlast
          go_wp2_with fail
          go_ret2
          exact ⟨_, _, rfl, by rw [HL0.out]; exact ho.at encF_enc, by rw [HE0.out]; rfl, hbw⟩
        · have gx : x.isEmpty = false := by simpa using hx0
          have hmk := HMe.out (hxl' ▸ hx0)
          have hf := lineFault_last Hxk.out (by rw [HN.out]; omega)
          have hE0 : listReadE s = .loc 1 k := by
            rw [HF.out, ← hf]; refine firstErr_hit (by rw [HML.out] at hmk; omega) hj.out (by rw [hf]; decide)
          have hL0 : listReadL s = [] := by rw [HL.out, hE0]; rfl
          have HE0 := Lib.hid hE0; have HL0 := Lib.hid hL0
          clear hE0 hL0 hmk hxl' hlast hx0 hf
          go_wp2_with fail
          refine HRd.out.mono ?_
          rintro e w2 ⟨ev, rfl, hev, hb2⟩
          have hb2' := hbw.trans (hb2.mono hbw.size)
          clear hev
          generalize fileRead x = fx at *
          have hb3 : Below w.heap.size w (w2.alloc (.cells #[S fx.1.path, S fx.1.part, .int .i64 fx.1.n, .int .i64 fx.1.lo, .int .i64 fx.1.hi, .int .i64 fx.1.seq] 50)) := hb2'.alloc hb2'.size _
          have v1 := U1.out _ hb3
          go_wp2_with fail
          go_ret2
          exact ⟨_, _, rfl, by rw [HL0.out]; exact At.nil _ _ _, by rw [HE0.out]; exact ErV.fresh (by decide) _ _ _ _ (by simp), hb3.alloc hb3.size _⟩
      have gk : ((k : Int) == (n : Int) - 1) = false := by simp; omega
      have hkn : ¬ k + 1 = ls.length := by rw [HN.out]; omega
      have hkl : k < ml := by omega
      have hkn1 : k + 1 < n := by omega
      have HKN := Lib.hid hkn
      clear hkn hlast hxl
      by_cases hck : (fileRead x).2 = 0
      case neg =>
        have hf := lineFault_bad Hxk.out HKN.out hck
        have hE0 : listReadE s = .loc (fileRead x).2 k := by
          rw [HF.out, ← hf]; exact firstErr_hit hkl hj.out (by rw [hf]; exact hck)
        have hL0 : listReadL s = [] := by rw [HL.out, hE0]; rfl
        have hfe := erOf_bad hck
        have HE0 := Lib.hid hE0; have HL0 := Lib.hid hL0; have HFE := Lib.hid hfe
        clear hE0 hL0 hf hfe hck
        go_wp2_with fail
        refine HRd.out.mono ?_
        rintro e w2 ⟨ev, rfl, hev, hb2⟩
        have hb2' := hbw.trans (hb2.mono hbw.size)
        rw [HFE.out] at hev
        obtain ⟨hcr, rfl⟩ := hev
        clear HRd
        generalize fileRead x = fx at *
        have hb3 : Below w.heap.size w (w2.alloc (.cells #[S fx.1.path, S fx.1.part, .int .i64 fx.1.n, .int .i64 fx.1.lo, .int .i64 fx.1.hi, .int .i64 fx.1.seq] 50)) := hb2'.alloc hb2'.size _
        obtain ⟨ce, hce⟩ : ∃ ce, fx.2 = ce := ⟨_, rfl⟩
        rw [hce] at hcr HE0 ⊢
        clear hce
        go_wp2_with fail
        go_quiet (fail)
        go_wp2_with fail
        go_ret2
        exact ⟨_, _, rfl, by rw [HL0.out]; exact At.nil _ _ _, by rw [HE0.out]; exact ErV.fresh hcr _ _ _ _ (by simp), (Bdn hb3 _).alloc hb3.size _⟩
      have HK := Lib.hid hck; clear hck
      have hsn := readOf_snoc Hxk.out
      have hql : (readOf (ls.take k)).length = k := by unfold readOf; rw [List.length_map, List.length_take, HN.out]; omega
      have hfk : (k = 0 ∧ lineFault ls k = 0) ∨ (0 < k) := by
        rcases Nat.eq_zero_or_pos k with h | h
        · left; refine ⟨h, ?_⟩; subst h; exact lineFault_zero Hxk.out (by have := HKN.out; omega) HK.out
        · exact .inr h
      have hy : 0 < k → ∃ y, ls[k - 1]? = some y ∧ (readOf (ls.take k))[k - 1]? = some (fileRead y).1 := fun h => by
        obtain ⟨y, hy⟩ := get_ex (l := ls) (k := k - 1) (by rw [HN.out]; omega)
        exact ⟨y, hy, readOf_at hy (by omega)⟩
      have hyl := fun y (hy : ls[k - 1]? = some y) => HLn.out y (List.mem_of_getElem? hy)
      have HYL := Lib.hid hyl; clear hyl
      generalize readOf (ls.take k) = q at *
      have HQl := Lib.hid hql; have HSn := Lib.hid hsn
      clear hql hsn
      rcases hfk with ⟨h0, hf⟩ | hk0
      · have gk0 : decide (0 < k) = false := by simp [h0]
        have Hf := Lib.hid hf; have H0 := Lib.hid h0
        clear hf h0 hy HYL
        go_wp2_with fail
        refine HRd.out.mono ?_
        rintro e w2 ⟨ev, rfl, hev, hb2⟩
        rw [erOf_nil HK.out] at hev
        obtain rfl : ev = .nilIface := hev
        have hb2' := hb.trans (hb2.mono hb.size)
        have ho2 := ho.below hb2
        clear HRd HK
        generalize fileRead x = fx at *
        have hb3 : Below w1.heap.size w1 (w2.alloc (.cells #[S fx.1.path, S fx.1.part, .int .i64 fx.1.n, .int .i64 fx.1.lo, .int .i64 fx.1.hi, .int .i64 fx.1.seq] 50)) := hb2'.alloc hb2'.size _
        have ho3 := ho2.alloc (.cells #[S fx.1.path, S fx.1.part, .int .i64 fx.1.n, .int .i64 fx.1.lo, .int .i64 fx.1.hi, .int .i64 fx.1.seq] 50)
        have CF := Lib.hid (fun w6 (h : Below (w2.alloc (.cells #[S fx.1.path, S fx.1.part, .int .i64 fx.1.n, .int .i64 fx.1.lo, .int .i64 fx.1.hi, .int .i64 fx.1.seq] 50)).heap.size (w2.alloc (.cells #[S fx.1.path, S fx.1.part, .int .i64 fx.1.n, .int .i64 fx.1.lo, .int .i64 fx.1.hi, .int .i64 fx.1.seq] 50)) w6) => fileCells (f := fx.1) rfl h)
        go_wp2_with fail
        go_quiet (fail)
        obtain ⟨c0, c1, c2, c3, c4, c5⟩ := CF.out _ (Bdn (Below.refl _ _) nq)
        have hb3 := Bdn hb3 nq
        have ho3 := ho3.below (Bdn (Below.refl _ _) nq)
        clear CF
        generalize (w2.alloc (.cells #[S fx.1.path, S fx.1.part, .int .i64 fx.1.n, .int .i64 fx.1.lo, .int .i64 fx.1.hi, .int .i64 fx.1.seq] 50)).drewN nq = w3 at *
        go_wp2_with (at_builtin; refine wpList_app rfl _ _ _ rfl w1.heap.size elFl _ q.length _ rfl (ho3.alloc _) (.slice (some ⟨w3.heap.size, 0, none⟩) 1 1) 1 (encF fx.1) rfl (src_one rfl rfl (by simp [Value.oneCell'])) (by rw [HQl.out]; unfold maxLen; omega) (by rw [HQl.out]; omega) (by have := hb3.size; simp; omega) ?_; intro v' w4 hown hg _)
        go_roundw
        case rel => exact ⟨rfl, rfl, k + 1, by omega, by go_num, (Lib.hid fun j hj' => by
          obtain rfl : j = k := by have := H0.out; omega
          exact Hf.out), by rw [HSn.out]; exact Own.snoc hown, Bapp (hb3.alloc hb3.size _) (ho3.alloc _) hg (Nat.le_refl _) (by have := hb3.size; simp; omega)⟩
        case measure => simp [intOf]; omega
      obtain ⟨y, hyk, hqk⟩ := hy hk0
      have hyl := fileRead_len (HYL.out y hyk)
      have hxl' := fileRead_len (HLn.out x (List.mem_of_getElem? Hxk.out))
      clear hy HYL
      have gk0 : decide (0 < k) = true := decide_eq_true hk0
      have hk01 : (1 : Int) ≤ k := by omega
      have hk02 : (0 : Int) ≤ (k : Int) - 1 := by omega
      have hk03 : (k : Int) - 1 < (k : Int) := by omega
      have hwk : IntKind.i64.wrap ((k : Int) - 1) = (k : Int) - 1 := by rw [IntKind.wrap_i64]; omega
      obtain ⟨g2', cap, cur, rfl, hBg, _, hcap, hmx, _, _⟩ := ho.open (by rw [HQl.out]; omega)
      rw [HQl.out] at ho hcap ⊢
      have i2 := idx_at (c := cap) (o := 0) (b := g2') (n := k) 6 Tryz.underlying28 szFl (fun _ => rfl) (k - 1) (by omega)
      have hcast : ((k - 1 : Nat) : Int) = (k : Int) - 1 := by omega
      simp only [hcast, Nat.zero_add] at i2
      have d0 := ho.cells encF_enc (k - 1) _ hqk 0 _ rfl
      have hfo := fun h => lineFault_ord Hxk.out HKN.out HK.out hk0 hyk h
      have hff := fun h => lineFault_fine Hxk.out HKN.out HK.out hyk h
      have HOrd := Lib.hid hfo; have HFF := Lib.hid hff
      clear hfo hff hcast hyk hqk
      go_wp2_with fail
      refine HRd.out.mono ?_
      rintro e w2 ⟨ev, rfl, hev, hb2⟩
      rw [erOf_nil HK.out] at hev
      obtain rfl : ev = .nilIface := hev
      have hb2' := hb.trans (hb2.mono hb.size)
      have ho2 := ho.below hb2
      have d0 := (hb2.cell (World.block_lt_of_cell? wr _ d0)).trans d0
      clear HRd HK c1 ho hbw hb'
      generalize fileRead x = fx at *
      generalize fileRead y = fy at *
      have hb3 : Below w1.heap.size w1 (w2.alloc (.cells #[S fx.1.path, S fx.1.part, .int .i64 fx.1.n, .int .i64 fx.1.lo, .int .i64 fx.1.hi, .int .i64 fx.1.seq] 50)) := hb2'.alloc hb2'.size _
      have hb2a : Below w2.heap.size w2 (w2.alloc (.cells #[S fx.1.path, S fx.1.part, .int .i64 fx.1.n, .int .i64 fx.1.lo, .int .i64 fx.1.hi, .int .i64 fx.1.seq] 50)) := (Below.refl _ _).alloc (Nat.le_refl _) _
      have d0 := (hb2a.cell (World.block_lt_of_cell? w2 _ d0)).trans d0
      have ho3 := ho2.alloc (.cells #[S fx.1.path, S fx.1.part, .int .i64 fx.1.n, .int .i64 fx.1.lo, .int .i64 fx.1.hi, .int .i64 fx.1.seq] 50)
      have CF := Lib.hid (fun w6 (h : Below (w2.alloc (.cells #[S fx.1.path, S fx.1.part, .int .i64 fx.1.n, .int .i64 fx.1.lo, .int .i64 fx.1.hi, .int .i64 fx.1.seq] 50)).heap.size (w2.alloc (.cells #[S fx.1.path, S fx.1.part, .int .i64 fx.1.n, .int .i64 fx.1.lo, .int .i64 fx.1.hi, .int .i64 fx.1.seq] 50)) w6) => fileCells (f := fx.1) rfl h)
      have p0 := (CF.out _ (Below.refl _ _)).1
      go_wp2_with fail
      generalize (w2.alloc (.cells #[S fx.1.path, S fx.1.part, .int .i64 fx.1.n, .int .i64 fx.1.lo, .int .i64 fx.1.hi, .int .i64 fx.1.seq] 50)) = w2b at *
      have hb3d := hb3.drew
      have hbw3 := hb1.trans (hb3d.mono hb1.size)
      have hC := listCompare_any E B fx.1.path fy.1.path w2b.drew ((hE.sub (by decide)).below' hbw3 hBw) (hT.below' hbw3 hBw) (hM.below' hbw3 hBw) (by have := hxl'.1; omega) (by have := hyl.1; omega)
      obtain ⟨cv, hcv⟩ : ∃ cv, cmpP fx.1.path fy.1.path = cv := ⟨_, rfl⟩
      rw [hcv] at hC HOrd HFF
      have HC := Lib.hid hC
      clear hC hcv
      by_cases hle : cv ≤ 0
      · have hf := HOrd.out hle
        have hE0 : listReadE s = .loc 9 k := by
          rw [HF.out, ← hf]; exact firstErr_hit hkl hj.out (by rw [hf]; decide)
        have hL0 : listReadL s = [] := by rw [HL.out, hE0]; rfl
        have HE0 := Lib.hid hE0; have HL0 := Lib.hid hL0
        clear hE0 hL0 hf
        go_region_held3 (fun w' => w'.cell? ⟨w2.heap.size, 0, none⟩ = some (S fx.1.path) ∧ w'.cell? ⟨g2', (k - 1) * 6, none⟩ = some (S fy.1.path)) (exact ⟨p0, d0⟩) (first | (go_at_call 88; refine HC.out.mono ?_; rintro e w3 ⟨rfl, hb4⟩; have p0' := (hb4.cell (World.block_lt_of_cell? w2b _ p0)).trans p0; have d0' := (hb4.cell (World.block_lt_of_cell? w2b _ d0)).trans d0; clear p0 d0; have p0 := p0'; have d0 := d0'; clear p0' d0'))
        have hb4' := hb3d.trans (hb4.mono hb3d.size)
        have hbw4 := hb1.trans (hb4'.mono hb1.size)
        have v9 := U9.out _ hbw4
        go_wp2_with fail
        go_ret2
        exact ⟨_, _, rfl, by rw [HL0.out]; exact At.nil _ _ _, by rw [HE0.out]; exact ErV.fresh (by decide) _ _ _ _ (by simp), hbw4.alloc hbw4.size _⟩
      · have hf := HFF.out (by omega)
        have Hf := Lib.hid hf; clear hf
        have hgt : 0 < cv := by omega
        clear hle
        go_region_held3 (fun w' => w'.cell? ⟨w2.heap.size, 0, none⟩ = some (S fx.1.path) ∧ w'.cell? ⟨g2', (k - 1) * 6, none⟩ = some (S fy.1.path)) (exact ⟨p0, d0⟩) (first | (go_at_call 88; refine HC.out.mono ?_; rintro e w3 ⟨rfl, hb4⟩; have p0' := (hb4.cell (World.block_lt_of_cell? w2b _ p0)).trans p0; have d0' := (hb4.cell (World.block_lt_of_cell? w2b _ d0)).trans d0; clear p0 d0; have p0 := p0'; have d0 := d0'; clear p0' d0'))
        have hb4' := hb3d.trans (hb4.mono hb3d.size)
        obtain ⟨c0, c1, c2, c3, c4, c5⟩ := CF.out _ ((Below.refl _ _).drew.trans hb4)
        have ho3 := (ho3.below ((Below.refl _ _).drew.trans hb4))
        have hb3 := hb4'
        clear CF p0 d0 hb4'
        go_wp2_with (at_builtin; refine wpList_app rfl _ _ _ rfl w1.heap.size elFl _ q.length _ rfl (ho3.alloc _) (.slice (some ⟨w3.heap.size, 0, none⟩) 1 1) 1 (encF fx.1) rfl (src_one rfl rfl (by simp [Value.oneCell'])) (by rw [HQl.out]; unfold maxLen; omega) (by rw [HQl.out]; omega) (by have := hb3.size; simp; omega) ?_; intro v' w4 hown hg _)
        go_roundw
        case rel => exact ⟨rfl, rfl, k + 1, by omega, by go_num, (Lib.hid fun j hj' => by
          rcases Nat.lt_or_ge j k with h | h
          · exact hj.out j h
          · obtain rfl : j = k := by omega
            exact Hf.out), by rw [HSn.out]; exact Own.snoc hown, Bapp (hb3.alloc hb3.size _) (ho3.alloc _) hg (Nat.le_refl _) (by have := hb3.size; simp; omega)⟩
        case measure => simp [intOf]; omega
end Go.Proofs.YtpicofkmeijioaaGreatDoor
