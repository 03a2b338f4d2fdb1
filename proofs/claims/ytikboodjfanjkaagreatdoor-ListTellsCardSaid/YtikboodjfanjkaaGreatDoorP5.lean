/- slices.Clone, Delete at []api.File. slices.BinarySearchFunc at []api.File; list.Find, Add, Remove. list.Add, list.Remove. Numerals, in plain words: what strconv.Itoa writes, strconv.Atoi reads. Of no program. -/
import Derived.Test.YtikboodjfanjkaaGreatDoorP3
import Derived.Test.YtikboodjfanjkaaGreatDoorP4
import Derived.Lib.AppendZeros
import Derived.Deep.RegionLaw
import Derived.Deep.LoopGhost
import Derived.Test.YtikboodjfanjkaaGreatDoorP2
import Derived.Lib.AtoiTie
namespace Go.Proofs.YtikboodjfanjkaaGreatDoor
open Go.RowKit

theorem own_empty {α : Type} (enc : α → List Value) (e : TypeId) (sz B g : Nat) (w : World) (hB : B ≤ g) (hg : w.heap[g]? = some (.cells #[] e (0, 0))) : Own enc e sz B w (.slice (some ⟨g, 0, none⟩) 0 0) [] :=
  ⟨by simp, .inr ⟨g, 0, #[], rfl, hB, hg, Nat.le_refl _, Nat.zero_le _, by simp, by simp⟩⟩
theorem At.form' {α : Type} {enc : α → List Value} {sz : Nat} {w : World} {v : Value} {l : List α} (h : At enc sz w v l) : ∃ a c, v = .slice a l.length c ∧ (a = none → l = []) ∧ c ≤ maxLen := by
  obtain ⟨a, c, b, o, hv, ha, _, hm, _⟩ := h
  exact ⟨a, c, hv, fun h => List.eq_nil_of_length_eq_zero (by
    rcases Nat.eq_zero_or_pos l.length with h0 | h0
    · exact h0
    · have := ha h0; rw [h] at this; cases this), hm⟩

set_option maxRecDepth 20000 in
theorem cloneF_any (v : Value) (l : List Fl) (w : World) (hl : FilesAt w v l) (hn : l.length ≤ 100000) :
    Calls Tryz.prog 106 #[v] w fun e w' => ∃ v', e = .returned v' ∧ Own encF 50 6 w.heap.size w' v' l ∧ Below w.heap.size w w' := by
  obtain ⟨a, c, rfl, hnil, hcm⟩ := hl.form'
  have hq := fun w' => Lib.run_eql_slice_nil (P := Tryz.prog) w' 28 50 a l.length c 0 0 Tryz.underlying28
  cases a with
  | none =>
    obtain rfl := hnil rfl
    simp only [Option.isNone_none, List.length_nil] at hq
    go_enter Tryz.func106, Tryz.ntmps106
    go_wp2_with fail
    go_ret
    exact ⟨_, rfl, Own.nil _ _ _ _ _, Below.refl _ _⟩
  | some ad =>
    simp only [Option.isNone_some] at hq
    have hba : Below w.heap.size w (w.alloc (.cells #[] 50)) := (Below.refl _ _).alloc (Nat.le_refl _) _
    have hs := (hl.below hba).src encF_enc (by decide)
    have ho : Own encF 50 6 w.heap.size (w.alloc (.cells #[] 50)) (.slice (some ⟨w.heap.size, 0, none⟩) 0 0) [] := own_empty encF _ 6 _ _ _ (Nat.le_refl _) (heap_alloc_new w _)
    go_enter Tryz.func106, Tryz.ntmps106
    go_wp2_with (at_builtin; refine wpList_app rfl _ _ _ rfl w.heap.size elFl (.slice (some ⟨w.heap.size, 0, none⟩) 0 0) 0 [] rfl ho _ _ _ rfl hs (by unfold maxLen; omega) (by omega) (by simp) ?_; intro v' w1 hown hg _)
    go_ret
    exact ⟨_, rfl, by simpa [Own] using hown, hba.grown hg (by simp) (fun k hk => by cases hk; exact Nat.le_refl _)⟩

theorem flZero : (Tryz.prog.info? 50).bind (·.zero) = some (.agg #[.string ByteArray.empty, .string ByteArray.empty, .int .i64 0, .int .i64 0, .int .i64 0, .int .i64 0]) := by kernel_rfl
theorem flZero1 : ∀ z, (Tryz.prog.info? 50).bind (·.zero) = some z → ∀ u ∈ z.cells.toList, u.oneCell' = true := by
  intro z hz u hu
  rw [flZero] at hz
  cases hz
  simp [Value.cells] at hu
  rcases hu with rfl | rfl <;> rfl
set_option maxRecDepth 20000 in
set_option maxHeartbeats 1000000 in
theorem deleteF_any (base : Nat) (v : Value) (l : List Fl) (k : Nat) (w : World) (hl : Own encF 50 6 base w v l) (hk : k < l.length) (hn : l.length ≤ 100000) (hB : base ≤ w.heap.size) :
    Calls Tryz.prog 108 #[v, .int .i64 k, .int .i64 ((k : Int) + 1)] w fun e w' => ∃ v', e = .returned v' ∧ Own encF 50 6 base w' v' (l.take k ++ l.drop (k + 1)) ∧ Below base w w' := by
  obtain ⟨g, cap, cur, rfl, hBg, hg, hcap, hm, hs, ht⟩ := hl.open (by omega)
  unfold maxLen at hm
  obtain ⟨r, hr⟩ : ∃ r, k + (l.length - (k + 1)) = r := ⟨_, rfl⟩
  have hct := hl.cut' encF_enc (k := k) (by omega)
  have hfr := hl.from encF_enc (k + 1)
  have hr1 : r + 1 ≤ l.length := by omega
  have hr2 : l.length ≤ r + 1 := by omega
  have HCT := Lib.hid hct
  have HFR := Lib.hid hfr
  have HR := Lib.hid hr
  have hlt : (l.take k).length = k := by rw [List.length_take]; omega
  have hld : ((l.drop (k + 1)).flatMap encF).length = (l.length - (k + 1)) * 6 := by rw [flat_length encF_enc, List.length_drop]
  have h1c : ∀ u ∈ (l.drop (k + 1)).flatMap encF, u.oneCell' = true := fun u hu => by
    obtain ⟨x, _, hux⟩ := List.mem_flatMap.1 hu
    exact (encF_enc x).2 u hux
  have HLT := Lib.hid hlt
  have HLD := Lib.hid hld
  have H1C := Lib.hid h1c
  have b1 : ((k : Int) == (k : Int) + 1) = false := beq_eq_false_iff_ne.2 (by omega)
  have b8 : (0 : Int) ≤ (k : Int) + 1 := by omega
  have b9 : (k : Int) ≤ (k : Int) + 1 := by omega
  have b2 : (k : Int) + 1 ≤ l.length := by omega
  have b3 : (l.length : Int) ≤ cap := by omega
  have b4 : ¬ (l.length = k) := by omega
  have b5 : (k : Int) + 1 ≤ cap := by omega
  have b6 : (k : Int) ≤ cap := by omega
  have b7 : (k : Int) ≤ l.length := by omega
  clear hct hfr hr hlt hld h1c hs ht hg
  go_enter Tryz.func108, Tryz.ntmps108
  by_cases hcj : cap = k + 1
  · subst hcj
    have hlk : l.length = k + 1 := by omega
    have hdn : l.drop (k + 1) = [] := List.drop_eq_nil_of_le (by omega)
    have HLK := Lib.hid hlk
    have HDN := Lib.hid hdn
    clear hlk hdn
    go_wp2_with fail
    go_region
    have ho1 : Own encF 50 6 base w.drew (.slice (some ⟨g, 0, none⟩) k (k + 1)) (l.take k ++ l.drop (k + 1)) := by
      rw [HDN.out, List.append_nil]
      exact HCT.out
    have hb1 : Below base w w.drew := (Below.refl base w).drew
    obtain ⟨cs, hrun, ho2⟩ := run_clear_behind (c := 1) elFl encF_enc flZero1 ho1 (m := l.length - k) (by have := HLK.out; omega) (by have := HLK.out; omega)
    have Ho2 := Lib.hid ho2
    have hcr : ¬ (k + 1 = k) := by omega
    clear ho2 ho1
    go_wp2_with fail
    go_ret
    exact ⟨_, rfl, Ho2.out, Bset hb1 hBg _⟩
  · go_wp2_with fail
    go_region_law ((refine step_fits rfl (.tmp 22) (.tmp 25) 28 rfl elFl base g k cap _ (by simp [Act.eval, Act.put]) (by have := HCT.out; unfold Own at this; rw [HLT.out] at this; exact this) ⟨g, (k + 1) * 6, none⟩ (l.length - (k + 1)) (cap - (k + 1)) r ((l.drop (k + 1)).flatMap encF) (by simp [Act.eval, Act.put]) HLD.out (by intro j u hu; rw [add_lit]; exact HFR.out j u hu) H1C.out (by omega) HR.out ?_; intro w1 h1 hg1))
    have ho1 : Own encF 50 6 base w1 (.slice (some ⟨g, 0, none⟩) r cap) (l.take k ++ l.drop (k + 1)) := by
      unfold Own
      have e : (l.take k ++ l.drop (k + 1)).length = r := by rw [List.length_append, HLT.out, List.length_drop]; exact HR.out
      rw [e, List.flatMap_append]
      exact h1
    have hb1 : Below base w w1 := (Below.refl base w).drew.grown hg1 hB (fun k' hk' => by cases hk'; exact hBg)
    obtain ⟨cs, hrun, ho2⟩ := run_clear_behind (c := cap - r) elFl encF_enc flZero1 ho1 (m := l.length - r) (by omega) (by omega)
    have Ho2 := Lib.hid ho2
    have hcr : ¬ (cap = r) := by omega
    have b10 : (r : Int) ≤ l.length := by omega
    clear ho2 ho1 h1 hg1
    go_wp2_with fail
    go_ret
    exact ⟨_, rfl, Ho2.out, Bset hb1 hBg _⟩

theorem overlapsF (w : World) (vb g off la ca lb cb : Nat) (hne : vb ≠ g) (tA tB : TypeId) (kA kB : Nat) (hsa : w.shape? vb = some (tA, kA)) (hsb : w.shape? g = some (tB, kB)) (hkB : kB ≠ 0) (hfa : w.frozen? ⟨vb, 0, none⟩ = false) (hfe : w.frozen? ⟨vb, kA, none⟩ = false) :
    (callFunc 148 #[.slice (some ⟨vb, 0, none⟩) la ca, .slice (some ⟨g, off, none⟩) lb cb]).run Tryz.prog w = .ok (.value (.bool false)) w := by
  rw [run_callFunc_extern Tryz.func148 (by kernel_rfl) (by kernel_rfl) (by kernel_rfl) (e := Extern.SlicesOverlaps.overlaps #[28, 28] #[4]) (by kernel_rfl),
    Lib.run_overlaps_apart w 28 4 50 Tryz.underlying28 6 szFl ⟨vb, 0, none⟩ ⟨g, off, none⟩ la ca lb cb hne tA tB kA kB hsa hsb hkB hfa hfe]
  rfl
set_option maxRecDepth 20000 in
set_option maxHeartbeats 2000000 in
theorem insertF_any (base : Nat) (v : Value) (l : List Fl) (f : Fl) (k vb : Nat) (w : World) (hl : Own encF 50 6 base w v l) (hk : k ≤ l.length) (hn : l.length ≤ 10000) (hB : base ≤ w.heap.size)
    (hvb : w.heap[vb]? = some (.cells #[S f.path, S f.part, .int .i64 f.n, .int .i64 f.lo, .int .i64 f.hi, .int .i64 f.seq] 50 (0, 0))) (hne : v.ownBlock ≠ some vb) :
    Calls Tryz.prog 105 #[v, .int .i64 k, .slice (some ⟨vb, 0, none⟩) 1 1] w fun e w' => ∃ v', e = .returned v' ∧ Own encF 50 6 base w' v' (l.take k ++ f :: l.drop k) ∧ Below base w w' := by
  have hsrc : SrcAt w 6 (.slice (some ⟨vb, 0, none⟩) 1 1) 1 (encF f) := ⟨_, 1, rfl, rfl, by simp [Value.oneCell'], fun _ => ⟨vb, 0, rfl, fun j u hu => by
    rw [cell_of_row w vb _ _ _ (0, 0) hvb]; simpa using hu⟩⟩
  by_cases hkn : k = l.length
  · obtain ⟨a, c, rfl, hnil, hcm⟩ := (hl.at encF_enc).form'
    have b1 : ((k : Int) == (l.length : Int)) = true := by rw [hkn]; simp
    have b2 : (k : Int) ≤ l.length := by omega
    have HKN := Lib.hid hkn
    clear hkn
    go_enter Tryz.func105, Tryz.ntmps105
    go_wp2_with (at_builtin; refine wpList_app rfl (.tmp 23) (.tmp 24) _ rfl base elFl _ l.length _ rfl hl _ _ _ rfl hsrc (by unfold maxLen; omega) (by omega) hB ?_; intro v' w1 hown hg _)
    all_goals
      go_ret
      refine ⟨_, rfl, ?_, Bapp (Below.refl base w) hl hg (Nat.le_refl _) hB⟩
      rw [HKN.out, List.take_length, List.drop_length]
      exact Own.snoc hown
  obtain ⟨g, cap, cur, rfl, hBg, hg, hcap, hm, hs, ht⟩ := hl.open (by omega)
  unfold maxLen at hm
  have hvg : vb ≠ g := fun e => hne (by rw [e]; rfl)
  have HG := Lib.hid hg
  have HT := Lib.hid ht
  have HS := Lib.hid hs
  have HVB := Lib.hid hvb
  have b1 : ((k : Int) == (l.length : Int)) = false := beq_eq_false_iff_ne.2 (by omega)
  have b2 : (k : Int) ≤ l.length := by omega
  have b3 : (l.length : Int) ≤ cap := by omega
  have b4 : ¬ cap = k := by omega
  have b5 : (k : Int) ≤ cap := by omega
  have HCT := Lib.hid (hl.cut' encF_enc (k := k) (by omega))
  have hfr := hl.from encF_enc k
  have HFR := Lib.hid hfr
  have hlt : (l.take k).length = k := by rw [List.length_take]; omega
  have HLT := Lib.hid hlt
  have hld : ((l.drop k).flatMap encF).length = (l.length - k) * 6 := by rw [flat_length encF_enc, List.length_drop]
  have h1c : ∀ u ∈ (l.drop k).flatMap encF, u.oneCell' = true := fun u hu => by
    obtain ⟨x, _, hux⟩ := List.mem_flatMap.1 hu
    exact (encF_enc x).2 u hux
  have HLD := Lib.hid hld
  have H1C := Lib.hid h1c
  have hgl : g < w.heap.size := (Array.getElem?_eq_some_iff.1 hg).1
  have hvl : vb < w.heap.size := (Array.getElem?_eq_some_iff.1 hvb).1
  have h1f : ∀ u ∈ encF f, u.oneCell' = true := by simp [Value.oneCell']
  have H1F := Lib.hid h1f
  have b7 : (k : Int) + 1 ≤ (l.length : Int) + 1 := by omega
  have b8 : (0 : Int) ≤ (k : Int) + 1 := by omega
  have b9 : (k : Int) ≤ (l.length : Int) + 1 := by omega
  clear hg ht hs hvb hfr hlt hld h1c h1f hne hsrc
  by_cases hroom : cap < l.length + 1
  · have b6 : (cap : Int) < (l.length : Int) + 1 := by omega
    go_enter Tryz.func105, Tryz.ntmps105
    go_wp2_with (at_builtin; refine wpList_stop ?_)
    refine ⟨?_, trivial⟩
    refine wpList_app_zeros rfl (.tmp 34) (.tmp 39) _ _ rfl elFl .i64 Tryz.underlying3 base g k cap (l.length + 1 - k) _ ((l.length : Int) + 1 - k) (by omega) (by rfl) (by rfl) (by have := HCT.out; unfold Own at this; rw [HLT.out] at this; exact this) (by omega) (by omega) (by omega) (by omega) (l.length + 1) (by omega) ?_
    intro cap2 cur2 h1 h2 h3 h4 w1 hw1 hg1 hs1
    have hc2 : ¬ cap2 = k := by omega
    have hc3 : (k : Int) ≤ cap2 := by omega
    have hc4 : ¬ cap2 = k + 1 := by omega
    have hc5 : (k : Int) + 1 ≤ cap2 := by omega
    have H3 := Lib.hid h3
    have H4 := Lib.hid h4
    clear h3 h4
    obtain ⟨w2, hr2, hw2, hg2⟩ := run_copyN_ex 28 elFl w.heap.size (k * 6) (l.length + 1 - k) (cap2 - k) 1 1 1 ⟨vb, 0, none⟩ cur2 w1 hw1.out (encF f) (by simp only [Nat.min_def]; split <;> omega) rfl
      (fun j u hu => by rw [add_lit, Nat.zero_add, cell_of_row w1 vb _ _ _ (0, 0) ((hg1.block vb hvl (by simp)).trans HVB.out)]; simpa using hu) (by simp only [List.length_cons, List.length_nil]; have := H3.out; omega) H1F.out
    have hg2' : w2.heap[g]? = w.heap[g]? := (hg2.block g (by omega) (by simp; omega)).trans (hg1.block g hgl (by simp))
    have hcells : ∀ j u, ((l.drop k).flatMap encF)[j]? = some u → w2.drew.cell? ((⟨g, k * 6, none⟩ : Addr).add j) = some u := fun j u hu => by
      rw [add_lit]
      exact (World.cell?_of_block (w := w) (w' := w2.drew) (a := ⟨g, k * 6 + j, none⟩) hg2').trans (HFR.out j u hu)
    have hsz2 : (splice cur2.toList (k * 6) (encF f)).length = cap2 * 6 := by
      rw [splice_len _ _ _ (by simp only [List.length_cons, List.length_nil, Array.length_toList]; have := H3.out; omega), Array.length_toList, H3.out]
    obtain ⟨w3, hr3, hw3, hg3⟩ := run_copyN_ex 28 elFl w.heap.size ((k + 1) * 6) (l.length - k) (cap2 - (k + 1)) (l.length - k) (cap - k) (l.length - k) ⟨g, k * 6, none⟩ _ w2.drew hw2.out ((l.drop k).flatMap encF) (by simp) HLD.out
      hcells (by rw [HLD.out, List.size_toArray, hsz2]; omega) H1C.out
    have Hsz2 := Lib.hid hsz2
    clear hcells hg2' hsz2
    have hbw : Below base w w3 := ((((Below.refl base w).grown hg1 hB (fun k hk => by cases hk)).grown hg2 (by omega) (fun k hk => by cases hk; exact hB)).drew).grown hg3 (by have := hg2.size; simp; omega) (fun k hk => by cases hk; exact hB)
    have HOW := Lib.hid (own_insNew (f := f) encF_enc hB hk h1 h2 H3.out H4.out w3 hw3.out)
    go_wp2_with fail
    go_region
    go_wp2_with fail
    go_ret
    exact ⟨_, rfl, HOW.out, hbw⟩
  · have b6 : decide ((cap : Int) < (l.length : Int) + 1) = false := by simp; omega
    have hov := fun lb cb => overlapsF w vb g ((k + 1) * 6) 1 1 lb cb hvg 50 50 6 (cap * 6) (by simp [World.shape?, HVB.out]) (by simp [World.shape?, HG.out, HS.out]) (by omega) (frozen_row HVB.out) (frozen_row HVB.out)
    obtain ⟨w2, hr2, hw2, hg2⟩ := run_copyN_ex 28 elFl g ((k + 1) * 6) (l.length - k) (cap - (k + 1)) (l.length + 1 - k) (cap - k) (l.length - k) ⟨g, k * 6, none⟩ cur w.drew HG.out ((l.drop k).flatMap encF) (by simp only [Nat.min_def]; split <;> omega) HLD.out
      (fun j u hu => by rw [add_lit]; exact HFR.out j u hu) (by rw [HLD.out, HS.out]; omega) H1C.out
    obtain ⟨w3, hr3, hw3, hg3⟩ := run_copyN_ex 28 elFl g (k * 6) (l.length + 1 - k) (cap - k) 1 1 1 ⟨vb, 0, none⟩ _ w2 hw2.out (encF f) (by simp only [Nat.min_def]; split <;> omega) rfl
      (fun j u hu => by rw [add_lit, Nat.zero_add, cell_of_row w2 vb _ _ _ (0, 0) ((hg2.block vb hvl (by simp; omega)).trans HVB.out)]; simpa using hu) (by rw [List.size_toArray, splice_len _ _ _ (by rw [HLD.out, Array.length_toList (xs := cur), HS.out]; omega), Array.length_toList (xs := cur), HS.out]; simp only [List.length_cons, List.length_nil]; omega) H1F.out
    have hbw : Below base w w3 := (((Below.refl base w).drew).grown hg2 hB (fun k hk => by cases hk; exact hBg)).grown hg3 (by have := hg2.size; simp at this; omega) (fun k hk => by cases hk; exact hBg)
    have HOW := Lib.hid (own_insShift (f := f) encF_enc hBg hk (by omega) (by unfold maxLen; omega) HS.out (by
      have h0 := HCT.out
      obtain ⟨cur', _, hg', _, _, _, _, ht'⟩ := h0.row
      rw [HG.out] at hg'
      cases hg'
      exact ht') w3 hw3.out)
    have bk0 : (k : Int) + 1 ≤ cap := by omega
    have bk1 : ¬ cap = k + 1 := by omega
    have bk2 : (l.length : Int) + 1 ≤ cap := by omega
    have bk3 : ¬ cap = l.length + 1 ∨ True := .inr trivial
    go_enter Tryz.func105, Tryz.ntmps105
    go_wp2_with (simp only [hov])
    go_region
    go_wp2_with fail
    go_ret
    exact ⟨_, rfl, HOW.out, hbw⟩
end Go.Proofs.YtikboodjfanjkaaGreatDoor
namespace Go.Proofs.YtikboodjfanjkaaGreatDoor
open Go.RowKit

/-- A function value that compares a file with another one by their paths. -/
def CmpOn (f : FuncId) (caps : Array Value) (l : List Fl) (t : Fl) (base : Nat) (w0 : World) : Prop :=
  ∀ W x, x ∈ l → Below base w0 W → base ≤ W.heap.size → Calls Tryz.prog f (#[fileV x, fileV t] ++ caps) W fun e W' => e = .returned (.int .i64 (cmpP x.path t.path)) ∧ Below W.heap.size W W'

theorem placeAt_of {l : List Fl} {t : Fl} {k : Nat} (hk : k ≤ l.length) (h1 : ∀ (j : Nat) (y : Fl), j < k → l[j]? = some y → cmpP y.path t.path < 0) (h2 : ∀ (j : Nat) (y : Fl), k ≤ j → l[j]? = some y → 0 ≤ cmpP y.path t.path) : PlaceAt l t k :=
  ⟨hk, fun j g hj hg => cmpP_lt.1 (h1 j g hj hg), fun j g hj hg => by
    have := h2 j g hj hg
    have := @cmpP_lt g.path t.path
    omega⟩
theorem rising_low {l : List Fl} {t x : Fl} {m : Nat} (hr : l.Pairwise (fun a b => keyP a.path < keyP b.path)) (hm : l[m]? = some x) (hx : cmpP x.path t.path < 0) : ∀ (j : Nat) (y : Fl), j < m + 1 → l[j]? = some y → cmpP y.path t.path < 0 := by
  intro j y hj hy
  obtain ⟨a1, a2⟩ := List.getElem?_eq_some_iff.1 hm
  obtain ⟨b1, b2⟩ := List.getElem?_eq_some_iff.1 hy
  rcases Nat.lt_or_ge j m with h | h
  · have := List.pairwise_iff_getElem.1 hr j m b1 a1 h
    rw [a2, b2] at this
    rw [cmpP_lt] at hx ⊢
    omega
  · obtain rfl : j = m := by omega
    rw [hm] at hy
    obtain rfl := Option.some.inj hy
    exact hx
theorem rising_high {l : List Fl} {t x : Fl} {m : Nat} (hr : l.Pairwise (fun a b => keyP a.path < keyP b.path)) (hm : l[m]? = some x) (hx : 0 ≤ cmpP x.path t.path) : ∀ (j : Nat) (y : Fl), m ≤ j → l[j]? = some y → 0 ≤ cmpP y.path t.path := by
  intro j y hj hy
  obtain ⟨a1, a2⟩ := List.getElem?_eq_some_iff.1 hm
  obtain ⟨b1, b2⟩ := List.getElem?_eq_some_iff.1 hy
  rcases Nat.lt_or_ge m j with h | h
  · have := List.pairwise_iff_getElem.1 hr m j a1 b1 h
    rw [a2, b2] at this
    have h1 := @cmpP_lt x.path t.path
    have h2 := @cmpP_lt y.path t.path
    omega
  · obtain rfl : j = m := by omega
    rw [hm] at hy
    obtain rfl := Option.some.inj hy
    exact hx
set_option maxHeartbeats 1000000 in
set_option maxRecDepth 20000 in
theorem bsearchF_any (f : FuncId) (caps : Array Value) (t : Fl) (base : Nat) (w0 : World) (v : Value) (l : List Fl) (w : World) (hf : Clo Tryz.prog f) (hp : CmpOn f caps l t base w0)
    (hl : FilesAt w v l) (hn : l.length ≤ 100000) (hr : l.Pairwise (fun a b => keyP a.path < keyP b.path)) (hw : Below base w0 w) (hB : base ≤ w.heap.size) :
    Calls Tryz.prog 103 #[v, fileV t, .func (.func f) #[] caps] w fun e w' => ∃ k : Nat, e = .returned (.tuple #[.int .i64 k, .bool (decide (thereF l t))]) ∧ PlaceAt l t k ∧ Below w.heap.size w w' := by
  have hba : Below w.heap.size w (w.alloc (.cells #[S t.path, S t.part, .int .i64 t.n, .int .i64 t.lo, .int .i64 t.hi, .int .i64 t.seq] 50)) := (Below.refl _ _).alloc (Nat.le_refl _) _
  have hl := hl.below hba
  have hw := hw.trans (hba.mono hB)
  have hB := Nat.le_trans hB hba.size
  have CT := Lib.hid (fun w6 (h : Below (w.alloc (.cells #[S t.path, S t.part, .int .i64 t.n, .int .i64 t.lo, .int .i64 t.hi, .int .i64 t.seq] 50)).heap.size (w.alloc (.cells #[S t.path, S t.part, .int .i64 t.n, .int .i64 t.lo, .int .i64 t.hi, .int .i64 t.seq] 50)) w6) => fileCells rfl h)
  obtain ⟨a, c, b, o, rfl, ha, hc, hcm, hx⟩ := hl
  unfold maxLen at hcm
  have hf' := hf
  unfold Clo at hf'
  have HR := Lib.hid hr; clear hr
  have HT := Lib.hid hba
  go_enter Tryz.func103, Tryz.ntmps103
  go_wp2_with fail
  generalize w.alloc (.cells #[S t.path, S t.part, .int .i64 t.n, .int .i64 t.lo, .int .i64 t.hi, .int .i64 t.seq] 50) = w1 at *
  go_loopg [9, 10] l.length (fun kx s9 s10 wr => ∃ lo hi : Nat, s9 = .int .i64 lo ∧ s10 = .int .i64 hi ∧ lo ≤ hi ∧ hi ≤ l.length ∧ hi - lo ≤ kx ∧ Below w1.heap.size w1 wr ∧
    Hid ((∀ (j : Nat) (y : Fl), j < lo → l[j]? = some y → cmpP y.path t.path < 0) ∧ (∀ (j : Nat) (y : Fl), hi ≤ j → l[j]? = some y → 0 ≤ cmpP y.path t.path)))
  case atStart => exact ⟨0, l.length, rfl, rfl, Nat.zero_le _, Nat.le_refl _, by omega, Below.refl _ _, Lib.hid ⟨fun j y hj => absurd hj (Nat.not_lt_zero _), fun j y h1 h2 => by rw [List.getElem?_eq_none h1] at h2; cases h2⟩⟩
  case round =>
    obtain ⟨lo, hi, rfl, rfl, hlh, hin, hg, hb, I⟩ := hrel
    obtain ⟨d0, d1, d2, d3, d4, d5⟩ := CT.out wr hb
    by_cases hlt : lo < hi
    · obtain ⟨m, hm⟩ : ∃ m, (lo + hi) / 2 = m := ⟨_, rfl⟩
      obtain ⟨x, hxk⟩ := get_ex (l := l) (k := m) (by omega)
      obtain ⟨c0, c1, c2, c3, c4, c5⟩ := flCells hx hb hxk
      have i1 := idx_at (c := c) 6 Tryz.underlying28 szFl ha m (by omega)
      have hcast : ((lo : Int) + (hi : Int)) / 2 = (m : Int) := by omega
      have hpx := hp wr.drew x (List.mem_of_getElem? hxk) (hw.trans (hb.drew.mono hB)) (Nat.le_trans hB hb.size)
      have CX := Lib.hid (fun w6 (h : Below w1.heap.size w1 w6) => flCells hx h hxk)
      generalize hcv : cmpP x.path t.path = cv at hpx
      have Hp := Lib.hid hpx; clear hpx
      have Hx := Lib.hid hxk; clear hxk
      have Hc := Lib.hid hcv; clear hcv
      by_cases hyx : cv < 0
      · go_wp2_with fail
        go_region_held3 (fun w' => (w'.cell? ⟨b, o + m * 6, none⟩ = some (S x.path) ∧ w'.cell? ⟨b, o + m * 6 + 1, none⟩ = some (S x.part) ∧ w'.cell? ⟨b, o + m * 6 + 2, none⟩ = some (.int .i64 x.n) ∧ w'.cell? ⟨b, o + m * 6 + 3, none⟩ = some (.int .i64 x.lo) ∧ w'.cell? ⟨b, o + m * 6 + 4, none⟩ = some (.int .i64 x.hi) ∧ w'.cell? ⟨b, o + m * 6 + 5, none⟩ = some (.int .i64 x.seq)) ∧ w'.cell? ⟨w.heap.size, 0, none⟩ = some (S t.path) ∧ w'.cell? ⟨w.heap.size, 1, none⟩ = some (S t.part) ∧ w'.cell? ⟨w.heap.size, 2, none⟩ = some (.int .i64 t.n) ∧ w'.cell? ⟨w.heap.size, 3, none⟩ = some (.int .i64 t.lo) ∧ w'.cell? ⟨w.heap.size, 4, none⟩ = some (.int .i64 t.hi) ∧ w'.cell? ⟨w.heap.size, 5, none⟩ = some (.int .i64 t.seq)) (exact ⟨⟨c0, c1, c2, c3, c4, c5⟩, d0, d1, d2, d3, d4, d5⟩) (first | (go_at_fn f; refine Hp.out.mono ?_; rintro e w2 ⟨rfl, hb1⟩; have hb2 := hb.drew.trans (hb1.mono hb.size); clear c0 c1 c2 c3 c4 c5 d0 d1 d2 d3 d4 d5; obtain ⟨c0, c1, c2, c3, c4, c5⟩ := CX.out w2 hb2; obtain ⟨d0, d1, d2, d3, d4, d5⟩ := CT.out w2 hb2))
        go_wp2_with fail
        go_roundg (hi - (m + 1))
        case measure => omega
        case rel => exact ⟨m + 1, hi, by go_num, rfl, by omega, hin, Nat.le_refl _, hb2, Lib.hid ⟨rising_low HR.out Hx.out (by rw [Hc.out]; exact hyx), I.out.2⟩⟩
      · go_wp2_with fail
        go_region_held3 (fun w' => (w'.cell? ⟨b, o + m * 6, none⟩ = some (S x.path) ∧ w'.cell? ⟨b, o + m * 6 + 1, none⟩ = some (S x.part) ∧ w'.cell? ⟨b, o + m * 6 + 2, none⟩ = some (.int .i64 x.n) ∧ w'.cell? ⟨b, o + m * 6 + 3, none⟩ = some (.int .i64 x.lo) ∧ w'.cell? ⟨b, o + m * 6 + 4, none⟩ = some (.int .i64 x.hi) ∧ w'.cell? ⟨b, o + m * 6 + 5, none⟩ = some (.int .i64 x.seq)) ∧ w'.cell? ⟨w.heap.size, 0, none⟩ = some (S t.path) ∧ w'.cell? ⟨w.heap.size, 1, none⟩ = some (S t.part) ∧ w'.cell? ⟨w.heap.size, 2, none⟩ = some (.int .i64 t.n) ∧ w'.cell? ⟨w.heap.size, 3, none⟩ = some (.int .i64 t.lo) ∧ w'.cell? ⟨w.heap.size, 4, none⟩ = some (.int .i64 t.hi) ∧ w'.cell? ⟨w.heap.size, 5, none⟩ = some (.int .i64 t.seq)) (exact ⟨⟨c0, c1, c2, c3, c4, c5⟩, d0, d1, d2, d3, d4, d5⟩) (first | (go_at_fn f; refine Hp.out.mono ?_; rintro e w2 ⟨rfl, hb1⟩; have hb2 := hb.drew.trans (hb1.mono hb.size); clear c0 c1 c2 c3 c4 c5 d0 d1 d2 d3 d4 d5; obtain ⟨c0, c1, c2, c3, c4, c5⟩ := CX.out w2 hb2; obtain ⟨d0, d1, d2, d3, d4, d5⟩ := CT.out w2 hb2))
        go_wp2_with fail
        go_roundg (m - lo)
        case measure => omega
        case rel => exact ⟨lo, m, rfl, by go_num, by omega, by omega, Nat.le_refl _, hb2, Lib.hid ⟨I.out.1, rising_high HR.out Hx.out (by rw [Hc.out]; omega)⟩⟩
    · obtain rfl : hi = lo := by omega
      have hpl := placeAt_of hin I.out.1 I.out.2
      have HPL := Lib.hid hpl; clear hpl
      by_cases hn : hi < l.length
      · obtain ⟨x, hxk⟩ := get_ex hn
        obtain ⟨c0, c1, c2, c3, c4, c5⟩ := flCells hx hb hxk
        have i1 := idx_at (c := c) 6 Tryz.underlying28 szFl ha hi hn
        have hk1 : (hi : Int) < (l.length : Int) := by omega
        have hpx := hp wr.drew x (List.mem_of_getElem? hxk) (hw.trans (hb.drew.mono hB)) (Nat.le_trans hB hb.size)
        have CX := Lib.hid (fun w6 (h : Below w1.heap.size w1 w6) => flCells hx h hxk)
        have hth : thereF l t ↔ cmpP x.path t.path = 0 := (HPL.out.there HR.out).trans ⟨fun ⟨g, h1, h2⟩ => by
          rw [hxk] at h1
          obtain rfl := Option.some.inj h1
          exact h2, fun h => ⟨x, hxk, h⟩⟩
        generalize cmpP x.path t.path = cv at hpx hth
        have Hp := Lib.hid hpx; clear hpx
        have Hx := Lib.hid hxk; clear hxk
        by_cases hyx : cv = 0
        · have hd := decide_eq_true (hth.2 hyx)
          have HD := Lib.hid hd; clear hd hth
          go_wp2_with fail
          go_region_held3 (fun w' => (w'.cell? ⟨b, o + hi * 6, none⟩ = some (S x.path) ∧ w'.cell? ⟨b, o + hi * 6 + 1, none⟩ = some (S x.part) ∧ w'.cell? ⟨b, o + hi * 6 + 2, none⟩ = some (.int .i64 x.n) ∧ w'.cell? ⟨b, o + hi * 6 + 3, none⟩ = some (.int .i64 x.lo) ∧ w'.cell? ⟨b, o + hi * 6 + 4, none⟩ = some (.int .i64 x.hi) ∧ w'.cell? ⟨b, o + hi * 6 + 5, none⟩ = some (.int .i64 x.seq)) ∧ w'.cell? ⟨w.heap.size, 0, none⟩ = some (S t.path) ∧ w'.cell? ⟨w.heap.size, 1, none⟩ = some (S t.part) ∧ w'.cell? ⟨w.heap.size, 2, none⟩ = some (.int .i64 t.n) ∧ w'.cell? ⟨w.heap.size, 3, none⟩ = some (.int .i64 t.lo) ∧ w'.cell? ⟨w.heap.size, 4, none⟩ = some (.int .i64 t.hi) ∧ w'.cell? ⟨w.heap.size, 5, none⟩ = some (.int .i64 t.seq)) (exact ⟨⟨c0, c1, c2, c3, c4, c5⟩, d0, d1, d2, d3, d4, d5⟩) (first | (go_at_fn f; refine Hp.out.mono ?_; rintro e w2 ⟨rfl, hb1⟩; have hb2 := hb.drew.trans (hb1.mono hb.size); clear c0 c1 c2 c3 c4 c5 d0 d1 d2 d3 d4 d5; obtain ⟨c0, c1, c2, c3, c4, c5⟩ := CX.out w2 hb2; obtain ⟨d0, d1, d2, d3, d4, d5⟩ := CT.out w2 hb2))
          go_wp2_with fail
          go_ret2
          exact ⟨hi, by rw [HD.out]; rfl, HPL.out, HT.out.trans ((hb2).mono HT.out.size)⟩
        · have e0 : (cv == 0) = false := by simpa using hyx
          have hd := decide_eq_false (fun h => hyx (hth.1 h))
          have HD := Lib.hid hd; clear hd hth
          go_wp2_with fail
          go_region_held3 (fun w' => (w'.cell? ⟨b, o + hi * 6, none⟩ = some (S x.path) ∧ w'.cell? ⟨b, o + hi * 6 + 1, none⟩ = some (S x.part) ∧ w'.cell? ⟨b, o + hi * 6 + 2, none⟩ = some (.int .i64 x.n) ∧ w'.cell? ⟨b, o + hi * 6 + 3, none⟩ = some (.int .i64 x.lo) ∧ w'.cell? ⟨b, o + hi * 6 + 4, none⟩ = some (.int .i64 x.hi) ∧ w'.cell? ⟨b, o + hi * 6 + 5, none⟩ = some (.int .i64 x.seq)) ∧ w'.cell? ⟨w.heap.size, 0, none⟩ = some (S t.path) ∧ w'.cell? ⟨w.heap.size, 1, none⟩ = some (S t.part) ∧ w'.cell? ⟨w.heap.size, 2, none⟩ = some (.int .i64 t.n) ∧ w'.cell? ⟨w.heap.size, 3, none⟩ = some (.int .i64 t.lo) ∧ w'.cell? ⟨w.heap.size, 4, none⟩ = some (.int .i64 t.hi) ∧ w'.cell? ⟨w.heap.size, 5, none⟩ = some (.int .i64 t.seq)) (exact ⟨⟨c0, c1, c2, c3, c4, c5⟩, d0, d1, d2, d3, d4, d5⟩) (first | (go_at_fn f; refine Hp.out.mono ?_; rintro e w2 ⟨rfl, hb1⟩; have hb2 := hb.drew.trans (hb1.mono hb.size); clear c0 c1 c2 c3 c4 c5 d0 d1 d2 d3 d4 d5; obtain ⟨c0, c1, c2, c3, c4, c5⟩ := CX.out w2 hb2; obtain ⟨d0, d1, d2, d3, d4, d5⟩ := CT.out w2 hb2))
          go_wp2_with fail
          go_ret2
          exact ⟨hi, by rw [HD.out]; rfl, HPL.out, HT.out.trans ((hb2).mono HT.out.size)⟩
      · have hd : decide (thereF l t) = false := decide_eq_false fun h => by
          obtain ⟨g, h1, -⟩ := (HPL.out.there HR.out).1 h
          rw [List.getElem?_eq_none (by omega)] at h1
          cases h1
        have HD := Lib.hid hd; clear hd
        obtain rfl : hi = l.length := by omega
        go_wp2_with fail
        go_quiet (fail)
        go_wp2_with fail
        go_ret2
        exact ⟨l.length, by rw [HD.out]; rfl, HPL.out, Bdn (HT.out.trans (hb.mono HT.out.size)) _⟩

theorem find1_any (x : Fl) (p : Str) (ad : Addr) (w : World) (h1 : w.cell? ad = some (S p)) :
    Calls Tryz.prog 111 #[fileV x, .pointer (some ad)] w fun e w' => e = .returned (.bool (x.path == p)) ∧ Below w.heap.size w w' := by
  have h1' : (w.alloc (fileO x)).cell? ad = some (S p) := (((Below.refl w.heap.size w).alloc (Nat.le_refl _) (fileO x)).cell (World.block_lt_of_cell? w _ h1)).trans h1
  have hb : Below w.heap.size w (w.alloc (fileO x)) := (Below.refl _ _).alloc (Nat.le_refl _) _
  go_enter Tryz.func111, Tryz.ntmps111
  go_wp2_with fail
  go_ret
  exact ⟨rfl, hb⟩
theorem clo_find1 : Clo Tryz.prog 111 := fun _ _ => by kernel_rfl
def findV (l : List Fl) (p : Str) : Int := idxVal (fun f => f.path == p) l
theorem listFind_any (v : Value) (l : List Fl) (p : Str) (w : World) (hl : FilesAt w v l) :
    Calls Tryz.prog 43 #[v, S p] w fun e w' => e = .returned (.int .i64 (findV l p)) ∧ Below w.heap.size w w' := by
  obtain ⟨a, c, rfl, -, -⟩ := hl.form'
  have hba : Below w.heap.size w (w.alloc (.cells #[S p] 9)) := (Below.refl _ _).alloc (Nat.le_refl _) _
  have c0 : (w.alloc (.cells #[S p] 9)).cell? ⟨w.heap.size, 0, none⟩ = some (S p) := by simp
  have Hl := Lib.hid (hl.below hba)
  go_enter Tryz.func43, Tryz.ntmps43
  go_wp2_with fail
  refine (indexFuncF_any _ _ (fun f => f.path == p) _ _ _ l _ clo_find1 ?_ Hl.out (Below.refl _ _) (Nat.le_refl _)).mono ?_
  · intro W x hx hbW hle
    exact find1_any x p _ W ((hbW.cell (World.block_lt_of_cell? _ _ c0)).trans c0)
  · rintro e w1 ⟨rfl, hb1⟩
    go_wp2_with fail
    go_ret
    exact ⟨rfl, hba.trans (hb1.mono hba.size)⟩

theorem add1_any (E : Nat → Addr) (B : Nat) (x y : Fl) (w : World) (hE : Errs [5] E B w) (hT : LNum B w) (hM : LMax B w) (hx : midF x) (hy : midF y) :
    Calls Tryz.prog 104 #[fileV x, fileV y] w fun e w' => e = .returned (.int .i64 (cmpP x.path y.path)) ∧ Below w.heap.size w w' := by
  have hba : Below w.heap.size w ((w.alloc (fileO x)).alloc (fileO y)) := ((Below.refl _ _).alloc (Nat.le_refl _) _).alloc (by simp) _
  have hC := listCompare_any E B x.path y.path ((w.alloc (fileO x)).alloc (fileO y)) (hE.below' hba hE.le) (hT.below' hba hT.le) (hM.below' hba hM.le) (by have := hx.1; omega) (by have := hy.1; omega)
  have HC := Lib.hid hC; clear hC
  go_enter Tryz.func104, Tryz.ntmps104
  go_wp2_with fail
  refine HC.out.mono ?_
  rintro e w1 ⟨rfl, hb1⟩
  go_wp2_with fail
  go_ret
  exact ⟨rfl, hba.trans (hb1.mono hba.size)⟩
theorem clo_add1 : Clo Tryz.prog 104 := fun _ _ => by kernel_rfl
end Go.Proofs.YtikboodjfanjkaaGreatDoor
namespace Go.Proofs.YtikboodjfanjkaaGreatDoor
open Go.RowKit

theorem addE_bad {l : List Fl} {f : Fl} (h : listCheck l ≠ .nil) : addE l f = listCheck l := if_pos h
theorem addE_file {l : List Fl} {f : Fl} (h : listCheck l = .nil) (h1 : checkF f ≠ 0) : addE l f = .bare (checkF f) := by unfold addE; rw [if_neg (by simp [h]), if_pos h1]
theorem addE_there {l : List Fl} {f : Fl} (h : listCheck l = .nil) (h1 : checkF f = 0) (h2 : thereF l f) : addE l f = .bare 7 := by unfold addE; rw [if_neg (by simp [h]), if_neg (by simp [h1]), if_pos h2]
theorem addE_full {l : List Fl} {f : Fl} (h : listCheck l = .nil) (h1 : checkF f = 0) (h2 : ¬ thereF l f) (h3 : 60 ≤ l.length) : addE l f = .bare 8 := by unfold addE; rw [if_neg (by simp [h]), if_neg (by simp [h1]), if_neg h2, if_pos h3]
theorem addE_nil {l : List Fl} {f : Fl} (h : listCheck l = .nil) (h1 : checkF f = 0) (h2 : ¬ thereF l f) (h3 : ¬ 60 ≤ l.length) : addE l f = .nil := by unfold addE; rw [if_neg (by simp [h]), if_neg (by simp [h1]), if_neg h2, if_neg h3]
theorem addL_bad {l : List Fl} {f : Fl} (h : addE l f ≠ .nil) : addL l f = [] := if_neg h

set_option maxHeartbeats 1000000 in
set_option maxRecDepth 20000 in
theorem listAdd_any (E : Nat → Addr) (B : Nat) (v : Value) (l : List Fl) (f : Fl) (w : World) (hE : Errs [2, 4, 5, 7, 8, 9] E B w) (hT : LNum B w) (hM : LMax B w) (hl : FilesAt w v l) (hs : ∀ x ∈ l, midF x) (hf : midF f) (hn : l.length ≤ 10000) :
    Calls Tryz.prog 39 #[v, fileV f] w fun e w' => ∃ u ev, e = .returned (.tuple #[u, ev]) ∧ FilesAt w' u (addL l f) ∧ ErV E w' ev (addE l f) ∧ Below w.heap.size w w' := by
  have hBw := hE.le
  have hif := isIfaceE
  obtain ⟨a, c, rfl, -, -⟩ := hl.form'
  have hba : Below w.heap.size w (w.alloc (.cells #[S f.path, S f.part, .int .i64 f.n, .int .i64 f.lo, .int .i64 f.hi, .int .i64 f.seq] 50)) := (Below.refl _ _).alloc (Nat.le_refl _) _
  have Cs := Lib.hid (fun w6 (h : Below (w.alloc (.cells #[S f.path, S f.part, .int .i64 f.n, .int .i64 f.lo, .int .i64 f.hi, .int .i64 f.seq] 50)).heap.size (w.alloc (.cells #[S f.path, S f.part, .int .i64 f.n, .int .i64 f.lo, .int .i64 f.hi, .int .i64 f.seq] 50)) w6) => fileCells rfl h)
  have hE1 := hE.below' hba hBw; have hT1 := hT.below' hba hBw; have hM1 := hM.below' hba hBw
  have hl1 := hl.below hba
  go_enter Tryz.func39, Tryz.ntmps39
  go_wp2_with fail
  generalize w.alloc (.cells #[S f.path, S f.part, .int .i64 f.n, .int .i64 f.lo, .int .i64 f.hi, .int .i64 f.seq] 50) = w1 at *
  refine (listCheck_any E B _ l _ (hE1.sub (by decide)) hT1 hM1 hl1 hs).mono ?_
  rintro e w2 ⟨ev, rfl, hev, hb2⟩
  have hb2' := hba.trans (hb2.mono hba.size)
  by_cases hck : listCheck l = .nil
  case neg =>
    have HA := Lib.hid (addE_bad (f := f) hck)
    have HL : Hid (addL l f = []) := Lib.hid (addL_bad (by rw [HA.out]; exact hck))
    obtain ⟨u, x, rfl⟩ := hev.iface hck
    have He := Lib.hid hev; clear hev hck
    go_wp2_with fail
    go_ret2
    exact ⟨_, _, rfl, by rw [HL.out]; exact At.nil _ _ _, by rw [HA.out]; exact He.out, hb2'⟩
  rw [hck] at hev
  obtain rfl : ev = .nilIface := hev
  have HC := Lib.hid hck; clear hck
  obtain ⟨c0, c1, c2, c3, c4, c5⟩ := Cs.out w2 hb2
  go_wp2_with fail
  refine (fileCheck_any E B f _ ((hE1.sub (by decide)).below' hb2 hE1.le) (hT1.below' hb2 hE1.le) (hM1.below' hb2 hE1.le) hf).mono ?_
  rintro e w3 ⟨ev, rfl, hev, hb3⟩
  have hb3' := hb2.trans (hb3.mono hb2.size)
  have hb3w := hba.trans (hb3'.mono hba.size)
  clear c0 c1 c2 c3 c4 c5
  by_cases hfc : checkF f = 0
  case neg =>
    have HA := Lib.hid (addE_file HC.out hfc)
    have HL : Hid (addL l f = []) := Lib.hid (addL_bad (by rw [HA.out]; exact fun h => by cases h))
    rw [fileEr_bad rfl hfc] at hev
    obtain ⟨hcr, rfl⟩ := hev
    have HF := Lib.hid hfc; clear hfc
    go_wp2_with fail
    go_ret2
    exact ⟨_, _, rfl, by rw [HL.out]; exact At.nil _ _ _, by rw [HA.out]; exact ⟨hcr, rfl⟩, hb3w⟩
  rw [fileEr_nil hfc] at hev
  obtain rfl : ev = .nilIface := hev
  have HF := Lib.hid hfc; clear hfc
  have HR := Lib.hid ((right_iff l).1 HC.out)
  obtain ⟨c0, c1, c2, c3, c4, c5⟩ := Cs.out w3 hb3'
  have hl3 := hl1.below hb3'
  have V0 := fun w6 (h : Below w1.heap.size w1 w6) => (⟨(hE1.below' h hE1.le).var 7 (by decide), (hE1.below' h hE1.le).var 8 (by decide)⟩ : _ ∧ _)
  simp only [errG] at V0
  have V := Lib.hid V0
  clear V0
  go_wp2_with fail
  refine (bsearchF_any _ _ f w3.heap.size w3 _ l _ clo_add1 (fun W x hx hbW hle => ?_) hl3 (by omega) HR.out.ris (Below.refl _ _) (Nat.le_refl _)).mono ?_
  · have hbW' := hb3'.trans (hbW.mono hb3'.size)
    exact add1_any E B x f W ((hE1.sub (by decide)).below' hbW' hE1.le) (hT1.below' hbW' hE1.le) (hM1.below' hbW' hE1.le) (hs x hx) hf
  rintro e w4 ⟨k, rfl, hpl, hb4⟩
  have hb4' := hb3'.trans (hb4.mono hb3'.size)
  have hb4w := hba.trans (hb4'.mono hba.size)
  clear c0 c1 c2 c3 c4 c5
  obtain ⟨v7, v8⟩ := V.out w4 hb4'
  by_cases hth : thereF l f
  case pos =>
    have HA := Lib.hid (addE_there HC.out HF.out hth)
    have HL : Hid (addL l f = []) := Lib.hid (addL_bad (by rw [HA.out]; exact fun h => by cases h))
    rw [decide_eq_true hth]
    have HTH := Lib.hid hth; clear hth
    go_wp2_with fail
    go_quiet (fail)
    go_wp2_with fail
    go_ret2
    exact ⟨_, _, rfl, by rw [HL.out]; exact At.nil _ _ _, by rw [HA.out]; exact ⟨by decide, rfl⟩, Bdn hb4w _⟩
  rw [decide_eq_false hth]
  have HTH := Lib.hid hth; clear hth
  by_cases h60 : 60 ≤ l.length
  case pos =>
    have HA := Lib.hid (addE_full HC.out HF.out HTH.out h60)
    have HL : Hid (addL l f = []) := Lib.hid (addL_bad (by rw [HA.out]; exact fun h => by cases h))
    have g60 : (60 : Int) ≤ (l.length : Int) := by omega
    clear h60
    go_wp2_with fail
    go_quiet (fail)
    go_wp2_with fail
    go_ret2
    exact ⟨_, _, rfl, by rw [HL.out]; exact At.nil _ _ _, by rw [HA.out]; exact ⟨by decide, rfl⟩, Bdn hb4w _⟩
  have HA := Lib.hid (addE_nil HC.out HF.out HTH.out h60)
  have HL : Hid (addL l f = l.take k ++ f :: l.drop k) := Lib.hid (by unfold addL; rw [if_pos HA.out, placeF_at hpl])
  have g60 : decide ((60 : Int) ≤ (l.length : Int)) = false := by simp; omega
  have hkl := hpl.le
  clear h60 hpl
  have hl4 := hl1.below hb4'
  obtain ⟨d0, d1, d2, d3, d4, d5⟩ := Cs.out w4 hb4'
  go_wp2_with fail
  go_region_held3 (fun w' => w'.cell? ⟨w.heap.size, 0, none⟩ = some (S f.path) ∧ w'.cell? ⟨w.heap.size, 1, none⟩ = some (S f.part) ∧ w'.cell? ⟨w.heap.size, 2, none⟩ = some (.int .i64 f.n) ∧ w'.cell? ⟨w.heap.size, 3, none⟩ = some (.int .i64 f.lo) ∧ w'.cell? ⟨w.heap.size, 4, none⟩ = some (.int .i64 f.hi) ∧ w'.cell? ⟨w.heap.size, 5, none⟩ = some (.int .i64 f.seq))
    (first | exact ⟨d0, d1, d2, d3, d4, d5⟩ | exact Cs.out _ (hb4'.drew.alloc hb4'.size _) | exact Cs.out _ (hb5'.alloc hb5'.size _))
    (first
      | (go_at_call 106; refine (cloneF_any _ l _ (hl1.below (by first | exact hb4'.drew | exact hb4'.drew.alloc hb4'.size _)) (by omega)).mono ?_; rintro e w5 ⟨v5, rfl, hown5, hb5⟩; have hb5' : Below w1.heap.size w1 w5 := (by first | exact hb4'.drew.trans (hb5.mono hb4'.size) | exact (hb4'.drew.alloc hb4'.size _).trans (hb5.mono (Nat.le_trans hb4'.size (by simp)))); clear d0 d1 d2 d3 d4 d5; obtain ⟨d0, d1, d2, d3, d4, d5⟩ := Cs.out w5 hb5')
      | (go_at_call 105; refine (insertF_any w4.heap.size _ l f k w5.heap.size _ (hown5.alloc _) hkl hn (by have := hb5.size; simp at this ⊢; omega) (heap_alloc_new w5 _) (fun h => absurd (World.ownsRow.lt hown5 _ h).2 (Nat.lt_irrefl _))).mono ?_; rintro e w6 ⟨v6, rfl, hown6, hb6⟩; have hb6w : Below w.heap.size w w6 := hba.trans (((hb5'.alloc hb5'.size _).trans (hb6.mono hb4'.size)).mono hba.size); have hat6 := Lib.hid (hown6.at encF_enc); clear d0 d1 d2 d3 d4 d5; obtain ⟨d0, d1, d2, d3, d4, d5⟩ := Cs.out w6 ((hb5'.alloc hb5'.size _).trans (hb6.mono hb4'.size)))
      | (go_at_call 105; refine (insertF_any _ _ l f k w4.heap.size _ hown5 hkl hn hb5.size ((hb5.block w4.heap.size (by simp)).trans (heap_alloc_new w4.drew _)) (fun h => absurd (World.ownsRow.lt hown5 _ h).1 (by simp))).mono ?_; rintro e w6 ⟨v6, rfl, hown6, hb6⟩; have hb6' : Below w1.heap.size w1 w6 := hb5'.trans (hb6.mono (Nat.le_trans hb4'.size (by simp))); have hb6w : Below w.heap.size w w6 := hba.trans (hb6'.mono hba.size); have hat6 := Lib.hid (hown6.at encF_enc); clear d0 d1 d2 d3 d4 d5; obtain ⟨d0, d1, d2, d3, d4, d5⟩ := Cs.out w6 hb6'))
  all_goals
    go_wp2_with fail
    go_ret2
    exact ⟨_, _, rfl, by rw [HL.out]; exact hat6.out, by rw [HA.out]; rfl, hb6w⟩

theorem removeE_bad {l : List Fl} {p : Str} (h : listCheck l ≠ .nil) : removeE l p = listCheck l := if_pos h
theorem removeE_none {l : List Fl} {p : Str} (h : listCheck l = .nil) (h1 : findF l p = none) : removeE l p = .bare 6 := by unfold removeE; rw [if_neg (by simp [h]), if_pos (by rw [h1]; rfl)]
theorem removeE_nil {l : List Fl} {p : Str} {k : Nat} (h : listCheck l = .nil) (h1 : findF l p = some k) : removeE l p = .nil := by unfold removeE; rw [if_neg (by simp [h]), if_neg (by rw [h1]; simp)]
theorem removeL_bad {l : List Fl} {p : Str} (h : removeE l p ≠ .nil) : removeL l p = [] := if_neg h
theorem findF_some {l : List Fl} {p : Str} {k : Nat} (h : findF l p = some k) : ∃ x, l[k]? = some x ∧ x.path = p := by
  unfold findF at h
  obtain ⟨hk, h1, -⟩ := List.findIdx?_eq_some_iff_getElem.1 h
  exact ⟨l[k], List.getElem?_eq_getElem hk, by simpa using h1⟩
theorem findV_some {l : List Fl} {p : Str} {k : Nat} (h : findF l p = some k) : findV l p = k := by
  unfold findF at h; unfold findV idxVal; rw [h]
theorem findV_none {l : List Fl} {p : Str} (h : findF l p = none) : findV l p = -1 := by
  unfold findF at h; unfold findV idxVal; rw [h]
theorem find_mem {l : List Fl} {p : Str} : 0 ≤ findV l p ↔ ∃ f ∈ l, f.path = p := by
  cases hf : findF l p with
  | none =>
    rw [findV_none hf]
    have := findF_none.1 hf
    constructor
    · intro h; omega
    · rintro ⟨f, h1, h2⟩; exact absurd h2 (this f h1)
  | some k =>
    rw [findV_some hf]
    obtain ⟨x, h1, h2⟩ := findF_some hf
    exact ⟨fun _ => ⟨x, List.mem_of_getElem? h1, h2⟩, fun _ => by omega⟩
set_option maxHeartbeats 1000000 in
set_option maxRecDepth 20000 in
theorem listRemove_any (E : Nat → Addr) (B : Nat) (v : Value) (l : List Fl) (p : Str) (w : World) (hE : Errs [2, 4, 5, 6, 8, 9] E B w) (hT : LNum B w) (hM : LMax B w) (hl : FilesAt w v l) (hs : ∀ x ∈ l, midF x) :
    Calls Tryz.prog 41 #[v, S p] w fun e w' => ∃ u ev, e = .returned (.tuple #[u, ev]) ∧ FilesAt w' u (removeL l p) ∧ ErV E w' ev (removeE l p) ∧ Below w.heap.size w w' := by
  have hBw := hE.le
  have hif := isIfaceE
  have hl0 := hl
  obtain ⟨a, c, rfl, -, -⟩ := hl.form'
  have V0 := fun w6 (h : Below w.heap.size w w6) => (hE.below' h hBw).var 6 (by decide)
  simp only [errG] at V0
  have V := Lib.hid V0
  clear V0
  go_enter Tryz.func41, Tryz.ntmps41
  go_wp2_with fail
  refine (listCheck_any E B _ l _ (hE.sub (by decide)) hT hM hl hs).mono ?_
  rintro e w2 ⟨ev, rfl, hev, hb2⟩
  by_cases hck : listCheck l = .nil
  case neg =>
    have HA := Lib.hid (removeE_bad (p := p) hck)
    have HL : Hid (removeL l p = []) := Lib.hid (removeL_bad (by rw [HA.out]; exact hck))
    obtain ⟨u, x, rfl⟩ := hev.iface hck
    have He := Lib.hid hev; clear hev hck
    go_wp2_with fail
    go_ret2
    exact ⟨_, _, rfl, by rw [HL.out]; exact At.nil _ _ _, by rw [HA.out]; exact He.out, hb2⟩
  rw [hck] at hev
  obtain rfl : ev = .nilIface := hev
  have HC := Lib.hid hck; clear hck
  have hl2 := hl.below hb2
  go_wp2_with fail
  refine (listFind_any _ l p _ hl2).mono ?_
  rintro e w3 ⟨rfl, hb3⟩
  have hb3' := hb2.trans (hb3.mono hb2.size)
  cases hfi : findF l p with
  | none =>
    have HA := Lib.hid (removeE_none HC.out hfi)
    have HL : Hid (removeL l p = []) := Lib.hid (removeL_bad (by rw [HA.out]; exact fun h => by cases h))
    rw [findV_none hfi]
    clear hfi
    have v6 := V.out w3 hb3'
    go_wp2_with fail
    go_quiet (fail)
    go_wp2_with fail
    go_ret2
    exact ⟨_, _, rfl, by rw [HL.out]; exact At.nil _ _ _, by rw [HA.out]; exact ⟨by decide, rfl⟩, Bdn hb3' _⟩
  | some k =>
    have HA := Lib.hid (removeE_nil HC.out hfi)
    obtain ⟨x, hxk, hxp⟩ := findF_some hfi
    have HR := Lib.hid ((right_iff l).1 HC.out)
    have HL : Hid (removeL l p = l.take k ++ l.drop (k + 1)) := Lib.hid (by unfold removeL; rw [if_pos HA.out, ← hxp, dropF_at HR.out.ris hxk])
    rw [findV_some hfi]
    obtain ⟨hk, -⟩ := List.getElem?_eq_some_iff.1 hxk
    have h60 := HR.out.len
    clear hfi hxk hxp
    have hl3 := hl.below hb3'
    have hkn : ((k : Int) < 0) = False := by simp
    go_wp2_with fail
    refine (cloneF_any _ l _ hl3 (by omega)).mono ?_
    rintro e w4 ⟨v4, rfl, hown, hb4⟩
    have hb4' := hb3'.trans (hb4.mono hb3'.size)
    obtain ⟨a4, c4, rfl, -, -⟩ := (hown.at encF_enc).form'
    have hwk : IntKind.i64.wrap ((k : Int) + 1) = (k : Int) + 1 := by rw [IntKind.wrap_i64]; omega
    have hD := deleteF_any w3.heap.size _ l k w4 hown hk (by omega) hb4.size
    have HD := Lib.hid hD; clear hD
    go_wp2_with fail
    refine HD.out.mono ?_
    rintro e w5 ⟨v5, rfl, hown5, hb5⟩
    have Ho := Lib.hid (hown5.at encF_enc)
    go_wp2_with fail
    go_ret2
    exact ⟨_, _, rfl, by rw [HL.out]; exact Ho.out, by rw [HA.out]; rfl, hb4'.trans (hb5.mono hb3'.size)⟩
end Go.Proofs.YtikboodjfanjkaaGreatDoor
namespace Go.Proofs.YtikboodjfanjkaaGreatDoor

/-! ### Numerals -/
theorem nDigits_le : ∀ (k u : Nat), u < 10 ^ (k + 1) → Lib.nDigits u ≤ k + 1
  | 0, u, h => by rw [Lib.nDigits_small (by simpa using h)]; omega
  | k + 1, u, h => by
    by_cases h' : u < 10
    · rw [Lib.nDigits_small h']; omega
    · rw [Lib.nDigits_big h']
      rw [Nat.pow_succ] at h
      have := nDigits_le k (u / 10) (by omega)
      omega
theorem digit_val {d : Nat} (h : d < 10) : (UInt8.ofNat (48 + d)).toNat = 48 + d := by
  rw [UInt8.toNat_ofNat']; omega
theorem digitVal_of {d : Nat} (h : d < 10) : Lib.digitVal (UInt8.ofNat (48 + d)) = some d := by
  unfold Lib.digitVal
  rw [digit_val h, if_pos (by omega)]
  congr 1; omega
theorem decFrom_app : ∀ (a b : Str) (acc : Nat), Lib.decFrom acc (a ++ b) = (Lib.decFrom acc a).bind fun m => Lib.decFrom m b
  | [], b, acc => rfl
  | c :: r, b, acc => by
    simp only [List.cons_append, Lib.decFrom]
    cases Lib.digitVal c with
    | none => rfl
    | some d => exact decFrom_app r b _
theorem decFrom_dec (u : Nat) : Lib.decFrom 0 (Lib.decDigits u) = some u := by
  induction u using Nat.strongRecOn with
  | _ u ih =>
    by_cases h : u < 10
    · rw [Lib.decDigits, dif_pos h]
      simp only [Lib.decFrom, digitVal_of h]
      simp
    · rw [Lib.decDigits, dif_neg h, decFrom_app, ih (u / 10) (by omega)]
      simp only [Option.bind_some, Lib.decFrom, digitVal_of (Nat.mod_lt u (by decide : 0 < 10))]
      congr 1; omega
theorem dec_digit (u : Nat) : ∀ c ∈ Lib.decDigits u, 48 ≤ c.toNat ∧ c.toNat ≤ 57 := by
  induction u using Nat.strongRecOn with
  | _ u ih =>
    intro c hc
    by_cases h : u < 10
    · rw [Lib.decDigits, dif_pos h] at hc
      obtain rfl := List.mem_singleton.1 hc
      rw [digit_val h]; omega
    · rw [Lib.decDigits, dif_neg h] at hc
      rcases List.mem_append.1 hc with hc | hc
      · exact ih (u / 10) (by omega) c hc
      · obtain rfl := List.mem_singleton.1 hc
        rw [digit_val (Nat.mod_lt u (by decide : 0 < 10))]; omega
theorem dec_ne (u : Nat) : Lib.decDigits u ≠ [] := fun e => by
  have h1 := Lib.decDigits_length u
  have h2 := Lib.nDigits_pos u
  rw [e] at h1; simp at h1; omega
theorem decNat_dec (u : Nat) : Lib.decNat (Lib.decDigits u) = some u := by
  unfold Lib.decNat
  rw [if_neg (by simpa using dec_ne u)]; exact decFrom_dec u
theorem atoi_dec (u : Nat) : Lib.atoi (Lib.decDigits u) = some (u : Int) := by
  have h := decNat_dec u
  have hd := dec_digit u
  cases he : Lib.decDigits u with
  | nil => exact absurd he (dec_ne u)
  | cons b r =>
    rw [he] at h hd
    have hb := hd b (by simp)
    have h45 : b ≠ 45 := fun e => by rw [e] at hb; revert hb; decide
    have h43 : b ≠ 43 := fun e => by rw [e] at hb; revert hb; decide
    unfold Lib.atoi
    simp only [beq_iff_eq, h45, h43, if_false, h, Option.map_some]

theorem numOf_itoa {n : Int} (h0 : 0 ≤ n) (h1 : n < 10000000000) : numOf (Lib.itoa n) = some n := by
  obtain ⟨u, rfl⟩ : ∃ u : Nat, n = u := ⟨n.toNat, by omega⟩
  have hl : (Lib.itoa (u : Int)).length ≤ 10 := by
    rw [Lib.itoa_nonneg, Lib.decDigits_length]; exact nDigits_le 9 u (by omega)
  unfold numOf
  rw [Lib.atoiAll_short _ (by omega), Lib.itoa_nonneg, atoi_dec]
  simp only [Lib.NumEnd.ofOption]
  rw [if_pos ⟨by rw [← Lib.itoa_nonneg]; omega, Lib.itoa_nonneg u⟩]
theorem itoa_digit {n : Int} (h0 : 0 ≤ n) : ∀ c ∈ Lib.itoa n, 48 ≤ c.toNat ∧ c.toNat ≤ 57 := by
  obtain ⟨u, rfl⟩ : ∃ u : Nat, n = u := ⟨n.toNat, by omega⟩
  rw [Lib.itoa_nonneg]; exact dec_digit u
theorem not_mem_itoa {n : Int} (h0 : 0 ≤ n) {c : UInt8} (hc : ¬ (48 ≤ c.toNat ∧ c.toNat ≤ 57)) : c ∉ Lib.itoa n := fun h => hc (itoa_digit h0 c h)

/-! ### Below 0 -/
theorem atoi_neg {b : Str} {u : Nat} (h : Lib.decNat b = some u) : Lib.atoi (45 :: b) = some (-(u : Int)) := by
  unfold Lib.atoi
  simp [h]
theorem numOf_itoa' {n : Int} (h0 : -10000000000 < n) (h1 : n < 10000000000) : numOf (Lib.itoa n) = some n := by
  rcases Int.lt_or_le n 0 with hn | hn
  · obtain ⟨u, rfl⟩ : ∃ u : Nat, n = -(u : Int) := ⟨n.natAbs, by omega⟩
    have hu : 0 < u := by omega
    have he := Lib.itoa_neg u hu
    have hl : (Lib.itoa (-(u : Int))).length ≤ 11 := by
      rw [he, List.length_cons, Lib.decDigits_length]
      have := nDigits_le 9 u (by omega)
      omega
    unfold numOf
    rw [Lib.atoiAll_short _ (by omega)]
    have ha : Lib.atoi (Lib.itoa (-(u : Int))) = some (-(u : Int)) := by rw [he]; exact atoi_neg (decNat_dec u)
    rw [ha]
    simp only [Lib.NumEnd.ofOption]
    simp [hl]
  · exact numOf_itoa hn h1
theorem itoa_sign (n : Int) : ∀ c ∈ Lib.itoa n, c = 45 ∨ (48 ≤ c.toNat ∧ c.toNat ≤ 57) := by
  intro c hc
  rcases Int.lt_or_le n 0 with hn | hn
  · obtain ⟨u, rfl⟩ : ∃ u : Nat, n = -(u : Int) := ⟨n.natAbs, by omega⟩
    rw [Lib.itoa_neg u (by omega)] at hc
    rcases List.mem_cons.1 hc with h | h
    · exact .inl h
    · exact .inr (dec_digit u c h)
  · exact .inr (itoa_digit hn c hc)
theorem not_mem_itoa' {n : Int} {c : UInt8} (h1 : c ≠ 45) (hc : ¬ (48 ≤ c.toNat ∧ c.toNat ≤ 57)) : c ∉ Lib.itoa n := fun h => (itoa_sign n c h).elim h1 hc
/-- A text that is a number is that number's numeral. -/
theorem numOf_text {s : Str} {n : Int} (h : numOf s = some n) : Lib.itoa n = s := by
  unfold numOf at h
  split at h
  · split at h
    · rename_i hc
      rw [← Option.some.inj h]; exact hc.2
    · cases h
  · cases h
theorem numOf_len {s : Str} {n : Int} (h : numOf s = some n) : s.length ≤ 11 := by
  unfold numOf at h
  split at h
  · split at h
    · rename_i hc; exact hc.1
    · cases h
  · cases h
end Go.Proofs.YtikboodjfanjkaaGreatDoor
