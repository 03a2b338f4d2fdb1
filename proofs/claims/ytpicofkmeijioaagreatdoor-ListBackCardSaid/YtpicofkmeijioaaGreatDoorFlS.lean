/- slices.Clone, Delete at []api.File. -/
import Derived.Test.YtpicofkmeijioaaGreatDoorFlW
import Derived.Test.YtpicofkmeijioaaGreatDoorRowN
import Derived.Lib.AppendZeros
import Derived.Deep.RegionLaw
namespace Go.Proofs.YtpicofkmeijioaaGreatDoor
open Go.RowKit

theorem own_empty {α : Type} (enc : α → List Value) (e : TypeId) (sz B g : Nat) (w : World) (hB : B ≤ g) (hg : w.heap[g]? = some (.cells #[] e (0, 0))) : Own enc e sz B w (.slice (some ⟨g, 0, none⟩) 0 0) [] :=
  ⟨by simp, .inr ⟨g, 0, #[], rfl, hB, hg, Nat.le_refl _, Nat.zero_le _, by simp, by simp⟩⟩
theorem At.form' {α : Type} {enc : α → List Value} {sz : Nat} {w : World} {v : Value} {l : List α} (h : At enc sz w v l) : ∃ a c, v = .slice a l.length c ∧ (a = none → l = []) ∧ c ≤ maxLen := by
  obtain ⟨a, c, b, o, hv, ha, _, hm, _⟩ := h
  exact ⟨a, c, hv, fun h => List.eq_nil_of_length_eq_zero (by
    rcases Nat.eq_zero_or_pos l.length with h0 | h0
    · exact h0
    · have := ha h0; rw [h] at this; cases this), hm⟩

set_option maxRecDepth 20000 in
theorem cloneF_any (v : Value) (l : List Fl) (w : World) (hl : FilesAt w v l) (hn : l.length ≤ 100000) :
    Calls Tryz.prog 93 #[v] w fun e w' => ∃ v', e = .returned v' ∧ Own encF 50 6 w.heap.size w' v' l ∧ Below w.heap.size w w' := by
  obtain ⟨a, c, rfl, hnil, hcm⟩ := hl.form'
  have hq := fun w' => Lib.run_eql_slice_nil (P := Tryz.prog) w' 28 50 a l.length c 0 0 Tryz.underlying28
  cases a with
  | none =>
    obtain rfl := hnil rfl
    simp only [Option.isNone_none, List.length_nil] at hq
    go_enter Tryz.func93, Tryz.ntmps93
    go_wp2_with fail
    go_ret
    exact ⟨_, rfl, Own.nil _ _ _ _ _, Below.refl _ _⟩
  | some ad =>
    simp only [Option.isNone_some] at hq
    have hba : Below w.heap.size w (w.alloc (.cells #[] 50)) := (Below.refl _ _).alloc (Nat.le_refl _) _
    have hs := (hl.below hba).src encF_enc (by decide)
    have ho : Own encF 50 6 w.heap.size (w.alloc (.cells #[] 50)) (.slice (some ⟨w.heap.size, 0, none⟩) 0 0) [] := own_empty encF _ 6 _ _ _ (Nat.le_refl _) (heap_alloc_new w _)
    go_enter Tryz.func93, Tryz.ntmps93
    go_wp2_with (at_builtin; refine wpList_app rfl _ _ _ rfl w.heap.size elFl (.slice (some ⟨w.heap.size, 0, none⟩) 0 0) 0 [] rfl ho _ _ _ rfl hs (by unfold maxLen; omega) (by omega) (by simp) ?_; intro v' w1 hown hg _)
    go_ret
    exact ⟨_, rfl, by simpa [Own] using hown, hba.grown hg (by simp) (fun k hk => by cases hk; exact Nat.le_refl _)⟩

theorem flZero : (Tryz.prog.info? 50).bind (·.zero) = some (.agg #[.string ByteArray.empty, .string ByteArray.empty, .int .i64 0, .int .i64 0, .int .i64 0, .int .i64 0]) := by kernel_rfl
theorem flZero1 : ∀ z, (Tryz.prog.info? 50).bind (·.zero) = some z → ∀ u ∈ z.cells.toList, u.oneCell' = true := by
  intro z hz u hu
  rw [flZero] at hz
  cases hz
  simp [Value.cells] at hu
  rcases hu with rfl | rfl <;> rfl
set_option maxRecDepth 20000 in
set_option maxHeartbeats 1000000 in
theorem deleteF_any (base : Nat) (v : Value) (l : List Fl) (k : Nat) (w : World) (hl : Own encF 50 6 base w v l) (hk : k < l.length) (hn : l.length ≤ 100000) (hB : base ≤ w.heap.size) :
    Calls Tryz.prog 96 #[v, .int .i64 k, .int .i64 ((k : Int) + 1)] w fun e w' => ∃ v', e = .returned v' ∧ Own encF 50 6 base w' v' (l.take k ++ l.drop (k + 1)) ∧ Below base w w' := by
  obtain ⟨g, cap, cur, rfl, hBg, hg, hcap, hm, hs, ht⟩ := hl.open (by omega)
  unfold maxLen at hm
  obtain ⟨r, hr⟩ : ∃ r, k + (l.length - (k + 1)) = r := ⟨_, rfl⟩
  have hct := hl.cut' encF_enc (k := k) (by omega)
  have hfr := hl.from encF_enc (k + 1)
  have hr1 : r + 1 ≤ l.length := by omega
  have hr2 : l.length ≤ r + 1 := by omega
  have HCT := Lib.hid hct
  have HFR := Lib.hid hfr
  have HR := Lib.hid hr
  have hlt : (l.take k).length = k := by rw [List.length_take]; omega
  have hld : ((l.drop (k + 1)).flatMap encF).length = (l.length - (k + 1)) * 6 := by rw [flat_length encF_enc, List.length_drop]
  have h1c : ∀ u ∈ (l.drop (k + 1)).flatMap encF, u.oneCell' = true := fun u hu => by
    obtain ⟨x, _, hux⟩ := List.mem_flatMap.1 hu
    exact (encF_enc x).2 u hux
  have HLT := Lib.hid hlt
  have HLD := Lib.hid hld
  have H1C := Lib.hid h1c
  have b1 : ((k : Int) == (k : Int) + 1) = false := beq_eq_false_iff_ne.2 (by omega)
  have b8 : (0 : Int) ≤ (k : Int) + 1 := by omega
  have b9 : (k : Int) ≤ (k : Int) + 1 := by omega
  have b2 : (k : Int) + 1 ≤ l.length := by omega
  have b3 : (l.length : Int) ≤ cap := by omega
  have b4 : ¬ (l.length = k) := by omega
  have b5 : (k : Int) + 1 ≤ cap := by omega
  have b6 : (k : Int) ≤ cap := by omega
  have b7 : (k : Int) ≤ l.length := by omega
  clear hct hfr hr hlt hld h1c hs ht hg
  go_enter Tryz.func96, Tryz.ntmps96
  by_cases hcj : cap = k + 1
  · subst hcj
    have hlk : l.length = k + 1 := by omega
    have hdn : l.drop (k + 1) = [] := List.drop_eq_nil_of_le (by omega)
    have HLK := Lib.hid hlk
    have HDN := Lib.hid hdn
    clear hlk hdn
    go_wp2_with fail
    go_region
    have ho1 : Own encF 50 6 base w.drew (.slice (some ⟨g, 0, none⟩) k (k + 1)) (l.take k ++ l.drop (k + 1)) := by
      rw [HDN.out, List.append_nil]
      exact HCT.out
    have hb1 : Below base w w.drew := (Below.refl base w).drew
    obtain ⟨cs, hrun, ho2⟩ := run_clear_behind (c := 1) elFl encF_enc flZero1 ho1 (m := l.length - k) (by have := HLK.out; omega) (by have := HLK.out; omega)
    have Ho2 := Lib.hid ho2
    have hcr : ¬ (k + 1 = k) := by omega
    clear ho2 ho1
    go_wp2_with fail
    go_ret
    exact ⟨_, rfl, Ho2.out, Bset hb1 hBg _⟩
  · go_wp2_with fail
    go_region_law ((refine step_fits rfl (.tmp 22) (.tmp 25) 28 rfl elFl base g k cap _ (by simp [Act.eval, Act.put]) (by have := HCT.out; unfold Own at this; rw [HLT.out] at this; exact this) ⟨g, (k + 1) * 6, none⟩ (l.length - (k + 1)) (cap - (k + 1)) r ((l.drop (k + 1)).flatMap encF) (by simp [Act.eval, Act.put]) HLD.out (by intro j u hu; rw [add_lit]; exact HFR.out j u hu) H1C.out (by omega) HR.out ?_; intro w1 h1 hg1))
    have ho1 : Own encF 50 6 base w1 (.slice (some ⟨g, 0, none⟩) r cap) (l.take k ++ l.drop (k + 1)) := by
      unfold Own
      have e : (l.take k ++ l.drop (k + 1)).length = r := by rw [List.length_append, HLT.out, List.length_drop]; exact HR.out
      rw [e, List.flatMap_append]
      exact h1
    have hb1 : Below base w w1 := (Below.refl base w).drew.grown hg1 hB (fun k' hk' => by cases hk'; exact hBg)
    obtain ⟨cs, hrun, ho2⟩ := run_clear_behind (c := cap - r) elFl encF_enc flZero1 ho1 (m := l.length - r) (by omega) (by omega)
    have Ho2 := Lib.hid ho2
    have hcr : ¬ (cap = r) := by omega
    have b10 : (r : Int) ≤ l.length := by omega
    clear ho2 ho1 h1 hg1
    go_wp2_with fail
    go_ret
    exact ⟨_, rfl, Ho2.out, Bset hb1 hBg _⟩

theorem overlapsF (w : World) (vb g off la ca lb cb : Nat) (hne : vb ≠ g) (tA tB : TypeId) (kA kB : Nat) (hsa : w.shape? vb = some (tA, kA)) (hsb : w.shape? g = some (tB, kB)) (hkB : kB ≠ 0) (hfa : w.frozen? ⟨vb, 0, none⟩ = false) (hfe : w.frozen? ⟨vb, kA, none⟩ = false) :
    (callFunc 137 #[.slice (some ⟨vb, 0, none⟩) la ca, .slice (some ⟨g, off, none⟩) lb cb]).run Tryz.prog w = .ok (.value (.bool false)) w := by
  rw [run_callFunc_extern Tryz.func137 (by kernel_rfl) (by kernel_rfl) (by kernel_rfl) (e := Extern.SlicesOverlaps.overlaps #[28, 28] #[4]) (by kernel_rfl),
    Lib.run_overlaps_apart w 28 4 50 Tryz.underlying28 6 szFl ⟨vb, 0, none⟩ ⟨g, off, none⟩ la ca lb cb hne tA tB kA kB hsa hsb hkB hfa hfe]
  rfl
set_option maxRecDepth 20000 in
set_option maxHeartbeats 2000000 in
theorem insertF_any (base : Nat) (v : Value) (l : List Fl) (f : Fl) (k vb : Nat) (w : World) (hl : Own encF 50 6 base w v l) (hk : k ≤ l.length) (hn : l.length ≤ 10000) (hB : base ≤ w.heap.size)
    (hvb : w.heap[vb]? = some (.cells #[S f.path, S f.part, .int .i64 f.n, .int .i64 f.lo, .int .i64 f.hi, .int .i64 f.seq] 50 (0, 0))) (hne : v.ownBlock ≠ some vb) :
    Calls Tryz.prog 92 #[v, .int .i64 k, .slice (some ⟨vb, 0, none⟩) 1 1] w fun e w' => ∃ v', e = .returned v' ∧ Own encF 50 6 base w' v' (l.take k ++ f :: l.drop k) ∧ Below base w w' := by
  have hsrc : SrcAt w 6 (.slice (some ⟨vb, 0, none⟩) 1 1) 1 (encF f) := ⟨_, 1, rfl, rfl, by simp [Value.oneCell'], fun _ => ⟨vb, 0, rfl, fun j u hu => by
    rw [cell_of_row w vb _ _ _ (0, 0) hvb]; simpa using hu⟩⟩
  by_cases hkn : k = l.length
  · obtain ⟨a, c, rfl, hnil, hcm⟩ := (hl.at encF_enc).form'
    have b1 : ((k : Int) == (l.length : Int)) = true := by rw [hkn]; simp
    have b2 : (k : Int) ≤ l.length := by omega
    have HKN := Lib.hid hkn
    clear hkn
    go_enter Tryz.func92, Tryz.ntmps92
    go_wp2_with (at_builtin; refine wpList_app rfl (.tmp 23) (.tmp 24) _ rfl base elFl _ l.length _ rfl hl _ _ _ rfl hsrc (by unfold maxLen; omega) (by omega) hB ?_; intro v' w1 hown hg _)
    all_goals
      go_ret
      refine ⟨_, rfl, ?_, Bapp (Below.refl base w) hl hg (Nat.le_refl _) hB⟩
      rw [HKN.out, List.take_length, List.drop_length]
      exact Own.snoc hown
  obtain ⟨g, cap, cur, rfl, hBg, hg, hcap, hm, hs, ht⟩ := hl.open (by omega)
  unfold maxLen at hm
  have hvg : vb ≠ g := fun e => hne (by rw [e]; rfl)
  have HG := Lib.hid hg
  have HT := Lib.hid ht
  have HS := Lib.hid hs
  have HVB := Lib.hid hvb
  have b1 : ((k : Int) == (l.length : Int)) = false := beq_eq_false_iff_ne.2 (by omega)
  have b2 : (k : Int) ≤ l.length := by omega
  have b3 : (l.length : Int) ≤ cap := by omega
  have b4 : ¬ cap = k := by omega
  have b5 : (k : Int) ≤ cap := by omega
  have HCT := Lib.hid (hl.cut' encF_enc (k := k) (by omega))
  have hfr := hl.from encF_enc k
  have HFR := Lib.hid hfr
  have hlt : (l.take k).length = k := by rw [List.length_take]; omega
  have HLT := Lib.hid hlt
  have hld : ((l.drop k).flatMap encF).length = (l.length - k) * 6 := by rw [flat_length encF_enc, List.length_drop]
  have h1c : ∀ u ∈ (l.drop k).flatMap encF, u.oneCell' = true := fun u hu => by
    obtain ⟨x, _, hux⟩ := List.mem_flatMap.1 hu
    exact (encF_enc x).2 u hux
  have HLD := Lib.hid hld
  have H1C := Lib.hid h1c
  have hgl : g < w.heap.size := (Array.getElem?_eq_some_iff.1 hg).1
  have hvl : vb < w.heap.size := (Array.getElem?_eq_some_iff.1 hvb).1
  have h1f : ∀ u ∈ encF f, u.oneCell' = true := by simp [Value.oneCell']
  have H1F := Lib.hid h1f
  have b7 : (k : Int) + 1 ≤ (l.length : Int) + 1 := by omega
  have b8 : (0 : Int) ≤ (k : Int) + 1 := by omega
  have b9 : (k : Int) ≤ (l.length : Int) + 1 := by omega
  clear hg ht hs hvb hfr hlt hld h1c h1f hne hsrc
  by_cases hroom : cap < l.length + 1
  · have b6 : (cap : Int) < (l.length : Int) + 1 := by omega
    go_enter Tryz.func92, Tryz.ntmps92
    go_wp2_with (at_builtin; refine wpList_stop ?_)
    refine ⟨?_, trivial⟩
    refine wpList_app_zeros rfl (.tmp 34) (.tmp 39) _ _ rfl elFl .i64 Tryz.underlying3 base g k cap (l.length + 1 - k) _ ((l.length : Int) + 1 - k) (by omega) (by rfl) (by rfl) (by have := HCT.out; unfold Own at this; rw [HLT.out] at this; exact this) (by omega) (by omega) (by omega) (by omega) (l.length + 1) (by omega) ?_
    intro cap2 cur2 h1 h2 h3 h4 w1 hw1 hg1 hs1
    have hc2 : ¬ cap2 = k := by omega
    have hc3 : (k : Int) ≤ cap2 := by omega
    have hc4 : ¬ cap2 = k + 1 := by omega
    have hc5 : (k : Int) + 1 ≤ cap2 := by omega
    have H3 := Lib.hid h3
    have H4 := Lib.hid h4
    clear h3 h4
    obtain ⟨w2, hr2, hw2, hg2⟩ := run_copyN_ex 28 elFl w.heap.size (k * 6) (l.length + 1 - k) (cap2 - k) 1 1 1 ⟨vb, 0, none⟩ cur2 w1 hw1.out (encF f) (by simp only [Nat.min_def]; split <;> omega) rfl
      (fun j u hu => by rw [add_lit, Nat.zero_add, cell_of_row w1 vb _ _ _ (0, 0) ((hg1.block vb hvl (by simp)).trans HVB.out)]; simpa using hu) (by simp only [List.length_cons, List.length_nil]; have := H3.out; omega) H1F.out
    have hg2' : w2.heap[g]? = w.heap[g]? := (hg2.block g (by omega) (by simp; omega)).trans (hg1.block g hgl (by simp))
    have hcells : ∀ j u, ((l.drop k).flatMap encF)[j]? = some u → w2.drew.cell? ((⟨g, k * 6, none⟩ : Addr).add j) = some u := fun j u hu => by
      rw [add_lit]
      exact (World.cell?_of_block (w := w) (w' := w2.drew) (a := ⟨g, k * 6 + j, none⟩) hg2').trans (HFR.out j u hu)
    have hsz2 : (splice cur2.toList (k * 6) (encF f)).length = cap2 * 6 := by
      rw [splice_len _ _ _ (by simp only [List.length_cons, List.length_nil, Array.length_toList]; have := H3.out; omega), Array.length_toList, H3.out]
    obtain ⟨w3, hr3, hw3, hg3⟩ := run_copyN_ex 28 elFl w.heap.size ((k + 1) * 6) (l.length - k) (cap2 - (k + 1)) (l.length - k) (cap - k) (l.length - k) ⟨g, k * 6, none⟩ _ w2.drew hw2.out ((l.drop k).flatMap encF) (by simp) HLD.out
      hcells (by rw [HLD.out, List.size_toArray, hsz2]; omega) H1C.out
    have Hsz2 := Lib.hid hsz2
    clear hcells hg2' hsz2
    have hbw : Below base w w3 := ((((Below.refl base w).grown hg1 hB (fun k hk => by cases hk)).grown hg2 (by omega) (fun k hk => by cases hk; exact hB)).drew).grown hg3 (by have := hg2.size; simp; omega) (fun k hk => by cases hk; exact hB)
    have HOW := Lib.hid (own_insNew (f := f) encF_enc hB hk h1 h2 H3.out H4.out w3 hw3.out)
    go_wp2_with fail
    go_region
    go_wp2_with fail
    go_ret
    exact ⟨_, rfl, HOW.out, hbw⟩
  · have b6 : decide ((cap : Int) < (l.length : Int) + 1) = false := by simp; omega
    have hov := fun lb cb => overlapsF w vb g ((k + 1) * 6) 1 1 lb cb hvg 50 50 6 (cap * 6) (by simp [World.shape?, HVB.out]) (by simp [World.shape?, HG.out, HS.out]) (by omega) (frozen_row HVB.out) (frozen_row HVB.out)
    obtain ⟨w2, hr2, hw2, hg2⟩ := run_copyN_ex 28 elFl g ((k + 1) * 6) (l.length - k) (cap - (k + 1)) (l.length + 1 - k) (cap - k) (l.length - k) ⟨g, k * 6, none⟩ cur w.drew HG.out ((l.drop k).flatMap encF) (by simp only [Nat.min_def]; split <;> omega) HLD.out
      (fun j u hu => by rw [add_lit]; exact HFR.out j u hu) (by rw [HLD.out, HS.out]; omega) H1C.out
    obtain ⟨w3, hr3, hw3, hg3⟩ := run_copyN_ex 28 elFl g (k * 6) (l.length + 1 - k) (cap - k) 1 1 1 ⟨vb, 0, none⟩ _ w2 hw2.out (encF f) (by simp only [Nat.min_def]; split <;> omega) rfl
      (fun j u hu => by rw [add_lit, Nat.zero_add, cell_of_row w2 vb _ _ _ (0, 0) ((hg2.block vb hvl (by simp; omega)).trans HVB.out)]; simpa using hu) (by rw [List.size_toArray, splice_len _ _ _ (by rw [HLD.out, Array.length_toList (xs := cur), HS.out]; omega), Array.length_toList (xs := cur), HS.out]; simp only [List.length_cons, List.length_nil]; omega) H1F.out
    have hbw : Below base w w3 := (((Below.refl base w).drew).grown hg2 hB (fun k hk => by cases hk; exact hBg)).grown hg3 (by have := hg2.size; simp at this; omega) (fun k hk => by cases hk; exact hBg)
    have HOW := Lib.hid (own_insShift (f := f) encF_enc hBg hk (by omega) (by unfold maxLen; omega) HS.out (by
      have h0 := HCT.out
      obtain ⟨cur', _, hg', _, _, _, _, ht'⟩ := h0.row
      rw [HG.out] at hg'
      cases hg'
      exact ht') w3 hw3.out)
    have bk0 : (k : Int) + 1 ≤ cap := by omega
    have bk1 : ¬ cap = k + 1 := by omega
    have bk2 : (l.length : Int) + 1 ≤ cap := by omega
    have bk3 : ¬ cap = l.length + 1 ∨ True := .inr trivial
    go_enter Tryz.func92, Tryz.ntmps92
    go_wp2_with (simp only [hov])
    go_region
    go_wp2_with fail
    go_ret
    exact ⟨_, rfl, HOW.out, hbw⟩
end Go.Proofs.YtpicofkmeijioaaGreatDoor
