/- deedboxref2.ReadIDs: the walk. -/
import Derived.Test.YtepdedfmdafnkaaGreatDoorRefCut
import Derived.Test.YtepdedfmdafnkaaGreatDoorRefIDs
import Derived.Test.YtepdedfmdafnkaaGreatDoorOwnSt
import Derived.Test.YtepdedfmdafnkaaGreatDoorMetaRead
import Derived.RegionTactic
namespace Go.Proofs.YtepdedfmdafnkaaGreatDoor
open Go.RowKit
attribute [local go_sem] bget

theorem results_tmp_cell {P : Program} {fn : Func} {u p : Tmp} {ty : TypeId} (h : fn.results = #[.tmp u, .cell p ty]) (tmps : Array Value) (w : World) (g : Nat) (t : TypeId) (cs : Array Value) (fr : Nat × Nat) (d : TypeDesc)
    (hp : tmps.getD p undef = .pointer (some ⟨g, 0, none⟩)) (hg : w.heap[g]? = some (.cells cs t fr))
    (hu : P.underlying ty = some d) (hd : (match d with | .struct _ | .array _ _ => true | _ => false) = true) (hi : (P.info? ty).map (·.size) = some cs.size) {v : Value} (hv : tmps.getD u undef = v) :
    (results fn tmps).run P w = .ok (.tuple #[v, .agg cs]) w := by
  have hp' : tmps[p]?.getD undef = .pointer (some ⟨g, 0, none⟩) := by simpa using hp
  have hv' : tmps[u]?.getD undef = v := by simpa using hv
  simp [results, h, hp', hv', asAddr, run_loadVar_row w g t ty cs fr d hg hu hd hi]

theorem read_out {tmps : Array Value} {w : World} {g : Nat} {c p : Int} {v : Value} (hp : tmps.getD 3 undef = .pointer (some ⟨g, 0, none⟩)) (hg : w.heap[g]? = some (.cells #[.int .i64 c, .int .i64 p] 57 (0, 0))) (hv : tmps.getD 2 undef = v) :
    (results Tryz.f35 tmps).run Tryz.prog w = .ok (.tuple #[v, faultV c p]) w :=
  results_tmp_cell rfl _ _ g 57 #[.int .i64 c, .int .i64 p] (0, 0) _ hp hg Tryz.underlying57 rfl (by kernel_rfl) hv

theorem suffix_snoc (t : Str) (c x : UInt8) : Lib.hasSuffix (t ++ [c]) [x] = (x == c) := by
  unfold Lib.hasSuffix List.isSuffixOf
  simp [List.isPrefixOf]
theorem snoc_of {s : Str} (h : 0 < s.length) : ∃ t c, s = t ++ [c] := by
  rcases List.eq_nil_or_concat s with rfl | ⟨t, c, rfl⟩
  · simp at h
  · exact ⟨t, c, by simp⟩

theorem refCut32_any (s : Str) (w : World) (hs : s.length ≤ 100000) :
    Calls Tryz.prog 66 #[S s, .int .u8 32] w fun e w' => ∃ v', e = .returned v' ∧ Own encS 9 1 w.heap.size w' v' (cutAt 32 s) ∧ Below w.heap.size w w' := refCut_any s 32 w hs
theorem sidx_last {P : Program} {t : TypeId} (ht : P.underlying t = some .string) {s : Str} {c : UInt8} (hp : 1 ≤ (s.length : Int)) (h : s[s.length - 1]? = some c) (w : World) :
    (Instr.index t (S s) (.int .i64 ((s.length : Int) - 1))).run P w = .ok (.int .u8 c.toNat) w := by
  have h1 : ((s.length : Int) - 1).toNat = s.length - 1 := by omega
  have h2 : s.length - 1 < s.length := by omega
  have h3 : s[s.length - 1] = c := by rw [List.getElem?_eq_getElem h2] at h; exact Option.some.inj h
  have h4 : (ByteArray.mk s.toArray)[s.length - 1]? = some c := by
    rw [getElem?_pos _ _ (by simpa [ByteArray.size] using h2)]; exact congrArg some h3
  simp [Instr.index, run_underlying ht, asIntOf, h1, hp, h4]

theorem firstFrom_code {f : Nat → Nat} : ∀ {m i : Nat}, firstFrom f i m ≠ .nil → 0 < (firstFrom f i m).code
  | 0, _, h => absurd rfl h
  | m + 1, i, h => by
    rw [firstFrom] at h ⊢
    split
    · rename_i h0; rw [if_pos h0] at h; exact firstFrom_code h
    · rename_i h0; exact Nat.pos_of_ne_zero h0
theorem metaCheck_code {l : List Int} (h : metaCheck l ≠ .nil) : 0 < (metaCheck l).code := by
  unfold metaCheck at h ⊢
  split
  · decide
  · rename_i h0
    rw [if_neg h0] at h
    split
    · decide
    · rename_i h1; rw [if_neg h1] at h; exact firstFrom_code h

def ReadPost (w : World) (s : Str) (e : Ending) (w' : World) : Prop := ∃ v, e = .returned (.tuple #[v, faultOf (metaRead s).2]) ∧ IntsAt w' v (metaRead s).1 ∧ Below w.heap.size w w'

set_option maxRecDepth 20000 in
theorem readIDs_any (s : Str) (w : World) (hs : s.length ≤ 10000) : Calls Tryz.prog 35 #[S s] w (ReadPost w s) := by
  have hba := (Below.refl w.heap.size w).alloc (Nat.le_refl _) (.cells #[.int .i64 0, .int .i64 0] 57)
  by_cases h0 : s.length = 0
  · obtain rfl := List.eq_nil_of_length_eq_zero h0
    clear h0 hs
    go_enter Tryz.func35, Tryz.ntmps35
    go_wp2_with fail
    refine (refBare_any 1 _).mono ?_
    rintro e w1 ⟨rfl, hb⟩
    have hg : w1.heap[w.heap.size]? = some (.cells #[.int .i64 0, .int .i64 0] 57 (0, 0)) := (hb.block _ (by simp)).trans (heap_alloc_new _ _)
    have c0 : w1.cell? ⟨w.heap.size, 0, none⟩ = some (.int .i64 0) := by simp [World.cell?, hg]
    have c1 : w1.cell? ⟨w.heap.size, 1, none⟩ = some (.int .i64 0) := by simp [World.cell?, hg]
    have f0 : w1.frozen? ⟨w.heap.size, 0, none⟩ = false := by simp [World.frozen?, hg]
    have f1 : w1.frozen? ⟨w.heap.size, 1, none⟩ = false := by simp [World.frozen?, hg]
    unfold faultV
    go_wp2_with fail
    refine bodyPost_ret (read_out (g := w.heap.size) rfl (set_two hg _ _) rfl) rfl ⟨_, rfl, At.nil _ _ _, ?_⟩
    exact ((hba.trans (hb.mono hba.size)).setCell (by simp) _).setCell (by simp) _
  have hp : 1 ≤ (s.length : Int) := by omega
  have g0 : ((s.length : Int) == 0) = false := by simpa using h0
  obtain ⟨t, c, hst⟩ := snoc_of (s := s) (by omega)
  have htl : s.length = t.length + 1 := by rw [hst]; simp
  have hext : (ByteArray.mk s.toArray).extract 0 (s.length - 1) = ByteArray.mk t.toArray := by
    rw [ByteArray.extract_mk, List.drop_zero, Nat.sub_zero, htl, Nat.add_sub_cancel, hst, List.take_left' rfl]
  have hlast : s[s.length - 1]? = some c := by rw [htl, Nat.add_sub_cancel, hst, List.getElem?_append_right (Nat.le_refl _)]; simp
  have hsuf : Lib.hasSuffix s [10] = (10 == c) := by rw [hst]; exact suffix_snoc t c 10
  have htrim : c = 10 → Lib.trimSuffix s [10] = t := by
    rintro rfl; rw [hst]; unfold Lib.trimSuffix; rw [suffix_snoc, if_pos (by decide)]; simp
  have Hext := Lib.hid hext; have Hlast := Lib.hid hlast; have Hsuf := Lib.hid hsuf; have Htrim := Lib.hid htrim; have Htl := Lib.hid htl
  have htn : t.length ≤ 10000 := by omega
  clear hext hlast hsuf htrim htl hst h0
  go_enter Tryz.func35, Tryz.ntmps35
  go_wp2_with fail
  rw [Hext.out]
  refine (refCut32_any t _ (by omega)).mono ?_
  rintro e w1 ⟨vw, rfl, hown, hb1⟩
  have hb1' := hba.trans (hb1.mono hba.size)
  have hg1 : w1.heap[w.heap.size]? = some (.cells #[.int .i64 0, .int .i64 0] 57 (0, 0)) := (hb1.block _ (by simp)).trans (heap_alloc_new _ _)
  have Hg1 := Lib.hid hg1
  clear hba hb1 hg1
  have hne := cutAt_ne 32 t
  obtain ⟨h0, t0, hcons⟩ : ∃ h r, cutAt 32 t = h :: r := List.exists_cons_of_ne_nil hne
  have hwl : (cutAt 32 t).length ≤ 10001 := by
    have := cutAt_length 32 t
    have h2 : t.count 32 ≤ t.length := List.count_le_length
    omega
  have hws : ∀ p ∈ cutAt 32 t, p.length ≤ 100000 := fun p hp => by have := cutAt_mem_len (c := 32) hp; omega
  have hlen : 0 < (cutAt 32 t).length := List.length_pos_iff.2 hne
  have hget : (cutAt 32 t)[0]? = some h0 := by rw [hcons]; rfl
  have hdrop : (cutAt 32 t).drop 1 = t0 := by rw [hcons]; rfl
  obtain ⟨a', c', b', o', rfl, ha', hc', hcm', hx'⟩ := hown.at encS_enc
  have cc := hx' 0 _ hget 0 _ rfl
  obtain ⟨b3, o3, c3, hrun, hat3⟩ := slice_from (enc := encS) (sz := 1) Tryz.underlying41 szStr ha' hc' hcm' hx' 1 (by omega) hlen
  have e1 : ((1 : Nat) : Int) = 1 := rfl
  rw [e1] at hrun
  obtain rfl := ha' hlen
  simp only [Nat.zero_mul, Nat.add_zero] at cc
  have htl0 : t0.length = (cutAt 32 t).length - 1 := by rw [← hdrop, List.length_drop]
  have htm : ∀ p ∈ t0, p.length ≤ 100000 := fun p hp => hws p (by rw [← hdrop] at hp; exact List.mem_of_mem_drop hp)
  have hpos : (0 : Int) < ((cutAt 32 t).length : Int) := by omega
  have hone : (1 : Int) ≤ ((cutAt 32 t).length : Int) := by omega
  rw [hdrop, ← htl0] at hat3
  rw [← htl0] at hrun
  have hspec : c = 10 → metaWords s = h0 :: t0 := by intro e; unfold metaWords; rw [Htrim.out e, hcons]
  have Hspec := Lib.hid hspec; have Hws := Lib.hid htm; have Htl0 := Lib.hid htl0
  have hi0 : ∀ W, (Instr.indexAt 41 (.slice (some ⟨b', o', none⟩) (cutAt 32 t).length c') (.int .i64 0)).run Tryz.prog W = .ok (.pointer (some ⟨b', o', none⟩)) W := fun W => by
    have := idx_at (a := some ⟨b', o', none⟩) (b := b') (c := c') (o := o') 1 Tryz.underlying41 szStr (fun _ => rfl) 0 hlen W
    simpa using this
  clear hne hws hown hx' hget hdrop hspec hcons htm ha' hcm' e1 htl0
  generalize hLL : (cutAt 32 t).length = LL at *
  clear hLL
  go_wp2_with fail
  refine (numbersOf_any _ t0 _ hat3 (by have := Htl0.out; omega) Hws.out).mono ?_
  rintro e w2 ⟨v2, rfl, hv1, hv2, hb2⟩
  have hb2' := hb1'.trans (hb2.mono hb1'.size)
  have HlB := Lib.hid (show w.heap.size < w1.heap.size from (Array.getElem?_eq_some_iff.1 Hg1.out).1)
  have Hg2 := Lib.hid ((hb2.block _ (Array.getElem?_eq_some_iff.1 Hg1.out).1).trans Hg1.out)
  have cc2 := (hb2.cell (World.block_lt_of_cell? w1 _ cc)).trans cc
  clear hrun hat3 cc
  have hidx : ∀ W, (Instr.index 9 (S s) (.int .i64 ((s.length : Int) - 1))).run Tryz.prog W = .ok (.int .u8 c.toNat) W := fun W => sidx_last Tryz.underlying9 hp Hlast.out W
  by_cases hc10 : c = 10
  case neg =>
    have hr : metaRead s = ([], .bare 1) := by
      unfold metaRead; rw [if_pos (.inl (by rw [Hsuf.out]; exact beq_eq_false_iff_ne.2 fun e => hc10 e.symm))]
    have g1 : ((c.toNat : Int) != 10) = true := by
      rw [bne_iff_ne]; intro e; apply hc10; apply UInt8.toNat_inj.1; exact Int.ofNat.inj e
    have Hr := Lib.hid hr
    clear hr hc10
    go_wp2_with fail
    refine (refBare_any 1 _).mono ?_
    rintro e wz ⟨rfl, hbz⟩
    have hgz := (hbz.block _ (Array.getElem?_eq_some_iff.1 Hg2.out).1).trans Hg2.out
    have c0 : wz.cell? ⟨w.heap.size, 0, none⟩ = some (.int .i64 0) := by simp [World.cell?, hgz]
    have c1 : wz.cell? ⟨w.heap.size, 1, none⟩ = some (.int .i64 0) := by simp [World.cell?, hgz]
    have f0 : wz.frozen? ⟨w.heap.size, 0, none⟩ = false := by simp [World.frozen?, hgz]
    have f1 : wz.frozen? ⟨w.heap.size, 1, none⟩ = false := by simp [World.frozen?, hgz]
    unfold faultV
    go_wp2_with fail
    refine bodyPost_ret (read_out (g := w.heap.size) rfl (set_two hgz _ _) rfl) rfl ⟨_, by rw [Hr.out]; rfl, by rw [Hr.out]; exact At.nil _ _ _, ?_⟩
    exact ((hb2'.trans (hbz.mono hb2'.size)).setCell (by simp) _).setCell (by simp) _
  have hw := Hspec.out hc10
  have hsf : Lib.hasSuffix s [10] = true := by rw [Hsuf.out, hc10]; rfl
  have g1 : ((c.toNat : Int) != 10) = false := by rw [hc10]; rfl
  by_cases hmeta : h0 = [109, 101, 116, 97]
  case neg =>
    have hr : metaRead s = ([], .bare 1) := by
      unfold metaRead; rw [if_pos (.inr (by rw [hw]; simpa using hmeta))]
    have g2 : (h0 == [109, 101, 116, 97]) = false := by simpa using hmeta
    have Hr := Lib.hid hr
    clear hr hc10 hw hsf hmeta
    go_wp2_with fail
    refine (refBare_any 1 _).mono ?_
    rintro e wz ⟨rfl, hbz⟩
    have hgz := (hbz.block _ (Array.getElem?_eq_some_iff.1 Hg2.out).1).trans Hg2.out
    have c0 : wz.cell? ⟨w.heap.size, 0, none⟩ = some (.int .i64 0) := by simp [World.cell?, hgz]
    have c1 : wz.cell? ⟨w.heap.size, 1, none⟩ = some (.int .i64 0) := by simp [World.cell?, hgz]
    have f0 : wz.frozen? ⟨w.heap.size, 0, none⟩ = false := by simp [World.frozen?, hgz]
    have f1 : wz.frozen? ⟨w.heap.size, 1, none⟩ = false := by simp [World.frozen?, hgz]
    unfold faultV
    go_wp2_with fail
    refine bodyPost_ret (read_out (g := w.heap.size) rfl (set_two hgz _ _) rfl) rfl ⟨_, by rw [Hr.out]; rfl, by rw [Hr.out]; exact At.nil _ _ _, ?_⟩
    exact ((hb2'.trans (hbz.mono hb2'.size)).setCell (by simp) _).setCell (by simp) _
  subst hmeta
  have hrd : metaRead s = match numsOf t0 with | none => ([], .bare 1) | some ids => if metaCheck ids = .nil then (ids, .nil) else ([], metaCheck ids) := by
    unfold metaRead
    rw [if_neg (by rw [hsf, hw]; simp), hw]; rfl
  cases hn : numsOf t0 with
  | none =>
    have hr : metaRead s = ([], .bare 1) := by rw [hrd, hn]
    obtain rfl := hv2 hn
    have Hr := Lib.hid hr
    clear hr hc10 hw hsf hrd hn hv1
    simp only [Option.isSome_none]
    go_wp2_with fail
    refine (refBare_any 1 _).mono ?_
    rintro e wz ⟨rfl, hbz⟩
    have hgz := (hbz.block _ (Array.getElem?_eq_some_iff.1 Hg2.out).1).trans Hg2.out
    have c0 : wz.cell? ⟨w.heap.size, 0, none⟩ = some (.int .i64 0) := by simp [World.cell?, hgz]
    have c1 : wz.cell? ⟨w.heap.size, 1, none⟩ = some (.int .i64 0) := by simp [World.cell?, hgz]
    have f0 : wz.frozen? ⟨w.heap.size, 0, none⟩ = false := by simp [World.frozen?, hgz]
    have f1 : wz.frozen? ⟨w.heap.size, 1, none⟩ = false := by simp [World.frozen?, hgz]
    unfold faultV
    go_wp2_with fail
    refine bodyPost_ret (read_out (g := w.heap.size) rfl (set_two hgz _ _) rfl) rfl ⟨_, by rw [Hr.out]; rfl, by rw [Hr.out]; exact At.nil _ _ _, ?_⟩
    exact ((hb2'.trans (hbz.mono hb2'.size)).setCell (by simp) _).setCell (by simp) _
  | some ids =>
    have hids := hv1 ids hn
    have hr : metaRead s = if metaCheck ids = .nil then (ids, .nil) else ([], metaCheck ids) := by rw [hrd, hn]
    have Hr := Lib.hid hr
    have Hids := Lib.hid hids
    clear hr hc10 hw hsf hrd hn hv1 hv2 hids
    simp only [Option.isSome_some]
    go_wp2_with fail
    refine (idsFault_any _ ids _ (Hids.out.at encI_enc)).mono ?_
    rintro e w3 ⟨rfl, hb3⟩
    have hb3' := hb2'.trans (hb3.mono hb2'.size)
    have Hg3 := Lib.hid ((hb3.block _ (Array.getElem?_eq_some_iff.1 Hg2.out).1).trans Hg2.out)
    by_cases hk : metaCheck ids = .nil
    · have hr : metaRead s = (ids, .nil) := by rw [Hr.out, if_pos hk]
      rw [hk, show faultOf .nil = faultV 0 (-1) from rfl]
      unfold faultV
      have Hr := Lib.hid hr
      clear hr hk
      go_wp2_with fail
      have hb3a := hb3'.alloc hb3'.size (.cells #[.int .i64 0, .int .i64 (-1)] 57)
      have hal := (Below.refl w3.heap.size w3).alloc (Nat.le_refl _) (.cells #[.int .i64 0, .int .i64 (-1)] 57)
      have Hg3a := Lib.hid ((hal.block _ (Array.getElem?_eq_some_iff.1 Hg3.out).1).trans Hg3.out)
      have Hv3 := Lib.hid ((Hids.out.below hb3).below hal)
      clear Hids hal
      refine (refFine_any _).mono ?_
      rintro e wz ⟨rfl, hbz⟩
      have hgz := (hbz.block _ (Array.getElem?_eq_some_iff.1 Hg3a.out).1).trans Hg3a.out
      have c0 : wz.cell? ⟨w.heap.size, 0, none⟩ = some (.int .i64 0) := by simp [World.cell?, hgz]
      have c1 : wz.cell? ⟨w.heap.size, 1, none⟩ = some (.int .i64 0) := by simp [World.cell?, hgz]
      have f0 : wz.frozen? ⟨w.heap.size, 0, none⟩ = false := by simp [World.frozen?, hgz]
      have f1 : wz.frozen? ⟨w.heap.size, 1, none⟩ = false := by simp [World.frozen?, hgz]
      have Hvz := Lib.hid (Hv3.out.below hbz)
      clear Hv3
      unfold faultV
      go_wp2_with fail
      refine bodyPost_ret (read_out (g := w.heap.size) rfl (set_two hgz _ _) rfl) rfl ⟨v2, by rw [Hr.out]; rfl, by rw [Hr.out]; exact ((Hvz.out.store HlB.out 0 _).store HlB.out 1 _).at encI_enc, ?_⟩
      exact ((hb3a.trans (hbz.mono hb3a.size)).setCell (by simp) _).setCell (by simp) _
    · have hr : metaRead s = ([], metaCheck ids) := by rw [Hr.out, if_neg hk]
      have hcode : (0 : Int) < ((metaCheck ids).code : Int) := by
        have := metaCheck_code hk; omega
      have hfin : faultOf (metaRead s).2 = faultV ((metaCheck ids).code : Int) (metaCheck ids).place := by rw [hr]; rfl
      have hfin1 : (metaRead s).1 = [] := by rw [hr]
      have Hfin := Lib.hid hfin
      have Hfin1 := Lib.hid hfin1
      clear hr hk hfin hfin1
      unfold faultOf faultV
      generalize ((metaCheck ids).code : Int) = cc' at *
      generalize (metaCheck ids).place = pp' at *
      go_wp2_with fail
      have hb3a := hb3'.alloc hb3'.size (.cells #[.int .i64 cc', .int .i64 pp'] 57)
      have hgz := (((Below.refl w3.heap.size w3).alloc (Nat.le_refl _) (.cells #[.int .i64 cc', .int .i64 pp'] 57)).block _ (Array.getElem?_eq_some_iff.1 Hg3.out).1).trans Hg3.out
      generalize hW : w3.alloc (.cells #[.int .i64 cc', .int .i64 pp'] 57) = W at *
      have d0 : W.cell? ⟨w3.heap.size, 0, none⟩ = some (.int .i64 cc') := by rw [← hW]; simp
      have d1 : W.cell? ⟨w3.heap.size, 1, none⟩ = some (.int .i64 pp') := by rw [← hW]; simp
      clear hW
      have c0 : W.cell? ⟨w.heap.size, 0, none⟩ = some (.int .i64 0) := by simp [World.cell?, hgz]
      have c1 : W.cell? ⟨w.heap.size, 1, none⟩ = some (.int .i64 0) := by simp [World.cell?, hgz]
      have f0 : W.frozen? ⟨w.heap.size, 0, none⟩ = false := by simp [World.frozen?, hgz]
      have f1 : W.frozen? ⟨w.heap.size, 1, none⟩ = false := by simp [World.frozen?, hgz]
      have Hgz := Lib.hid hgz
      clear hgz
      go_region
      all_goals
        go_wp2_with fail
        refine bodyPost_ret (read_out (g := w.heap.size) rfl (set_two Hgz.out _ _) rfl) rfl ⟨_, by rw [Hfin.out], by rw [Hfin1.out]; exact At.nil _ _ _, ?_⟩
        exact Bdn ((hb3a.setCell (by simp) _).setCell (by simp) _) 1
end Go.Proofs.YtepdedfmdafnkaaGreatDoor
