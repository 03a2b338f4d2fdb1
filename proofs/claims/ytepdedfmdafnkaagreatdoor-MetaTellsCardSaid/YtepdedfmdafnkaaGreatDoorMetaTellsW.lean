/- deedboxlaw2.MetaTells: the walk. -/
import Derived.Test.YtepdedfmdafnkaaGreatDoorNoted
import Derived.Test.YtepdedfmdafnkaaGreatDoorRefRead
import Derived.Deep.RegionWith
import Derived.Deep.RegionHeld3
import Derived.Deep.DeepCutAuto
namespace Go.Proofs.YtepdedfmdafnkaaGreatDoor
open Go.RowKit

theorem toldB_true (er : Er) : toldB er er.code er.place = true := by simp [toldB]
theorem told_any (E : Nat → Addr) (B : Nat) (er : Er) (v : Value) (c p : Int) (w : World) (hE : Errs allE E B w) (hA : AsVar w) (hgB : 12 < B) (hv : ErV E w v er) (hc : ((er.code : Nat) : Int) = c) (hp : er.place = p) :
    Calls Tryz.prog 31 #[v, .agg #[.int .i64 c, .int .i64 p]] w fun e w' => e = .returned (.bool true) ∧ Below w.heap.size w w' := by
  subst hc hp
  have h := faulted_any E B er v er.code er.place w hE hA hgB hv
  rwa [toldB_true] at h
theorem keep {a b : World} {g : Nat} {o : Obj} (hb : Below a.heap.size a b) (h : a.heap[g]? = some o) : b.heap[g]? = some o := (hb.block _ (Array.getElem?_eq_some_iff.1 h).1).trans h
theorem two0 {w : World} {g : Nat} {x y : Value} {t : TypeId} (h : w.heap[g]? = some (.cells #[x, y] t (0, 0))) : w.cell? ⟨g, 0, none⟩ = some x := by simp [World.cell?, h]
theorem two1 {w : World} {g : Nat} {x y : Value} {t : TypeId} (h : w.heap[g]? = some (.cells #[x, y] t (0, 0))) : w.cell? ⟨g, 1, none⟩ = some y := by simp [World.cell?, h]
theorem unfr {w : World} {g i : Nat} {cs : Array Value} {t : TypeId} (h : w.heap[g]? = some (.cells cs t (0, 0))) : w.frozen? ⟨g, i, none⟩ = false := by simp [World.frozen?, h]

theorem ErV.store {E : Nat → Addr} {w : World} {v : Value} {er : Er} {g i : Nat} {x : Int} {y : Value} (h : ErV E w v er) (h1 : w.cell? ⟨g, 1, none⟩ = some (.int .i64 x)) : ErV E (w.setCell ⟨g, i, none⟩ y) v er := by
  cases er with
  | nil => exact h
  | bare c => exact h
  | loc c k =>
    obtain ⟨hc, fb, hv, h2, h3⟩ := h
    have hne : g ≠ fb := fun e => by rw [e, h3] at h1; cases h1
    refine ⟨hc, fb, hv, (World.cell?_setCell_other _ _ _ _ ?_).trans h2, (World.cell?_setCell_other _ _ _ _ ?_).trans h3⟩
    · exact fun e => hne (congrArg Addr.block e)
    · exact fun e => hne (congrArg Addr.block e)
theorem ErV.store2 {E : Nat → Addr} {w : World} {v : Value} {er : Er} {g : Nat} {a b : Int} {t : TypeId} (h : ErV E w v er) (hg : w.heap[g]? = some (.cells #[.int .i64 a, .int .i64 b] t (0, 0))) (x y : Value) : ErV E ((w.setCell ⟨g, 0, none⟩ x).setCell ⟨g, 1, none⟩ y) v er :=
  (h.store (two1 hg)).store ((World.cell?_setCell_other _ _ _ _ (by simp)).trans (two1 hg))
theorem metaPush_code {ids : List Int} {id : Int} (hc : metaCheck ids = .nil) : (((metaPush ids id).2.code : Nat) : Int) = ((metaCheck (ids ++ [id])).code : Int) ∧ (metaPush ids id).2.place = -1 ∧ ((((metaCheck (ids ++ [id])).code : Int) = 0 ∧ (metaPush ids id).1 = ids ++ [id]) ∨ (0 < ((metaCheck (ids ++ [id])).code : Int) ∧ (metaPush ids id).1 = [])) := by
  by_cases h : metaCheck (ids ++ [id]) = .nil
  · have : metaPush ids id = (ids ++ [id], .nil) := by unfold metaPush; rw [if_neg (by simp [hc]), if_neg (by simp [h])]
    rw [this, h]; exact ⟨rfl, rfl, .inl ⟨rfl, rfl⟩⟩
  · have : metaPush ids id = ([], (metaCheck (ids ++ [id])).noPlace) := by unfold metaPush; rw [if_neg (by simp [hc]), if_pos (by simpa using h)]
    rw [this]
    have hp := metaCheck_code h
    refine ⟨?_, ?_, .inr ⟨by omega, rfl⟩⟩
    · cases metaCheck (ids ++ [id]) <;> rfl
    · cases metaCheck (ids ++ [id]) <;> rfl
theorem now_iff {ids : List Int} {k : Nat} {x : Int} (hc : metaCheck ids = .nil) (hk : ids[k]? = some x) : x = metaNow ids ↔ k + 1 = ids.length := by
  have hup := metaCheck_up hc
  have hne := (metaCheck_nil hc).1
  have hpos : 0 < ids.length := List.length_pos_iff.2 hne
  have hlt : k < ids.length := (List.getElem?_eq_some_iff.1 hk).1
  have hx : ids[k] = x := (List.getElem?_eq_some_iff.1 hk).2
  have hn : metaNow ids = ids[ids.length - 1] := by
    unfold metaNow; rw [List.getLast?_eq_getElem?, List.getElem?_eq_getElem (by omega)]; rfl
  rw [hn, ← hx]
  constructor
  · intro h
    rcases Nat.lt_or_ge (k + 1) ids.length with h' | h'
    · have := List.pairwise_iff_getElem.1 hup k (ids.length - 1) hlt (by omega) (by omega)
      omega
    · omega
  · intro h
    congr 1; omega
theorem field0 (a b : Value) (W : World) : (Instr.field 57 (.agg #[a, b]) 0).run Tryz.prog W = .ok a W := by kernel_rfl
theorem Bd {B : Nat} {a w : World} (h : Below B a w) : Below B a w.drew := Bdn h 1
set_option maxHeartbeats 16000000 in
set_option maxRecDepth 20000 in
theorem metaTells_any (E : Nat → Addr) (B : Nat) (v1 v2 : Value) (ids sm : List Int) (id : Int) (s : Str) (w : World) (hE : Errs allE E B w) (hA : AsVar w) (hgB : 12 < B) (hT : LNum B w) (hM : LMax B w) (hi : IntsAt w v1 ids) (hs : IntsAt w v2 sm) (hsl : (s.length : Int) ≤ 9223372036854775807) :
    Calls Tryz.prog 5 #[v1, v2, .int .i64 id, S s] w fun e w' => e = .returned (.bool true) ∧ Below w.heap.size w w' := by
  have hif := isIfaceE
  have Hi := Lib.hid hi; have Hs := Lib.hid hs
  have hE4 : Errs [2, 6, 8, 9] E B w := hE.sub (by decide)
  have hE5 : Errs [1, 2, 6, 8, 9] E B w := hE.sub (by decide)
  obtain ⟨a1, c1, b1, o1, rfl, -, -, hm1, -⟩ := hi
  obtain ⟨a2, c2, b2, o2, rfl, -, -, hm2, -⟩ := hs
  by_cases h1 : ids.length ≤ 45
  case neg =>
    have g1 : (45 : Int) < (ids.length : Int) := by omega
    go_enter Tryz.func5, Tryz.ntmps5
    go_wp2_with fail
    refine (noted_any E B _ hE4 hT).mono ?_
    rintro e w1 ⟨rfl, hb1⟩
    go_wp2_with fail
    go_ret
    exact ⟨rfl, hb1⟩
  by_cases h2 : sm.length ≤ 45
  case neg =>
    have g1 : decide ((45 : Int) < (ids.length : Int)) = false := by simp; omega
    have g2 : (45 : Int) < (sm.length : Int) := by omega
    go_enter Tryz.func5, Tryz.ntmps5
    go_wp2_with fail
    refine (noted_any E B _ hE4 hT).mono ?_
    rintro e w1 ⟨rfl, hb1⟩
    go_wp2_with fail
    go_ret
    exact ⟨rfl, hb1⟩
  have g1 : decide ((45 : Int) < (ids.length : Int)) = false := by simp; omega
  have g2 : decide ((45 : Int) < (sm.length : Int)) = false := by simp; omega
  by_cases h3 : s.length ≤ 500
  case neg =>
    have g3 : (500 : Int) < (s.length : Int) := by omega
    go_enter Tryz.func5, Tryz.ntmps5
    go_wp2_with fail
    refine (noted_any E B _ hE4 hT).mono ?_
    rintro e w1 ⟨rfl, hb1⟩
    go_wp2_with fail
    go_ret
    exact ⟨rfl, hb1⟩
  have g3 : decide ((500 : Int) < (s.length : Int)) = false := by simp; omega
  go_enter Tryz.func5, Tryz.ntmps5
  go_wp2_with fail
  refine (noted_any E B _ hE4 hT).mono ?_
  rintro e w1 ⟨rfl, hb1⟩
  go_wp2_with fail
  refine (idsFault_any _ ids _ (Hi.out.below hb1)).mono ?_
  rintro e w2 ⟨rfl, hb2⟩
  have hb2' := hb1.trans (hb2.mono hb1.size)
  clear hb2
  unfold faultOf faultV
  obtain ⟨cf, hcf⟩ : ∃ cf : Int, ((metaCheck ids).code : Int) = cf := ⟨_, rfl⟩
  obtain ⟨pf, hpf⟩ : ∃ pf : Int, (metaCheck ids).place = pf := ⟨_, rfl⟩
  rw [hcf, hpf]
  have Hcf := Lib.hid hcf; have Hpf := Lib.hid hpf
  have hdis : Hid ((metaCheck ids = .nil ∧ cf = 0) ∨ (metaCheck ids ≠ .nil ∧ 0 < cf ∧ metaTextR ids = [])) := by
    by_cases hc : metaCheck ids = .nil
    · exact .inl ⟨hc, by rw [← hcf, hc]; rfl⟩
    · exact .inr ⟨hc, by rw [← hcf]; have := metaCheck_code hc; omega, if_neg hc⟩
  clear hcf hpf
  go_wp2_with fail
  obtain ⟨F, hF⟩ : ∃ F, w2.heap.size = F := ⟨_, rfl⟩
  have hgF := heap_alloc_new w2 (.cells #[.int .i64 cf, .int .i64 pf] 57)
  have hb3' := hb2'.alloc hb2'.size (.cells #[.int .i64 cf, .int .i64 pf] 57)
  rw [hF] at hgF ⊢
  generalize hW : w2.alloc (.cells #[.int .i64 cf, .int .i64 pf] 57) = w3 at hgF hb3' ⊢
  have HgF := Lib.hid hgF
  have hwF : w.heap.size ≤ F := by rw [← hF]; exact hb2'.size
  clear hW hF hgF hb2'
  refine (ownInts_any _ ids _ (Hi.out.below hb3') (by omega)).mono ?_
  rintro e w4 ⟨u1, rfl, hu1, hb4⟩
  have hb4' := hb3'.trans (hb4.mono hb3'.size)
  have HgF4 := Lib.hid (keep hb4 HgF.out)
  have Hu1 := Lib.hid (hu1.at encI_enc)
  clear hb4 hu1 HgF
  go_wp2_with fail
  refine (metaText_any E B _ ids _ (hE4.below' hb4' hE.le) (hT.below' hb4' hT.le) Hu1.out).mono ?_
  rintro e w5 ⟨ev, rfl, hev, hb5⟩
  obtain ⟨tx, htx⟩ : ∃ tx, metaTextR ids = tx := ⟨_, rfl⟩
  rw [htx]
  have Htx := Lib.hid htx
  clear htx
  have hb5' := hb4'.trans (hb5.mono hb4'.size)
  have HgF5 := Lib.hid (keep hb5 HgF4.out)
  have Hev := Lib.hid hev
  clear hb5 hev HgF4 Hu1
  go_upto_region 6 with fail
  go_cut [66] (fun c wx => c = .bool false ∧ Below w.heap.size w wx ∧ wx.heap[F]? = some (.cells #[.int .i64 cf, .int .i64 pf] 57 (0, 0)))
  case first =>
    have c0 := two0 HgF5.out
    have c1 := two1 HgF5.out
    have hbd := Bd hb5'
    have hd2 : decide ((0 : Int) < cf) = false ∨ (decide ((0 : Int) < cf) = true ∧ metaTextR ids = []) := by
      rcases hdis.out with ⟨_, h⟩ | ⟨_, h, h'⟩
      · exact .inl (by rw [h]; rfl)
      · exact .inr ⟨by simpa using h, h'⟩
    rcases hd2 with gA | ⟨gA, hsp⟩
    · first
      | go_region_with (first
          | (go_at_call 30; refine (ownInts_any _ ids _ (Hi.out.below hbd) (by omega)).mono ?_; rintro e w6 ⟨u6, rfl, hu6, hb6⟩; have hb6' := hbd.trans (hb6.mono hbd.size); have HgF6 := Lib.hid (keep hb6 HgF5.out); have Hu6 := Lib.hid (hu6.at encI_enc); have Hev6 := Lib.hid (ErV.below (w := w5.drew) Hev.out hb6); clear c0 c1; have c0 := two0 HgF6.out; have c1 := two1 HgF6.out; clear hb6 hu6 hbd Hev HgF5)
          | (go_at_call 32; refine (metaCheck_any E B _ ids _ (hE4.below' hb6' hE.le) Hu6.out).mono ?_; rintro e w7 ⟨ev7, rfl, hev7, hb7⟩; have hb7' := hb6'.trans (hb7.mono hb6'.size); have HgF7 := Lib.hid (keep hb7 HgF6.out); have Hx7 := Lib.hid hev7; have Hev7 := Lib.hid (Hev6.out.below hb7); clear c0 c1; have c0 := two0 HgF7.out; have c1 := two1 HgF7.out; clear hb7 hev7 hb6' Hev6 HgF6 Hu6)
          | (go_at_call 31; have _t := Hx7; refine (told_any E B (metaCheck ids) _ _ _ _ (hE.below' hb7' hE.le) (hA.below hb7' (by have := hE.le; omega)) hgB Hx7.out Hcf.out Hpf.out).mono ?_; rintro e w8 ⟨rfl, hb8⟩; have hb8' := hb7'.trans (hb8.mono hb7'.size); have HgF8 := Lib.hid (keep hb8 HgF7.out); have Hev8 := Lib.hid (Hev7.out.below hb8); clear c0 c1; have c0 := two0 HgF8.out; have c1 := two1 HgF8.out; clear _t hb8 Hx7 hb7' Hev7 HgF7)
          | (go_at_call 31; have _t := Hev8; refine (told_any E B (metaCheck ids) _ _ _ _ (hE.below' hb8' hE.le) (hA.below hb8' (by have := hE.le; omega)) hgB Hev8.out Hcf.out Hpf.out).mono ?_; rintro e w9 ⟨rfl, hb9⟩; have hb9' := hb8'.trans (hb9.mono hb8'.size); have HgF9 := Lib.hid (keep hb9 HgF8.out); clear c0 c1; have c0 := two0 HgF9.out; have c1 := two1 HgF9.out; clear _t hb9 Hev8 hb8' HgF8))
      | fail
      all_goals
        go_wp2_with fail
        go_meet
        exact ⟨rfl, hb9', HgF9.out⟩
    · obtain rfl : tx = [] := by rw [← Htx.out, hsp]
      first
      | go_region_held3 (fun w' => w'.cell? ⟨F, 0, none⟩ = some (.int .i64 cf) ∧ w'.cell? ⟨F, 1, none⟩ = some (.int .i64 pf)) (exact ⟨c0, c1⟩) (first
          | (go_at_call 30; refine (ownInts_any _ ids _ (Hi.out.below hbd) (by omega)).mono ?_; rintro e w6 ⟨u6, rfl, hu6, hb6⟩; have hb6' := hbd.trans (hb6.mono hbd.size); have HgF6 := Lib.hid (keep hb6 HgF5.out); have Hu6 := Lib.hid (hu6.at encI_enc); have Hev6 := Lib.hid (ErV.below (w := w5.drew) Hev.out hb6); clear c0 c1; have c0 := two0 HgF6.out; have c1 := two1 HgF6.out; clear hb6 hu6 hbd Hev HgF5)
          | (go_at_call 32; refine (metaCheck_any E B _ ids _ (hE4.below' hb6' hE.le) Hu6.out).mono ?_; rintro e w7 ⟨ev7, rfl, hev7, hb7⟩; have hb7' := hb6'.trans (hb7.mono hb6'.size); have HgF7 := Lib.hid (keep hb7 HgF6.out); have Hx7 := Lib.hid hev7; have Hev7 := Lib.hid (Hev6.out.below hb7); clear c0 c1; have c0 := two0 HgF7.out; have c1 := two1 HgF7.out; clear hb7 hev7 hb6' Hev6 HgF6 Hu6)
          | (go_at_call 31; have _t := Hx7; refine (told_any E B (metaCheck ids) _ _ _ _ (hE.below' hb7' hE.le) (hA.below hb7' (by have := hE.le; omega)) hgB Hx7.out Hcf.out Hpf.out).mono ?_; rintro e w8 ⟨rfl, hb8⟩; have hb8' := hb7'.trans (hb8.mono hb7'.size); have HgF8 := Lib.hid (keep hb8 HgF7.out); have Hev8 := Lib.hid (Hev7.out.below hb8); clear c0 c1; have c0 := two0 HgF8.out; have c1 := two1 HgF8.out; clear _t hb8 Hx7 hb7' Hev7 HgF7)
          | (go_at_call 31; have _t := Hev8; refine (told_any E B (metaCheck ids) _ _ _ _ (hE.below' hb8' hE.le) (hA.below hb8' (by have := hE.le; omega)) hgB Hev8.out Hcf.out Hpf.out).mono ?_; rintro e w9 ⟨rfl, hb9⟩; have hb9' := hb8'.trans (hb9.mono hb8'.size); have HgF9 := Lib.hid (keep hb9 HgF8.out); clear c0 c1; have c0 := two0 HgF9.out; have c1 := two1 HgF9.out; clear _t hb9 Hev8 hb8' HgF8))
      | fail
      all_goals
        go_wp2_with fail
        go_meet
        exact ⟨rfl, hb9', HgF9.out⟩
  case rest =>
    obtain ⟨rfl, hb9, hgF⟩ := hcut
    have HgF9 := Lib.hid hgF
    have HF0 := Lib.hid (Array.getElem?_eq_some_iff.1 hgF).1
    have c0 := two0 hgF
    clear hgF HgF5 Hev hb5'
    rcases hdis.out with ⟨hc, hcf0⟩ | ⟨hc, hcp, htx0⟩
    · subst hcf0
      obtain rfl : tx = metaText ids := by rw [← Htx.out]; exact if_pos hc
      have Hc := Lib.hid hc
      clear hc hdis
      go_wp2_with fail
      refine (idsText_any _ ids _ Hc.out (Hi.out.below hb9)).mono ?_
      rintro e w10 ⟨rfl, hb10⟩
      have hb10' := hb9.trans (hb10.mono hb9.size)
      have HgF10 := Lib.hid (keep hb10 HgF9.out)
      clear hb10 HgF9 c0
      generalize metaText ids = tx
      go_wp2_with fail
      refine (metaRead_any E B s _ (hE5.below' hb10' hE.le) (hT.below' hb10' hT.le) (hM.below' hb10' hM.le) (by omega)).mono ?_
      unfold MetaReadPost
      rintro e w11 ⟨x11, ev11, rfl, hx11, hev11, hb11⟩
      have hb11' := hb10'.trans (hb11.mono hb10'.size)
      have HgF11 := Lib.hid (keep hb11 HgF10.out)
      have Hx11 := Lib.hid hx11
      have Hev11 := Lib.hid hev11
      clear hb11 HgF10 hx11 hev11
      go_wp2_with fail
      refine (readIDs_any s _ (by omega)).mono ?_
      unfold ReadPost
      rintro e w12 ⟨x12, rfl, hx12, hb12⟩
      have hb12' := hb11'.trans (hb12.mono hb11'.size)
      have HgF12 := Lib.hid (keep hb12 HgF11.out)
      have Hx12 := Lib.hid hx12
      have Hx11' := Lib.hid (Hx11.out.below hb12)
      have Hev12 := Lib.hid (Hev11.out.below hb12)
      clear hb12 HgF11 hx12 Hx11 Hev11
      unfold faultOf faultV
      obtain ⟨cg, hcg⟩ : ∃ cg : Int, ((metaRead s).2.code : Int) = cg := ⟨_, rfl⟩
      obtain ⟨pg, hpg⟩ : ∃ pg : Int, (metaRead s).2.place = pg := ⟨_, rfl⟩
      rw [hcg, hpg]
      have Hcg := Lib.hid hcg; have Hpg := Lib.hid hpg
      clear hcg hpg
      go_wp2_with fail
      obtain ⟨G, hG⟩ : ∃ G, w12.heap.size = G := ⟨_, rfl⟩
      have hgG := heap_alloc_new w12 (.cells #[.int .i64 cg, .int .i64 pg] 57)
      have hal := (Below.refl w12.heap.size w12).alloc (Nat.le_refl _) (.cells #[.int .i64 cg, .int .i64 pg] 57)
      have hb13' := hb12'.trans (hal.mono hb12'.size)
      have HgF13 := Lib.hid (keep hal HgF12.out)
      have Hx13 := Lib.hid (Hx12.out.below hal)
      have Hy13 := Lib.hid (Hx11'.out.below hal)
      have Hev13 := Lib.hid (Hev12.out.below hal)
      have hFG : F < G := by rw [← hG]; exact (Array.getElem?_eq_some_iff.1 HgF12.out).1
      have hwG : w.heap.size ≤ G := by rw [← hG]; exact hb12'.size
      rw [hG] at hgG ⊢
      generalize hW : w12.alloc (.cells #[.int .i64 cg, .int .i64 pg] 57) = w13 at *
      have HgG13 := Lib.hid hgG
      clear hG hgG hal hW hb12' HgF12 Hx12 Hx11' Hev12
      refine (told_any E B (metaRead s).2 _ _ _ _ (hE.below' hb13' hE.le) (hA.below hb13' (by have := hE.le; omega)) hgB Hev13.out Hcg.out Hpg.out).mono ?_
      rintro e w14 ⟨rfl, hb14⟩
      have hb14' := hb13'.trans (hb14.mono hb13'.size)
      have HgF14 := Lib.hid (keep hb14 HgF13.out)
      have HgG14 := Lib.hid (keep hb14 HgG13.out)
      have Hx14 := Lib.hid (Hx13.out.below hb14)
      have Hy14 := Lib.hid (Hy13.out.below hb14)
      have hb1314 := hb14
      clear hb14 HgF13 Hx13 Hy13 Hev13
      go_wp2_with fail
      refine (sameInts_any _ _ (metaRead s).1 (metaRead s).1 _ Hy14.out Hx14.out).mono ?_
      rintro e w15 ⟨rfl, hb15⟩
      have hb15' := hb14'.trans (hb15.mono hb14'.size)
      have HgF15 := Lib.hid (keep hb15 HgF14.out)
      have HgG15 := Lib.hid (keep hb15 HgG14.out)
      have hb1315 := hb1314.trans (hb15.mono hb1314.size)
      clear hb15 HgF14 HgG14 Hx14 Hy14 hb1314
      rw [show decide ((metaRead s).1 = (metaRead s).1) = true from decide_eq_true rfl]
      have hpos : 0 < ids.length := List.length_pos_iff.2 (metaCheck_nil Hc.out).1
      obtain ⟨y, hy⟩ := get_ex (l := ids) (k := ids.length - 1) (by omega)
      have hnow : metaNow ids = y := by unfold metaNow; rw [List.getLast?_eq_getElem?, hy]; rfl
      obtain ⟨a1', c1', b1', o1', hv1', ha1, -, -, hx1⟩ := Hi.out.below hb15'
      obtain ⟨rfl, rfl⟩ : a1 = a1' ∧ c1 = c1' := by cases hv1'; exact ⟨rfl, rfl⟩
      have cy := hx1 _ y hy 0 _ rfl
      have iy := idx_at (c := c1) 1 Tryz.underlying55 szInt ha1 (ids.length - 1) (by omega)
      obtain rfl := ha1 hpos
      have hcast : ((ids.length - 1 : Nat) : Int) = (ids.length : Int) - 1 := by omega
      simp only [Nat.mul_one, Nat.add_zero, hcast] at cy iy
      have hpos' : 1 ≤ (ids.length : Int) := by omega
      have Hnow := Lib.hid hnow
      have Hy := Lib.hid hy
      clear hcast hnow hy hx1 hv1'
      go_wp2_with fail
      refine (ownInts_any _ ids _ (Hi.out.below hb15') (by omega)).mono ?_
      rintro e w16 ⟨u16, rfl, hu16, hb16⟩
      have hb16' := hb15'.trans (hb16.mono hb15'.size)
      have HgF16 := Lib.hid (keep hb16 HgF15.out)
      have HgG16 := Lib.hid (keep hb16 HgG15.out)
      have Hu16 := Lib.hid (hu16.at encI_enc)
      have hb1316 := hb1315.trans (hb16.mono hb1315.size)
      clear hb16 hu16 HgF15 HgG15 cy hb1315
      go_wp2_with fail
      refine (metaNow_any _ ids _ Hu16.out).mono ?_
      rintro e w' ⟨rfl, rfl⟩
      rw [Hnow.out]
      go_wp2_with fail
      refine (ownInts_any _ ids _ (Hi.out.below hb16') (by omega)).mono ?_
      rintro e w17 ⟨u17, rfl, hu17, hb17⟩
      have hb17' := hb16'.trans (hb17.mono hb16'.size)
      have HgF17 := Lib.hid (keep hb17 HgF16.out)
      have HgG17 := Lib.hid (keep hb17 HgG16.out)
      have Hu17 := Lib.hid (hu17.at encI_enc)
      have hb1317 := hb1316.trans (hb17.mono hb1316.size)
      clear hb17 hu17 HgF16 HgG16 Hu16 hb1316
      go_wp2_with fail
      refine (metaPush_own E B _ ids id _ (hE4.below' hb17' hE.le) Hu17.out (by omega)).mono ?_
      rintro e w18 ⟨x18, ev18, rfl, hx18, hev18, hb18⟩
      have hb18' := hb17'.trans (hb18.mono hb17'.size)
      have HgF18 := Lib.hid (keep hb18 HgF17.out)
      have HgG18 := Lib.hid (keep hb18 HgG17.out)
      have Hx18 := Lib.hid hx18
      have Hev18 := Lib.hid hev18
      clear hb18 hx18 hev18 HgF17 HgG17 Hu17
      go_wp2_with fail
      refine (ownInts_any _ ids _ (Hi.out.below hb18') (by omega)).mono ?_
      rintro e w19 ⟨u19, rfl, hu19, hb19⟩
      have hb19' := hb18'.trans (hb19.mono hb18'.size)
      have HF18 := Lib.hid (Array.getElem?_eq_some_iff.1 HgF18.out).1
      have HG17 := Lib.hid (Nat.lt_of_lt_of_le (Array.getElem?_eq_some_iff.1 HgG13.out).1 (Nat.le_trans hb1317.size (Nat.le_refl _)))
      have HG18 := Lib.hid (Array.getElem?_eq_some_iff.1 HgG18.out).1
      have hs19 := hb19.size
      clear HgG13 hb1317
      go_wp2_with (at_builtin; refine wpList_app rfl _ _ _ rfl w18.heap.size elInt _ ids.length _ rfl (hu19.alloc _) (.slice (some ⟨w19.heap.size, 0, none⟩) 1 1) 1 (encI id) rfl (src_one rfl rfl (by simp [Value.oneCell'])) (by unfold maxLen; omega) (by omega) (by simp; omega) ?_; intro v20 w20 hown20 hg20 _; have hb20 : Below w18.heap.size w18 w20 := hb19.trans (Bapp ((Below.refl _ w19).alloc hs19 _) (hu19.alloc _) hg20 (Nat.le_refl _) (by simp; omega)); have hb20' := hb18'.trans (hb20.mono hb18'.size); have Hv20 := Lib.hid (Own.snoc hown20); have HgF20 := Lib.hid ((hb20.block _ HF18.out).trans HgF18.out); have HgG20 := Lib.hid ((hb20.block _ HG18.out).trans HgG18.out); have Hx20 := Lib.hid (Hx18.out.below hb20); have Hev20 := Lib.hid (Hev18.out.below hb20); have c0F := two0 HgF20.out; have c1F := two1 HgF20.out; have c0G := two0 HgG20.out; have c1G := two1 HgG20.out; have f0G := unfr (i := 0) HgG20.out; have f1G := unfr (i := 1) HgG20.out; clear hown20 hg20 hb20 hu19 hb19 hb19' HgF18 HgG18 Hx18 Hev18)
      have hgG21 := set_two HgG20.out (.int .i64 0) (.int .i64 pf)
      have hb21' := (hb20'.setCell (p := ⟨G, 0, none⟩) hwG (.int .i64 0)).setCell (p := ⟨G, 1, none⟩) hwG (.int .i64 pf)
      have hv21 := (Hv20.out.store HG18.out 0 (.int .i64 0)).store HG18.out 1 (.int .i64 pf)
      have hx21 := (Hx20.out.store HG17.out 0 (.int .i64 0)).store HG17.out 1 (.int .i64 pf)
      have hgF21 := ((grown_set w20 G 0 (.int .i64 0)).block F (Array.getElem?_eq_some_iff.1 HgF20.out).1 (by simp; omega)).trans HgF20.out
      have hgF21 := ((grown_set _ G 1 (.int .i64 pf)).block F (Array.getElem?_eq_some_iff.1 hgF21).1 (by simp; omega)).trans hgF21
      have hev21 : Hid (ErV E ((w20.setCell ⟨G, 0, none⟩ (.int .i64 0)).setCell ⟨G, 1, none⟩ (.int .i64 pf)) ev18 (metaPush ids id).2) := Hev20.out.store2 HgG20.out _ _
      generalize hW : (w20.setCell ⟨G, 0, none⟩ (.int .i64 0)).setCell ⟨G, 1, none⟩ (.int .i64 pf) = w21 at *
      have HgF21 := Lib.hid hgF21; have HgG21 := Lib.hid hgG21; have Hv21 := Lib.hid hv21; have Hx21 := Lib.hid hx21
      have hs21 : G < w21.heap.size := (Array.getElem?_eq_some_iff.1 hgG21).1
      clear hW hgF21 hgG21 hv21 hx21 HgF20 HgG20 Hv20 Hx20 Hev20 c0F c1F c0G c1G f0G f1G hb20'
      refine (idsFault_any _ (ids ++ [id]) _ (Hv21.out.at encI_enc)).mono ?_
      rintro e w22 ⟨rfl, hb22⟩
      have hb22' := hb21'.trans (hb22.mono hb21'.size)
      have HgF22 := Lib.hid (keep hb22 HgF21.out)
      have HgG22 := Lib.hid (keep hb22 HgG21.out)
      have Hv22 := Lib.hid (Hv21.out.below hb22)
      have Hx22 := Lib.hid (Hx21.out.below hb22)
      have Hev22 := Lib.hid (hev21.out.below hb22)
      clear hb22 HgF21 HgG21 Hv21 Hx21 hev21
      unfold faultOf faultV
      obtain ⟨cn, hcn⟩ : ∃ cn : Int, ((metaCheck (ids ++ [id])).code : Int) = cn := ⟨_, rfl⟩
      rw [hcn]
      have Hcn := Lib.hid hcn
      clear hcn
      generalize (metaCheck (ids ++ [id])).place = pn
      have hfld := field0
      go_wp2_with fail
      refine (refBare_any cn _).mono ?_
      rintro e w23 ⟨rfl, hb23⟩
      have hb23' := hb22'.trans (hb23.mono hb22'.size)
      have HgF23 := Lib.hid (keep hb23 HgF22.out)
      have HgG23 := Lib.hid (keep hb23 HgG22.out)
      have Hv23 := Lib.hid (Hv22.out.below hb23)
      have Hx23 := Lib.hid (Hx22.out.below hb23)
      have Hev23 := Lib.hid (Hev22.out.below hb23)
      clear hb23 HgF22 HgG22 Hv22 Hx22 Hev22
      have c0G := two0 HgG23.out
      have c1G := two1 HgG23.out
      have f0G := unfr (i := 0) HgG23.out
      have f1G := unfr (i := 1) HgG23.out
      unfold faultV
      go_upto_region 24 with fail
      have hgG24 := set_two HgG23.out (.int .i64 cn) (.int .i64 (-1))
      have hb24' := (hb23'.setCell (p := ⟨G, 0, none⟩) hwG (.int .i64 cn)).setCell (p := ⟨G, 1, none⟩) hwG (.int .i64 (-1))
      have hv24 := (Hv23.out.store HG18.out 0 (.int .i64 cn)).store HG18.out 1 (.int .i64 (-1))
      have hx24 := (Hx23.out.store HG17.out 0 (.int .i64 cn)).store HG17.out 1 (.int .i64 (-1))
      have hgF24 := ((grown_set w23 G 0 (.int .i64 cn)).block F (Array.getElem?_eq_some_iff.1 HgF23.out).1 (by simp; omega)).trans HgF23.out
      have hgF24 := ((grown_set _ G 1 (.int .i64 (-1))).block F (Array.getElem?_eq_some_iff.1 hgF24).1 (by simp; omega)).trans hgF24
      have hev24 := Lib.hid (Hev23.out.store2 HgG23.out (.int .i64 cn) (.int .i64 (-1)))
      generalize hW : (w23.setCell ⟨G, 0, none⟩ (.int .i64 cn)).setCell ⟨G, 1, none⟩ (.int .i64 (-1)) = w24 at *
      have HgF24 := Lib.hid hgF24; have HgG24 := Lib.hid hgG24; have Hv24 := Lib.hid hv24; have Hx24 := Lib.hid hx24
      clear hW hgF24 hgG24 hv24 hx24 HgF23 HgG23 Hv23 Hx23 Hev23 c0G c1G f0G f1G hb23'
      go_cut [154] (fun c wx => c = .bool false ∧ Below w.heap.size w wx ∧ wx.heap[F]? = some (.cells #[.int .i64 0, .int .i64 pf] 57 (0, 0)))
      case first =>
        have hpc : Hid ((((metaPush ids id).2.code : Nat) : Int) = cn ∧ (metaPush ids id).2.place = -1 ∧ ((cn = 0 ∧ (metaPush ids id).1 = ids ++ [id]) ∨ (0 < cn ∧ (metaPush ids id).1 = []))) := by
          rw [← Hcn.out]; exact metaPush_code Hc.out
        have c0G := two0 HgG24.out
        have c1G := two1 HgG24.out
        go_wp2_with fail
        refine (told_any E B (metaPush ids id).2 _ _ _ _ (hE.below' hb24' hE.le) (hA.below hb24' (by have := hE.le; omega)) hgB hev24.out hpc.out.1 hpc.out.2.1).mono ?_
        rintro e w25 ⟨rfl, hb25⟩
        have hb25' := hb24'.trans (hb25.mono hb24'.size)
        have HgF25 := Lib.hid (keep hb25 HgF24.out)
        have HgG25 := Lib.hid (keep hb25 HgG24.out)
        have hv25 := Hv24.out.below hb25
        have hx25 := Hx24.out.below hb25
        clear hb25 HgF24 HgG24 Hv24 Hx24 hev24 c0G c1G
        have c0G := two0 HgG25.out
        rcases hpc.out.2.2 with ⟨h0, hp1⟩ | ⟨h0, hp1⟩
        · have Hv := Lib.hid (hv25.at encI_enc)
          have Hx := Lib.hid (hx25.at encI_enc)
          rw [hp1] at Hx
          have hd : decide (0 < cn) = false := by simp; omega
          have hd2 : (cn == 0) = true := by simpa using h0
          have Hp := Lib.hid hpc
          clear hv25 hx25 hp1 h0 hpc
          go_wp2_with fail
          refine (sameInts_any _ _ (ids ++ [id]) (ids ++ [id]) _ Hx.out Hv.out).mono ?_
          rintro e w26 ⟨rfl, hb26⟩
          have hb26' := hb25'.trans (hb26.mono hb25'.size)
          have HgF26 := Lib.hid (keep hb26 HgF25.out)
          rw [show decide (ids ++ [id] = ids ++ [id]) = true from decide_eq_true rfl]
          clear hb26 c0G Hx Hv
          go_wp2_with fail
          go_meet
          exact ⟨rfl, hb26', HgF26.out⟩
        · rw [hp1] at hx25
          obtain ⟨px, nx, cx, hform⟩ := (hx25.at encI_enc).form
          obtain rfl : nx = 0 := by
            obtain ⟨_, _, _, _, h, _⟩ := hx25.at encI_enc
            rw [hform] at h; cases h; rfl
          subst hform
          have hd : decide (0 < cn) = true := by simpa using h0
          have hd2 : (cn == 0) = false := beq_eq_false_iff_ne.2 (by omega)
          clear hv25 hx25 hp1 hpc
          go_wp2_with fail
          go_meet
          exact ⟨rfl, hb25', HgF25.out⟩
      case rest =>
        obtain ⟨rfl, hb26, hgF⟩ := hcut
        have HgF26 := Lib.hid hgF
        clear hgF HgF24 HgG24 Hv24 Hx24 hev24
        go_wp2_with fail
        refine (ownInts_any _ ids _ (Hi.out.below hb26) (by omega)).mono ?_
        rintro e w27 ⟨u27, rfl, hu27, hb27⟩
        have hb27' := hb26.trans (hb27.mono hb26.size)
        have HgF27 := Lib.hid (keep hb27 HgF26.out)
        have Hu27 := Lib.hid (hu27.at encI_enc)
        clear hb27 hu27 HgF26
        go_wp2_with fail
        refine (ownInts_any _ sm _ (Hs.out.below hb27') (by omega)).mono ?_
        rintro e w28 ⟨u28, rfl, hu28, hb28⟩
        have hb28' := hb27'.trans (hb28.mono hb27'.size)
        have HgF28 := Lib.hid (keep hb28 HgF27.out)
        have Hu28 := Lib.hid (hu28.at encI_enc)
        have Hu27' := Lib.hid (Hu27.out.below hb28)
        clear hb28 hu28 HgF27 Hu27
        go_wp2_with fail
        refine (metaKeep_any E B _ _ ids sm _ (hE4.below' hb28' hE.le) Hu27'.out Hu28.out (by omega) (by omega)).mono ?_
        rintro e w29 ⟨x29, ev29, rfl, hx29, hev29, hb29⟩
        have hb29' := hb28'.trans (hb29.mono hb28'.size)
        have HgF29 := Lib.hid (keep hb29 HgF28.out)
        have Hx29 := Lib.hid hx29
        have Hev29 := Lib.hid hev29
        have hFlt : F < w29.heap.size := (Array.getElem?_eq_some_iff.1 HgF29.out).1
        clear hb29 hx29 hev29 HgF28 Hu28 Hu27'
        go_wp2_with fail
        go_loopw [14, 17, 18] (fun o i _ wr => ∃ (k : Nat) (out : List Int), k ≤ ids.length ∧ i = .int .i64 k ∧ Hid (out = (ids.take k).filter (fun n => !dropID ids sm n)) ∧ out.length ≤ k ∧ Own encI 3 1 w29.heap.size wr o out ∧ Below w29.heap.size w29 wr) (fun _ i _ _ => ids.length - (intOf i).toNat)
        case atStart => exact ⟨0, [], by omega, rfl, rfl, by simp, Own.nil _ _ _ _ _, Below.refl _ _⟩
        case round =>
          obtain ⟨k, out, hk, rfl, hout, hol, ho, hb⟩ := hrel
          have hbw := hb29'.trans (hb.mono hb29'.size)
          have c0F := two0 ((hb.block _ hFlt).trans HgF29.out)
          by_cases hlt : k < ids.length
          · obtain ⟨x, hxk⟩ := get_ex hlt
            obtain ⟨a', c', b', o', hv', ha', -, -, hx'⟩ := Hi.out.below hbw
            obtain ⟨rfl, rfl⟩ : some ⟨b1', o1', none⟩ = a' ∧ c1 = c' := by cases hv'; exact ⟨rfl, rfl⟩
            obtain ⟨rfl, rfl⟩ : b' = b1' ∧ o' = o1' := by have := ha' hpos; cases this; exact ⟨rfl, rfl⟩
            have cx := hx' k x hxk 0 _ rfl
            have ix := idx_at (a := some ⟨b', o', none⟩) (b := b') (o := o') (c := c1) 1 Tryz.underlying55 szInt (fun _ => rfl) k hlt
            simp only [Nat.mul_one, Nat.add_zero] at cx ix
            have hk1 : (k : Int) < (ids.length : Int) := by omega
            have Hiff := Lib.hid (now_iff Hc.out hxk)
            have Hx := Lib.hid (take_snoc' hxk)
            clear hv' ha' hx' hxk
            go_wp2_with fail
            refine (inInts_any x _ sm _ (Hs.out.below hbw)).mono ?_
            rintro e w30 ⟨rfl, hb30⟩
            have hbr := hb.trans (hb30.mono hb.size)
            have ho30 := ho.below hb30
            have cx30 := (hb30.cell (World.block_lt_of_cell? wr _ cx)).trans cx
            have c0F30 := two0 ((hbr.block _ hFlt).trans HgF29.out)
            clear cx c0F hb ho hb30 hbw
            by_cases hkeep : x ∈ sm ∨ k + 1 = ids.length
            · have hn2 : out ++ [x] = (ids.take (k + 1)).filter (fun n => !dropID ids sm n) := by
                rw [Hx.out, List.filter_append, ← hout.out]
                congr 1
                have : dropID ids sm x = false := by
                  unfold dropID
                  rcases hkeep with h | h
                  · simp [h]
                  · simp [Hiff.out.2 h]
                simp [this]
              have Hn := Lib.hid hn2
              clear hn2
              have hd : decide (x ∈ sm) = true ∨ (decide (x ∈ sm) = false ∧ ((k : Int) == (ids.length : Int) - 1) = true) := by
                by_cases h : x ∈ sm
                · exact .inl (decide_eq_true h)
                · refine .inr ⟨decide_eq_false h, ?_⟩
                  have := hkeep.resolve_left h
                  rw [beq_iff_eq]; omega
              clear hkeep
              rcases hd with hd | ⟨hd, hd2⟩
              all_goals
                rw [hd]
                clear hd
                go_wp2_with (at_builtin; refine wpList_app rfl _ _ _ rfl w29.heap.size elInt _ out.length _ rfl (ho30.alloc _) (.slice (some ⟨w30.heap.size, 0, none⟩) 1 1) 1 (encI x) rfl (src_one rfl rfl (by simp [Value.oneCell'])) (by unfold maxLen; omega) (by omega) (by have := hbr.size; simp; omega) ?_; intro v31 w31 hown31 hg31 _)
                go_roundw
                case rel => exact ⟨k + 1, out ++ [x], by omega, by go_num, Hn.out, by simp; omega, Own.snoc hown31, Bapp (hbr.alloc hbr.size _) (ho30.alloc _) hg31 (Nat.le_refl _) (by have := hbr.size; simp; omega)⟩
                case measure => simp [intOf]; omega
            · have hn2 : out = (ids.take (k + 1)).filter (fun n => !dropID ids sm n) := by
                rw [Hx.out, List.filter_append, ← hout.out]
                have : dropID ids sm x = true := by
                  unfold dropID
                  have h1 : x ∉ sm := fun h => hkeep (.inl h)
                  have h2 : x ≠ metaNow ids := fun h => hkeep (.inr (Hiff.out.1 h))
                  simp [h1, h2]
                simp [this]
              have Hn := Lib.hid hn2
              have hd : decide (x ∈ sm) = false := decide_eq_false fun h => hkeep (.inl h)
              have hd2 : ((k : Int) == (ids.length : Int) - 1) = false := by
                rw [beq_eq_false_iff_ne]; intro h; exact hkeep (.inr (by omega))
              clear hn2 hkeep
              rw [hd]
              clear hd
              go_wp2_with fail
              go_roundw
              case rel => exact ⟨k + 1, out, by omega, by go_num, Hn.out, by omega, ho30, hbr⟩
              case measure => simp [intOf]; omega
          · obtain rfl : k = ids.length := by omega
            have hfin : out = metaKept ids sm := by
              rw [hout.out, List.take_length]; exact (if_pos Hc.out).symm
            have Hfin := Lib.hid hfin
            have Ho := Lib.hid (ho.at encI_enc)
            have Hx := Lib.hid (Hx29.out.below hb)
            have Hev := Lib.hid (Hev29.out.below hb)
            have c1F := two1 ((hb.block _ hFlt).trans HgF29.out)
            clear hfin ho hb
            go_wp2_with fail
            refine (told_any E B (metaCheck ids) _ _ _ _ (hE.below' hbw hE.le) (hA.below hbw (by have := hE.le; omega)) hgB Hev.out Hcf.out Hpf.out).mono ?_
            rintro e w30 ⟨rfl, hb30⟩
            have hb30' := hbw.trans (hb30.mono hbw.size)
            have Ho30 := Lib.hid (Ho.out.below hb30)
            have Hx30 := Lib.hid (Hx.out.below hb30)
            clear hb30 Ho Hx Hev c0F c1F
            go_wp2_with fail
            refine (sameInts_any _ _ (metaKept ids sm) out _ Hx30.out Ho30.out).mono ?_
            rintro e w31 ⟨rfl, hb31⟩
            have hb31' := hb30'.trans (hb31.mono hb30'.size)
            rw [show decide (metaKept ids sm = out) = true from decide_eq_true Hfin.out.symm]
            clear hb31
            go_wp2_with fail
            go_ret
            exact ⟨rfl, hb31'⟩
    · have hne0 : (cf == 0) = false := beq_eq_false_iff_ne.2 (by omega)
      have hgt0 : decide (0 < cf) = true := by simpa using hcp
      have hkeptB : metaKept ids sm = [] := if_neg hc
      have hpushB : metaPush ids id = ([], metaCheck ids) := by unfold metaPush; rw [if_pos hc]
      have HkB := Lib.hid hkeptB
      have HpB := Lib.hid hpushB
      clear hc hdis hkeptB hpushB htx0 Htx
      go_wp2_with fail
      refine (metaRead_any E B s _ (hE5.below' hb9 hE.le) (hT.below' hb9 hT.le) (hM.below' hb9 hM.le) (by omega)).mono ?_
      unfold MetaReadPost
      rintro e w11 ⟨x11, ev11, rfl, hx11, hev11, hb11⟩
      have hb11' := hb9.trans (hb11.mono hb9.size)
      have HgF11 := Lib.hid (keep hb11 HgF9.out)
      have Hx11 := Lib.hid hx11
      have Hev11 := Lib.hid hev11
      clear hb11 HgF9 hx11 hev11 c0
      go_wp2_with fail
      refine (readIDs_any s _ (by omega)).mono ?_
      unfold ReadPost
      rintro e w12 ⟨x12, rfl, hx12, hb12⟩
      have hb12' := hb11'.trans (hb12.mono hb11'.size)
      have HgF12 := Lib.hid (keep hb12 HgF11.out)
      have Hx12 := Lib.hid hx12
      have Hx11' := Lib.hid (Hx11.out.below hb12)
      have Hev12 := Lib.hid (Hev11.out.below hb12)
      clear hb12 HgF11 hx12 Hx11 Hev11
      unfold faultOf faultV
      obtain ⟨cg, hcg⟩ : ∃ cg : Int, ((metaRead s).2.code : Int) = cg := ⟨_, rfl⟩
      obtain ⟨pg, hpg⟩ : ∃ pg : Int, (metaRead s).2.place = pg := ⟨_, rfl⟩
      rw [hcg, hpg]
      have Hcg := Lib.hid hcg; have Hpg := Lib.hid hpg
      clear hcg hpg
      go_wp2_with fail
      obtain ⟨G, hG⟩ : ∃ G, w12.heap.size = G := ⟨_, rfl⟩
      have hgG := heap_alloc_new w12 (.cells #[.int .i64 cg, .int .i64 pg] 57)
      have hal := (Below.refl w12.heap.size w12).alloc (Nat.le_refl _) (.cells #[.int .i64 cg, .int .i64 pg] 57)
      have hb13' := hb12'.trans (hal.mono hb12'.size)
      have HgF13 := Lib.hid (keep hal HgF12.out)
      have Hx13 := Lib.hid (Hx12.out.below hal)
      have Hy13 := Lib.hid (Hx11'.out.below hal)
      have Hev13 := Lib.hid (Hev12.out.below hal)
      have hFG : F < G := by rw [← hG]; exact (Array.getElem?_eq_some_iff.1 HgF12.out).1
      have hwG : w.heap.size ≤ G := by rw [← hG]; exact hb12'.size
      rw [hG] at hgG ⊢
      generalize hW : w12.alloc (.cells #[.int .i64 cg, .int .i64 pg] 57) = w13 at *
      have HgG13 := Lib.hid hgG
      clear hG hgG hal hW hb12' HgF12 Hx12 Hx11' Hev12
      refine (told_any E B (metaRead s).2 _ _ _ _ (hE.below' hb13' hE.le) (hA.below hb13' (by have := hE.le; omega)) hgB Hev13.out Hcg.out Hpg.out).mono ?_
      rintro e w14 ⟨rfl, hb14⟩
      have hb14' := hb13'.trans (hb14.mono hb13'.size)
      have HgF14 := Lib.hid (keep hb14 HgF13.out)
      have HgG14 := Lib.hid (keep hb14 HgG13.out)
      have Hx14 := Lib.hid (Hx13.out.below hb14)
      have Hy14 := Lib.hid (Hy13.out.below hb14)
      have hb1314 := hb14
      clear hb14 HgF13 Hx13 Hy13 Hev13
      go_wp2_with fail
      refine (sameInts_any _ _ (metaRead s).1 (metaRead s).1 _ Hy14.out Hx14.out).mono ?_
      rintro e w15 ⟨rfl, hb15⟩
      have hb15' := hb14'.trans (hb15.mono hb14'.size)
      have HgF15 := Lib.hid (keep hb15 HgF14.out)
      have HgG15 := Lib.hid (keep hb15 HgG14.out)
      have hb1315 := hb1314.trans (hb15.mono hb1314.size)
      clear hb15 HgF14 HgG14 Hx14 Hy14 hb1314
      rw [show decide ((metaRead s).1 = (metaRead s).1) = true from decide_eq_true rfl]
      go_upto_if 98 with fail
      go_cut [16] (fun l wx => l = .int .i64 (metaNow ids) ∧ w15 = wx)
      case first =>
        by_cases hpos : 0 < ids.length
        · obtain ⟨y, hy⟩ := get_ex (l := ids) (k := ids.length - 1) (by omega)
          have hnow : metaNow ids = y := by unfold metaNow; rw [List.getLast?_eq_getElem?, hy]; rfl
          obtain ⟨a1', c1', b1', o1', hv1', ha1, -, -, hx1⟩ := Hi.out.below hb15'
          obtain ⟨rfl, rfl⟩ : a1 = a1' ∧ c1 = c1' := by cases hv1'; exact ⟨rfl, rfl⟩
          have cy := hx1 _ y hy 0 _ rfl
          have iy := idx_at (c := c1) 1 Tryz.underlying55 szInt ha1 (ids.length - 1) (by omega)
          obtain rfl := ha1 hpos
          have hcast : ((ids.length - 1 : Nat) : Int) = (ids.length : Int) - 1 := by omega
          simp only [Nat.mul_one, Nat.add_zero, hcast] at cy iy
          have hpos' : 1 ≤ (ids.length : Int) := by omega
          have Hnow := Lib.hid hnow
          clear hcast hnow hy hx1 hv1'
          go_wp2_with fail
          go_meet
          exact ⟨by rw [Hnow.out], rfl⟩
        · have hz : ids = [] := List.eq_nil_of_length_eq_zero (by omega)
          have hnow : metaNow ids = 0 := by rw [hz]; rfl
          have hlen0 : (ids.length : Int) ≤ 0 := by omega
          have Hnow := Lib.hid hnow
          clear hz hnow
          go_wp2_with fail
          go_meet
          exact ⟨by rw [Hnow.out], rfl⟩
      case rest =>
        obtain ⟨rfl, rfl⟩ := hcut
        go_wp2_with fail
        refine (ownInts_any _ ids _ (Hi.out.below hb15') (by omega)).mono ?_
        rintro e w16 ⟨u16, rfl, hu16, hb16⟩
        have hb16' := hb15'.trans (hb16.mono hb15'.size)
        have HgF16 := Lib.hid (keep hb16 HgF15.out)
        have HgG16 := Lib.hid (keep hb16 HgG15.out)
        have Hu16 := Lib.hid (hu16.at encI_enc)
        have hb1316 := hb1315.trans (hb16.mono hb1315.size)
        clear hb16 hu16 HgF15 HgG15 hb1315
        go_wp2_with fail
        refine (metaNow_any _ ids _ Hu16.out).mono ?_
        rintro e w' ⟨rfl, rfl⟩
        go_wp2_with fail
        refine (ownInts_any _ ids _ (Hi.out.below hb16') (by omega)).mono ?_
        rintro e w17 ⟨u17, rfl, hu17, hb17⟩
        have hb17' := hb16'.trans (hb17.mono hb16'.size)
        have HgF17 := Lib.hid (keep hb17 HgF16.out)
        have HgG17 := Lib.hid (keep hb17 HgG16.out)
        have Hu17 := Lib.hid (hu17.at encI_enc)
        have hb1317 := hb1316.trans (hb17.mono hb1316.size)
        clear hb17 hu17 HgF16 HgG16 Hu16 hb1316
        go_wp2_with fail
        refine (metaPush_own E B _ ids id _ (hE4.below' hb17' hE.le) Hu17.out (by omega)).mono ?_
        rintro e w18 ⟨x18, ev18, rfl, hx18, hev18, hb18⟩
        have hb18' := hb17'.trans (hb18.mono hb17'.size)
        have HgF18 := Lib.hid (keep hb18 HgF17.out)
        have HgG18 := Lib.hid (keep hb18 HgG17.out)
        have Hx18 := Lib.hid hx18
        have Hev18 := Lib.hid hev18
        clear hb18 hx18 hev18 HgF17 HgG17 Hu17
        go_wp2_with fail
        refine (ownInts_any _ ids _ (Hi.out.below hb18') (by omega)).mono ?_
        rintro e w19 ⟨u19, rfl, hu19, hb19⟩
        have hb19' := hb18'.trans (hb19.mono hb18'.size)
        have HF18 := Lib.hid (Array.getElem?_eq_some_iff.1 HgF18.out).1
        have HG17 := Lib.hid (Nat.lt_of_lt_of_le (Array.getElem?_eq_some_iff.1 HgG13.out).1 (Nat.le_trans hb1317.size (Nat.le_refl _)))
        have HG18 := Lib.hid (Array.getElem?_eq_some_iff.1 HgG18.out).1
        have hs19 := hb19.size
        clear HgG13 hb1317
        go_wp2_with (at_builtin; refine wpList_app rfl _ _ _ rfl w18.heap.size elInt _ ids.length _ rfl (hu19.alloc _) (.slice (some ⟨w19.heap.size, 0, none⟩) 1 1) 1 (encI id) rfl (src_one rfl rfl (by simp [Value.oneCell'])) (by unfold maxLen; omega) (by omega) (by simp; omega) ?_; intro v20 w20 hown20 hg20 _; have hb20 : Below w18.heap.size w18 w20 := hb19.trans (Bapp ((Below.refl _ w19).alloc hs19 _) (hu19.alloc _) hg20 (Nat.le_refl _) (by simp; omega)); have hb20' := hb18'.trans (hb20.mono hb18'.size); have Hv20 := Lib.hid (Own.snoc hown20); have HgF20 := Lib.hid ((hb20.block _ HF18.out).trans HgF18.out); have HgG20 := Lib.hid ((hb20.block _ HG18.out).trans HgG18.out); have Hx20 := Lib.hid (Hx18.out.below hb20); have Hev20 := Lib.hid (Hev18.out.below hb20); have c0F := two0 HgF20.out; have c1F := two1 HgF20.out; have c0G := two0 HgG20.out; have c1G := two1 HgG20.out; have f0G := unfr (i := 0) HgG20.out; have f1G := unfr (i := 1) HgG20.out; clear hown20 hg20 hb20 hu19 hb19 hb19' HgF18 HgG18 Hx18 Hev18)
        have hgG21 := set_two HgG20.out (.int .i64 cf) (.int .i64 pf)
        have hb21' := (hb20'.setCell (p := ⟨G, 0, none⟩) hwG (.int .i64 cf)).setCell (p := ⟨G, 1, none⟩) hwG (.int .i64 pf)
        have hv21 := (Hv20.out.store HG18.out 0 (.int .i64 cf)).store HG18.out 1 (.int .i64 pf)
        have hx21 := (Hx20.out.store HG17.out 0 (.int .i64 cf)).store HG17.out 1 (.int .i64 pf)
        have hgF21 := ((grown_set w20 G 0 (.int .i64 cf)).block F (Array.getElem?_eq_some_iff.1 HgF20.out).1 (by simp; omega)).trans HgF20.out
        have hgF21 := ((grown_set _ G 1 (.int .i64 pf)).block F (Array.getElem?_eq_some_iff.1 hgF21).1 (by simp; omega)).trans hgF21
        have hev21 := Lib.hid (Hev20.out.store2 HgG20.out (.int .i64 cf) (.int .i64 pf))
        generalize hW : (w20.setCell ⟨G, 0, none⟩ (.int .i64 cf)).setCell ⟨G, 1, none⟩ (.int .i64 pf) = w21 at *
        have HgF21 := Lib.hid hgF21; have HgG21 := Lib.hid hgG21; have Hx21 := Lib.hid hx21
        clear hW hgF21 hgG21 hv21 hx21 HgF20 HgG20 Hv20 Hx20 Hev20 c0F c1F c0G c1G f0G f1G hb20'
        refine (told_any E B (metaPush ids id).2 _ _ _ _ (hE.below' hb21' hE.le) (hA.below hb21' (by have := hE.le; omega)) hgB hev21.out (by rw [HpB.out]; exact Hcf.out) (by rw [HpB.out]; exact Hpf.out)).mono ?_
        rintro e w25 ⟨rfl, hb25⟩
        have hb26 := hb21'.trans (hb25.mono hb21'.size)
        have HgF26 := Lib.hid (keep hb25 HgF21.out)
        have c0G := two0 (keep hb25 HgG21.out)
        have hx25 := Hx21.out.below hb25
        rw [HpB.out] at hx25
        obtain ⟨px, nx, cx, hform⟩ := (hx25.at encI_enc).form
        obtain rfl : nx = 0 := by
          obtain ⟨_, _, _, _, h, _⟩ := hx25.at encI_enc
          rw [hform] at h; cases h; rfl
        subst hform
        clear hb25 HgF21 HgG21 Hx21 hev21 hx25
        go_wp2_with fail
        refine (ownInts_any _ ids _ (Hi.out.below hb26) (by omega)).mono ?_
        rintro e w27 ⟨u27, rfl, hu27, hb27⟩
        have hb27' := hb26.trans (hb27.mono hb26.size)
        have HgF27 := Lib.hid (keep hb27 HgF26.out)
        have Hu27 := Lib.hid (hu27.at encI_enc)
        clear hb27 hu27 HgF26
        go_wp2_with fail
        refine (ownInts_any _ sm _ (Hs.out.below hb27') (by omega)).mono ?_
        rintro e w28 ⟨u28, rfl, hu28, hb28⟩
        have hb28' := hb27'.trans (hb28.mono hb27'.size)
        have HgF28 := Lib.hid (keep hb28 HgF27.out)
        have Hu28 := Lib.hid (hu28.at encI_enc)
        have Hu27' := Lib.hid (Hu27.out.below hb28)
        clear hb28 hu28 HgF27 Hu27
        go_wp2_with fail
        refine (metaKeep_any E B _ _ ids sm _ (hE4.below' hb28' hE.le) Hu27'.out Hu28.out (by omega) (by omega)).mono ?_
        rintro e w29 ⟨x29, ev29, rfl, hx29, hev29, hb29⟩
        have hb29' := hb28'.trans (hb29.mono hb28'.size)
        have HgF29 := Lib.hid (keep hb29 HgF28.out)
        have Hx29 := Lib.hid hx29
        have Hev29 := Lib.hid hev29
        have hFlt : F < w29.heap.size := (Array.getElem?_eq_some_iff.1 HgF29.out).1
        clear hb29 hx29 hev29 HgF28 Hu28 Hu27'
        go_wp2_with fail
        go_loopw [14, 17, 18] (fun o i _ wr => i = .int .i64 0 ∧ o = .slice none 0 0 ∧ Below w29.heap.size w29 wr) (fun _ i _ _ => 0)
        case atStart => exact ⟨rfl, rfl, Below.refl _ _⟩
        case round =>
          obtain ⟨rfl, rfl, hb⟩ := hrel
          have hbw := hb29'.trans (hb.mono hb29'.size)
          have c0F := two0 ((hb.block _ hFlt).trans HgF29.out)
          have Hx := Lib.hid (Hx29.out.below hb)
          have Hev := Lib.hid (Hev29.out.below hb)
          have c1F := two1 ((hb.block _ hFlt).trans HgF29.out)
          clear hb
          go_wp2_with fail
          all_goals
            refine (told_any E B (metaCheck ids) _ _ _ _ (hE.below' hbw hE.le) (hA.below hbw (by have := hE.le; omega)) hgB Hev.out Hcf.out Hpf.out).mono ?_
            rintro e w30 ⟨rfl, hb30⟩
            have hb30' := hbw.trans (hb30.mono hbw.size)
            have Ho30 := Lib.hid (At.nil encI 1 w30)
            have Hx30 := Lib.hid (Hx.out.below hb30)
            clear hb30 Hx Hev c0F c1F
            go_wp2_with fail
            refine (sameInts_any _ _ (metaKept ids sm) [] _ Hx30.out Ho30.out).mono ?_
            rintro e w31 ⟨rfl, hb31⟩
            have hb31' := hb30'.trans (hb31.mono hb30'.size)
            rw [show decide (metaKept ids sm = []) = true from decide_eq_true HkB.out]
            clear hb31
            go_wp2_with fail
            go_ret
            exact ⟨rfl, hb31'⟩
end Go.Proofs.YtepdedfmdafnkaaGreatDoor
