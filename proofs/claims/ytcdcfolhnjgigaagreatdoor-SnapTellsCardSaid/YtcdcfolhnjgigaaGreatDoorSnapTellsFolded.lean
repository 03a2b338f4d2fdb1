/- 'deedboxlaw2.SnapTells' returns true at every input: a snap's check, its text, its rows and its reading answer as the document's answer does, at every snap and every text. Condition: the package-level variables read as the program's text lays them; the card ties that. -/
import Derived.Test.YtcdcfolhnjgigaaGreatDoorBx16
import Derived.Test.YtcdcfolhnjgigaaGreatDoorBx17
import Derived.Test.YtcdcfolhnjgigaaGreatDoorBx10
import Derived.Deep.RegionWith
import Derived.Deep.RegionHeld3
import Derived.Deep.DeepCutAuto
import Derived.Test.YtcdcfolhnjgigaaGreatDoorRows
import Derived.Test.YtcdcfolhnjgigaaGreatDoorCards
import Derived.Test.YtcdcfolhnjgigaaGreatDoorTie
import Derived.Test.YtcdcfolhnjgigaaGreatDoorBx11
import Derived.LaidOnce
import Derived.SevenTiedAt
namespace Go.Proofs.YtcdcfolhnjgigaaGreatDoor
open Go.RowKit

theorem toldB_true (er : Er) : toldB er er.code er.place = true := by simp [toldB]
theorem told_any (E : Nat → Addr) (B : Nat) (er : Er) (v : Value) (c p : Int) (w : World) (hE : Errs allE E B w) (hA : AsVar w) (hgB : 13 < B) (hv : ErV E w v er) (hc : ((er.code : Nat) : Int) = c) (hp : er.place = p) :
    Calls Tryz.prog 36 #[v, .agg #[.int .i64 c, .int .i64 p]] w fun e w' => e = .returned (.bool true) ∧ Below w.heap.size w w' := by
  subst hc hp
  have h := faulted_any E B er v er.code er.place w hE hA hgB hv
  rwa [toldB_true] at h
theorem keep {a b : World} {g : Nat} {o : Obj} (hb : Below a.heap.size a b) (h : a.heap[g]? = some o) : b.heap[g]? = some o := (hb.block _ (Array.getElem?_eq_some_iff.1 h).1).trans h
theorem two0 {w : World} {g : Nat} {x y : Value} {t : TypeId} (h : w.heap[g]? = some (.cells #[x, y] t (0, 0))) : w.cell? ⟨g, 0, none⟩ = some x := by simp [World.cell?, h]
theorem two1 {w : World} {g : Nat} {x y : Value} {t : TypeId} (h : w.heap[g]? = some (.cells #[x, y] t (0, 0))) : w.cell? ⟨g, 1, none⟩ = some y := by simp [World.cell?, h]
theorem unfr {w : World} {g i : Nat} {cs : Array Value} {t : TypeId} (h : w.heap[g]? = some (.cells cs t (0, 0))) : w.frozen? ⟨g, i, none⟩ = false := by simp [World.frozen?, h]

theorem ErV.store {E : Nat → Addr} {w : World} {v : Value} {er : Er} {g i : Nat} {x : Int} {y : Value} (h : ErV E w v er) (h1 : w.cell? ⟨g, 1, none⟩ = some (.int .i64 x)) : ErV E (w.setCell ⟨g, i, none⟩ y) v er := by
  cases er with
  | nil => exact h
  | bare c => exact h
  | loc c k =>
    obtain ⟨hc, fb, hv, h2, h3⟩ := h
    have hne : g ≠ fb := fun e => by rw [e, h3] at h1; cases h1
    refine ⟨hc, fb, hv, (World.cell?_setCell_other _ _ _ _ ?_).trans h2, (World.cell?_setCell_other _ _ _ _ ?_).trans h3⟩
    · exact fun e => hne (congrArg Addr.block e)
    · exact fun e => hne (congrArg Addr.block e)
theorem ErV.store2 {E : Nat → Addr} {w : World} {v : Value} {er : Er} {g : Nat} {a b : Int} {t : TypeId} (h : ErV E w v er) (hg : w.heap[g]? = some (.cells #[.int .i64 a, .int .i64 b] t (0, 0))) (x y : Value) : ErV E ((w.setCell ⟨g, 0, none⟩ x).setCell ⟨g, 1, none⟩ y) v er :=
  (h.store (two1 hg)).store ((World.cell?_setCell_other _ _ _ _ (by simp)).trans (two1 hg))
theorem field0 (a b : Value) (W : World) : (Instr.field 62 (.agg #[a, b]) 0).run Tryz.prog W = .ok a W := by kernel_rfl
theorem Bd {B : Nat} {a w : World} (h : Below B a w) : Below B a w.drew := Bdn h 1

theorem FilesAt.away' {w : World} {v : Value} {l : List Fl} {g : Nat} {x y : Int} {t : TypeId} (h : FilesAt w v l) (hg : w.heap[g]? = some (.cells #[.int .i64 x, .int .i64 y] t (0, 0))) (a b : Value) : FilesAt ((w.setCell ⟨g, 0, none⟩ a).setCell ⟨g, 1, none⟩ b) v l := by
  obtain ⟨a', c, b', o, hv, ha, hc, hm, hx⟩ := h
  refine ⟨a', c, b', o, hv, ha, hc, hm, fun k z hk j u hu => ?_⟩
  have h0 := hx k z hk 0 _ rfl
  have h1 := hx k z hk j u hu
  have hne : b' ≠ g := by
    rintro rfl
    simp only [World.cell?, hg] at h0
    generalize o + k * 6 + 0 = i at h0
    match i with
    | 0 => simp at h0
    | 1 => simp at h0
    | n + 2 => simp at h0
  rw [World.cell?_setCell_other _ _ _ _ (fun e => hne (by have h := congrArg Addr.block e; first | exact h | exact h.symm)), World.cell?_setCell_other _ _ _ _ (fun e => hne (by have h := congrArg Addr.block e; first | exact h | exact h.symm))]
  exact h1
theorem faultOf_agg (er : Er) : faultOf er = .agg #[.int .i64 (er.code : Int), .int .i64 er.place] := rfl
set_option maxHeartbeats 16000000 in
set_option maxRecDepth 20000 in
theorem snapTells_any (E : Nat → Addr) (B : Nat) (v : Value) (s : Sn) (tx : Str) (w : World) (hE : Errs allE E B w) (hA : AsVar w) (hgB : 13 < B) (hT : LNum B w) (hM : LMax B w) (hl : FilesAt w v s.files) (hsl : (tx.length : Int) ≤ 9223372036854775807) :
    Calls Tryz.prog 6 #[snapV s v, S tx] w fun e w' => e = .returned (.bool true) ∧ Below w.heap.size w w' := by
  have hBw := hE.le
  have hif := isIfaceE
  obtain ⟨av, nv, cv, rfl⟩ : ∃ av nv cv, v = .slice av nv cv := by
    obtain ⟨a', c', h', -⟩ := hl.form'
    exact ⟨_, _, _, h'⟩
  have hb0 : Below w.heap.size w (w.alloc (.cells #[.int .i64 s.id, .int .i64 s.parent, .int .i64 s.seq, .int .i64 s.day, .int .i64 s.index, S s.op, .slice av nv cv] 58)) := (Below.refl _ _).alloc (Nat.le_refl _) _
  have CS := Lib.hid (fun w6 (h : Below (w.alloc (.cells #[.int .i64 s.id, .int .i64 s.parent, .int .i64 s.seq, .int .i64 s.day, .int .i64 s.index, S s.op, .slice av nv cv] 58)).heap.size (w.alloc (.cells #[.int .i64 s.id, .int .i64 s.parent, .int .i64 s.seq, .int .i64 s.day, .int .i64 s.index, S s.op, .slice av nv cv] 58)) w6) => snapCells h)
  go_enter Tryz.func6, Tryz.ntmps6
  go_wp2_with fail
  generalize w.alloc (.cells #[.int .i64 s.id, .int .i64 s.parent, .int .i64 s.seq, .int .i64 s.day, .int .i64 s.index, S s.op, .slice av nv cv] 58) = w0 at *
  have X := Lib.hid (fun w6 (h : Below w0.heap.size w0 w6) => (⟨hE.below' (hb0.trans (h.mono hb0.size)) hBw, hA.below ((hb0.trans (h.mono hb0.size)).mono hBw) hgB, hT.below' (hb0.trans (h.mono hb0.size)) hBw, hM.below' (hb0.trans (h.mono hb0.size)) hBw, hl.below (hb0.trans (h.mono hb0.size)), hb0.trans (h.mono hb0.size)⟩ : Errs allE E B w6 ∧ AsVar w6 ∧ LNum B w6 ∧ LMax B w6 ∧ FilesAt w6 (.slice av nv cv) s.files ∧ Below w.heap.size w w6))
  obtain ⟨x1, x2, x3, x4, x5, x6⟩ := X.out w0 (Below.refl _ _)
  refine (snapped_any E B w0 (x1.sub (by decide)) x3 x4).mono ?_
  rintro e w1 ⟨rfl, hb1⟩
  clear x1 x2 x3 x4 x5 x6
  obtain ⟨x1, x2, x3, x4, x5, x6⟩ := X.out w1 hb1
  obtain ⟨c0, c1, c2, c3, c4, c5, c6⟩ := CS.out _ hb1
  have HLong := Lib.hid (fun W (h : Below w0.heap.size w0 W) => longSnap_any s (.slice av nv cv) W (X.out W h).2.2.2.2.1)
  go_upto_region 2 with fail
  go_cut [36] (fun c wx => (c = .bool true ∨ (c = .bool false ∧ s.op.length ≤ 30 ∧ s.files.length ≤ 61 ∧ (∀ f ∈ s.files, shortF f) ∧ (tx.length ≤ 2500 ∨ tx.length = 20001))) ∧ Below w0.heap.size w0 wx)
  case first =>
    go_wp2_with fail
    refine (HLong.out _ hb1).mono ?_
    rintro e w2 ⟨he, hb2⟩
    have hb2' := hb1.trans (hb2.mono hb1.size)
    clear x1 x2 x3 x4 x5 x6 c0 c1 c2 c3 c4 c5 c6
    rcases he with rfl | ⟨rfl, hop, hlen, hsh⟩
    · go_wp2_with fail
      go_meet
      exact ⟨.inl rfl, hb2'⟩
    have H1 := Lib.hid hop; have H2 := Lib.hid hlen; have H3 := Lib.hid hsh
    clear hop hlen hsh
    by_cases h1 : tx.length ≤ 2500
    · have g1 : decide ((2500 : Int) < (tx.length : Int)) = false := by simp; omega
      have H4 := Lib.hid h1
      clear h1
      go_wp2_with fail
      go_meet
      exact ⟨.inr ⟨rfl, H1.out, H2.out, H3.out, .inl H4.out⟩, hb2'⟩
    have g1 : (2500 : Int) < (tx.length : Int) := by omega
    by_cases h2 : tx.length = 20001
    · have g2 : ((tx.length : Int) != 20001) = false := by simp; omega
      have H4 := Lib.hid h2
      clear h1 h2
      go_wp2_with fail
      go_meet
      exact ⟨.inr ⟨rfl, H1.out, H2.out, H3.out, .inr H4.out⟩, hb2'⟩
    · have g2 : ((tx.length : Int) != 20001) = true := by rw [bne_iff_ne]; omega
      clear h1 h2
      go_wp2_with fail
      go_meet
      exact ⟨.inl rfl, hb2'⟩
  case rest =>
    obtain ⟨hc, hb2'⟩ := hcut
    clear x1 x2 x3 x4 x5 x6 c0 c1 c2 c3 c4 c5 c6 hb1
    obtain ⟨x1, x2, x3, x4, x5, x6⟩ := X.out _ hb2'
    rcases hc with rfl | ⟨rfl, hop, hlen, hsh, htl⟩
    · go_wp2_with fail
      go_ret
      exact ⟨rfl, x6⟩
    have hsm := fun f hf => (hsh f hf).mid
    have HS := Lib.hid hsm; clear hsh hsm
    obtain ⟨c0, c1, c2, c3, c4, c5, c6⟩ := CS.out _ hb2'
    have HOwn := Lib.hid (ownSnap_any s _ _ x5 (by omega))
    have HTl := Lib.hid htl
    clear htl hop hlen
    go_wp2_with fail
    refine HOwn.out.mono ?_
    rintro e w3 ⟨u, rfl, hu, hb3⟩
    obtain ⟨au, nu, cu, rfl⟩ : ∃ au nu cu, u = .slice au nu cu := by
      obtain ⟨a', c', h', -⟩ := hu.form'
      exact ⟨_, _, _, h'⟩
    have hb3' := hb2'.trans (hb3.mono hb2'.size)
    clear x1 x2 x3 x4 x5 x6 c0 c1 c2 c3 c4 c5 c6 HOwn
    have hbO : Below w3.heap.size w3 (w3.alloc (.cells #[.int .i64 s.id, .int .i64 s.parent, .int .i64 s.seq, .int .i64 s.day, .int .i64 s.index, S s.op, .slice au nu cu] 58)) := (Below.refl _ _).alloc (Nat.le_refl _) _
    have CO := Lib.hid (fun W (h : Below (w3.alloc (.cells #[.int .i64 s.id, .int .i64 s.parent, .int .i64 s.seq, .int .i64 s.day, .int .i64 s.index, S s.op, .slice au nu cu] 58)).heap.size (w3.alloc (.cells #[.int .i64 s.id, .int .i64 s.parent, .int .i64 s.seq, .int .i64 s.day, .int .i64 s.index, S s.op, .slice au nu cu] 58)) W) => snapCells (s := s) (v := .slice au nu cu) (t := 58) h)
    have hb4' := hb3'.trans (hbO.mono hb3'.size)
    have hu4 := hu.below hbO
    obtain ⟨O, hO⟩ : ∃ O, w3.heap.size = O := ⟨_, rfl⟩
    rw [hO] at CO
    go_upto_region 5 with fail
    try rw [hO]
    generalize w3.alloc (.cells #[.int .i64 s.id, .int .i64 s.parent, .int .i64 s.seq, .int .i64 s.day, .int .i64 s.index, S s.op, .slice au nu cu] 58) = w4 at *
    have hYx := fun (W : World) (h : Below w4.heap.size w4 W) => X.out W (hb4'.trans (h.mono hb4'.size))
    have hYc := fun (W : World) (h : Below w4.heap.size w4 W) => CS.out W (hb4'.trans (h.mono hb4'.size))
    have hYu := fun (W : World) (h : Below w4.heap.size w4 W) => hu4.below h
    have Yx := Lib.hid hYx; have Yc := Lib.hid hYc; have Yu := Lib.hid hYu
    clear hYx hYc hYu hu hu4 hb3 hb3' hbO hO hb2' X CS HLong
    have hSF := snapFault_any s (.slice av nv cv) w4 (Yx.out _ (Below.refl _ _)).2.2.2.2.1 HS.out
    have HSF := Lib.hid hSF
    obtain ⟨c0, c1, c2, c3, c4, c5, c6⟩ := Yc.out _ (Below.refl _ _)
    clear hSF
    go_wp2_with fail
    refine HSF.out.mono ?_
    rintro e w5 ⟨rfl, hb5⟩
    rw [faultOf_agg]
    obtain ⟨cc, hcc⟩ : ∃ cc : Int, ((snapCheck s).code : Int) = cc := ⟨_, rfl⟩
    obtain ⟨pp, hpp⟩ : ∃ pp : Int, (snapCheck s).place = pp := ⟨_, rfl⟩
    rw [hcc, hpp]
    have hdis : Hid ((snapCheck s = .nil ∧ cc = 0) ∨ (snapCheck s ≠ .nil ∧ 0 < cc ∧ snapTextR s = [])) := Lib.hid (by
      by_cases hc : snapCheck s = .nil
      · exact .inl ⟨hc, by rw [← hcc, hc]; rfl⟩
      · exact .inr ⟨hc, by rw [← hcc]; have := snapCheck_code hc; omega, if_neg hc⟩)
    have Hcc := Lib.hid hcc; have Hpp := Lib.hid hpp
    clear hcc hpp c0 c1 c2 c3 c4 c5 c6 HSF
    obtain ⟨G, hG⟩ : ∃ G, w5.heap.size = G := ⟨_, rfl⟩
    have hgG := heap_alloc_new w5 (.cells #[.int .i64 cc, .int .i64 pp] 62)
    have hb6 := hb5.alloc hb5.size (.cells #[.int .i64 cc, .int .i64 pp] 62)
    have hwG : w4.heap.size ≤ G := by rw [← hG]; exact hb5.size
    rw [hG] at hgG
    go_upto_region 6 with fail
    try rw [hG]
    generalize w5.alloc (.cells #[.int .i64 cc, .int .i64 pp] 62) = w6 at *
    have HgG6 := Lib.hid hgG
    clear hgG hG hb5
    obtain ⟨c0, c1, c2, c3, c4, c5, c6⟩ := CO.out _ hb6
    have hTx := snapText_any E B s (.slice au nu cu) w6 ((Yx.out _ hb6).1.sub (by decide)) (Yx.out _ hb6).2.2.1 (Yx.out _ hb6).2.2.2.1 (Yu.out _ hb6) HS.out
    have HTx := Lib.hid hTx
    clear hTx
    go_wp2_with fail
    refine HTx.out.mono ?_
    rintro e w7 ⟨ev, rfl, hev, hb7⟩
    obtain ⟨ty, hty⟩ : ∃ ty, snapTextR s = ty := ⟨_, rfl⟩
    rw [hty]
    have Htx := Lib.hid hty
    have hb7' := hb6.trans (hb7.mono hb6.size)
    have HgG7 := Lib.hid (keep hb7 HgG6.out)
    have Hev := Lib.hid hev
    clear hty hb7 hev HgG6 hb6 c0 c1 c2 c3 c4 c5 c6 HTx
    go_upto_region 7 with fail
    go_cut [66] (fun c wx => c = .bool false ∧ Below w4.heap.size w4 wx ∧ wx.heap[G]? = some (.cells #[.int .i64 cc, .int .i64 pp] 62 (0, 0)))
    case first =>
      have c0 := two0 HgG7.out
      have c1 := two1 HgG7.out
      have hbd := Bd hb7'
      have d := CO.out _ hb7'
      obtain ⟨d0, d1, d2, d3, d4, d5, d6⟩ := d
      have hd2 : decide ((0 : Int) < cc) = false ∨ (decide ((0 : Int) < cc) = true ∧ snapTextR s = []) := by
        rcases hdis.out with ⟨_, h⟩ | ⟨_, h, h'⟩
        · exact .inl (by rw [h]; rfl)
        · exact .inr ⟨by simpa using h, h'⟩
      rcases hd2 with gA | ⟨gA, hsp⟩
      · first
        | go_region_with (first
            | (go_at_call 37; (with_reducible refine (snapCheck_any E B s _ _ ((Yx.out _ hbd).1.sub (by decide)) (Yx.out _ hbd).2.2.1 (Yx.out _ hbd).2.2.2.1 (Yu.out _ hbd) HS.out).mono ?_); rintro e w8 ⟨ev8, rfl, hev8, hb8⟩; have hb8' := hbd.trans (hb8.mono hbd.size); have HgG8 := Lib.hid (keep hb8 HgG7.out); have Hx8 := Lib.hid hev8; have Hev8 := Lib.hid (ErV.below (w := w7.drew) Hev.out hb8); clear c0 c1 d0 d1 d2 d3 d4 d5 d6; have c0 := two0 HgG8.out; have c1 := two1 HgG8.out; obtain ⟨d0, d1, d2, d3, d4, d5, d6⟩ := CO.out _ hb8'; clear hb8 hev8 hbd Hev HgG7)
            | (go_at_call 36; have _t := Hx8; refine (told_any E B (snapCheck s) _ _ _ _ (Yx.out _ hb8').1 (Yx.out _ hb8').2.1 hgB Hx8.out Hcc.out Hpp.out).mono ?_; rintro e w9 ⟨rfl, hb9⟩; have hb9' := hb8'.trans (hb9.mono hb8'.size); have HgG9 := Lib.hid (keep hb9 HgG8.out); have Hev9 := Lib.hid (Hev8.out.below hb9); clear c0 c1 d0 d1 d2 d3 d4 d5 d6; have c0 := two0 HgG9.out; have c1 := two1 HgG9.out; obtain ⟨d0, d1, d2, d3, d4, d5, d6⟩ := CO.out _ hb9'; clear _t hb9 Hx8 hb8' Hev8 HgG8)
            | (go_at_call 36; have _t := Hev9; refine (told_any E B (snapCheck s) _ _ _ _ (Yx.out _ hb9').1 (Yx.out _ hb9').2.1 hgB Hev9.out Hcc.out Hpp.out).mono ?_; rintro e w10 ⟨rfl, hb10⟩; have hb10' := hb9'.trans (hb10.mono hb9'.size); have HgG10 := Lib.hid (keep hb10 HgG9.out); clear c0 c1 d0 d1 d2 d3 d4 d5 d6; have c0 := two0 HgG10.out; have c1 := two1 HgG10.out; obtain ⟨d0, d1, d2, d3, d4, d5, d6⟩ := CO.out _ hb10'; clear _t hb10 Hev9 hb9' HgG9))
        | fail
        all_goals
          go_wp2_with fail
          go_meet
          exact ⟨rfl, hb10', HgG10.out⟩
      · obtain rfl : ty = [] := by rw [← Htx.out, hsp]
        first
        | go_region_held3 (fun w' => w'.cell? ⟨G, 0, none⟩ = some (.int .i64 cc) ∧ w'.cell? ⟨G, 1, none⟩ = some (.int .i64 pp) ∧ w'.cell? ⟨O, 0, none⟩ = some (.int .i64 s.id) ∧ w'.cell? ⟨O, 1, none⟩ = some (.int .i64 s.parent) ∧ w'.cell? ⟨O, 2, none⟩ = some (.int .i64 s.seq) ∧ w'.cell? ⟨O, 3, none⟩ = some (.int .i64 s.day) ∧ w'.cell? ⟨O, 4, none⟩ = some (.int .i64 s.index) ∧ w'.cell? ⟨O, 5, none⟩ = some (S s.op) ∧ w'.cell? ⟨O, 6, none⟩ = some (.slice au nu cu)) (exact ⟨c0, c1, d0, d1, d2, d3, d4, d5, d6⟩) (first
            | (go_at_call 37; (with_reducible refine (snapCheck_any E B s _ _ ((Yx.out _ hbd).1.sub (by decide)) (Yx.out _ hbd).2.2.1 (Yx.out _ hbd).2.2.2.1 (Yu.out _ hbd) HS.out).mono ?_); rintro e w8 ⟨ev8, rfl, hev8, hb8⟩; have hb8' := hbd.trans (hb8.mono hbd.size); have HgG8 := Lib.hid (keep hb8 HgG7.out); have Hx8 := Lib.hid hev8; have Hev8 := Lib.hid (ErV.below (w := w7.drew) Hev.out hb8); clear c0 c1 d0 d1 d2 d3 d4 d5 d6; have c0 := two0 HgG8.out; have c1 := two1 HgG8.out; obtain ⟨d0, d1, d2, d3, d4, d5, d6⟩ := CO.out _ hb8'; clear hb8 hev8 hbd Hev HgG7)
            | (go_at_call 36; have _t := Hx8; refine (told_any E B (snapCheck s) _ _ _ _ (Yx.out _ hb8').1 (Yx.out _ hb8').2.1 hgB Hx8.out Hcc.out Hpp.out).mono ?_; rintro e w9 ⟨rfl, hb9⟩; have hb9' := hb8'.trans (hb9.mono hb8'.size); have HgG9 := Lib.hid (keep hb9 HgG8.out); have Hev9 := Lib.hid (Hev8.out.below hb9); clear c0 c1 d0 d1 d2 d3 d4 d5 d6; have c0 := two0 HgG9.out; have c1 := two1 HgG9.out; obtain ⟨d0, d1, d2, d3, d4, d5, d6⟩ := CO.out _ hb9'; clear _t hb9 Hx8 hb8' Hev8 HgG8)
            | (go_at_call 36; have _t := Hev9; refine (told_any E B (snapCheck s) _ _ _ _ (Yx.out _ hb9').1 (Yx.out _ hb9').2.1 hgB Hev9.out Hcc.out Hpp.out).mono ?_; rintro e w10 ⟨rfl, hb10⟩; have hb10' := hb9'.trans (hb10.mono hb9'.size); have HgG10 := Lib.hid (keep hb10 HgG9.out); clear c0 c1 d0 d1 d2 d3 d4 d5 d6; have c0 := two0 HgG10.out; have c1 := two1 HgG10.out; obtain ⟨d0, d1, d2, d3, d4, d5, d6⟩ := CO.out _ hb10'; clear _t hb10 Hev9 hb9' HgG9))
        | fail
        all_goals
          go_wp2_with fail
          go_meet
          exact ⟨rfl, hb10', HgG10.out⟩
    case rest =>
      obtain ⟨rfl, hb9, hgG⟩ := hcut
      have HgG9 := Lib.hid hgG
      clear hgG HgG7 Hev hb7'
      go_upto_region 9 with fail
      go_cut [75] (fun c wx => c = .bool false ∧ Below w4.heap.size w4 wx ∧ wx.heap[G]? = some (.cells #[.int .i64 cc, .int .i64 pp] 62 (0, 0)))
      case first =>
        have c0 := two0 HgG9.out
        have hd3 : (ty = snapText s ∧ cc = 0 ∧ Hid (RightSn s)) ∨ (cc == 0) = false := by
          rcases hdis.out with ⟨hc, h⟩ | ⟨_, h, _⟩
          · exact .inl ⟨by rw [← Htx.out]; exact if_pos hc, h, Lib.hid ((snap_iff s).1 hc)⟩
          · exact .inr (by simp; omega)
        rcases hd3 with ⟨rfl, rfl, HR⟩ | g0
        · obtain ⟨d0, d1, d2, d3, d4, d5, d6⟩ := Yc.out _ hb9
          have hRT := refSnapText_any s _ _ (Yx.out _ hb9).2.2.2.2.1 HR.out
          have HRT := Lib.hid hRT
          clear hRT
          go_wp2_with fail
          refine HRT.out.mono ?_
          rintro e w10 ⟨rfl, hb10⟩
          have hb10' := hb9.trans (hb10.mono hb9.size)
          have HgG10 := Lib.hid (keep hb10 HgG9.out)
          go_wp2_with fail
          go_meet
          exact ⟨rfl, hb10', HgG10.out⟩
        · go_wp2_with fail
          go_meet
          exact ⟨rfl, hb9, HgG9.out⟩
      case rest =>
        obtain ⟨rfl, hb10, hgG⟩ := hcut
        have HgG10 := Lib.hid hgG
        clear hgG HgG9 hb9
        obtain ⟨wo, rfl⟩ : ∃ wo, wo = wc := ⟨wc, rfl⟩
        obtain ⟨a', c', b, o, hv, ha, hc, hcm, hx⟩ := (Yx.out _ hb10).2.2.2.2.1
        simp only [Value.slice.injEq] at hv
        obtain ⟨rfl, hnv, rfl⟩ := hv
        rw [← hnv] at ha hc
        unfold maxLen at hcm
        have HNv := Lib.hid hnv
        have hnvl : nv ≤ 9223372036854775807 := by omega
        have hX := fun (k : Nat) (x : Fl) (h : s.files[k]? = some x) => flCells hx (Below.refl wo.heap.size wo) h
        have HX := Lib.hid hX
        clear hnv hx hX
        go_upto_block 0 with fail
        go_cut [10, 11] (fun r q wx => r = .int .i64 (if snapCheck s = .nil then rowsL s.files else 0) ∧ q = .int .i64 (if snapCheck s = .nil then keysL s.files else 0) ∧ wx = wo)
        case first =>
          have c0 := two0 HgG10.out
          have c6 := (Yc.out _ hb10).2.2.2.2.2.2
          go_wp2_with fail
          rcases hdis.out with ⟨hck, rfl⟩ | ⟨hck, hpos, -⟩
          · have HR := Lib.hid ((snap_iff s).1 hck)
            have H1 : Hid ((if snapCheck s = .nil then rowsL s.files else 0) = rowsL s.files) := Lib.hid (if_pos hck)
            have H2 : Hid ((if snapCheck s = .nil then keysL s.files else 0) = keysL s.files) := Lib.hid (if_pos hck)
            clear hck
            go_loop [10, 11, 12] (fun r q i => ∃ k : Nat, k ≤ nv ∧ i = .int .i64 k ∧ r = .int .i64 (rowsL (s.files.take k)) ∧ q = .int .i64 (keysL (s.files.take k))) (fun _ _ i => nv - (intOf i).toNat)
            case atStart => exact ⟨0, by omega, rfl, rfl, rfl⟩
            case round =>
              obtain ⟨k, hk, rfl, rfl, rfl⟩ := hrel
              by_cases hlt : k < nv
              case neg =>
                obtain rfl : k = nv := by omega
                have f : decide ((k : Int) < (k : Int)) = false := by simp
                have HT1 : Hid (s.files.take k = s.files) := Lib.hid (by rw [HNv.out, List.take_length])
                go_wp2_with fail
                go_meet
                exact ⟨by rw [H1.out, HT1.out], by rw [H2.out, HT1.out], rfl⟩
              obtain ⟨x, hxk⟩ := get_ex (l := s.files) (k := k) (by rw [← HNv.out]; exact hlt)
              obtain ⟨d0, d1, d2, d3, d4, d5⟩ := HX.out k x hxk
              have i1 := idx_at (c := cv) 6 Tryz.underlying56 szFl ha k hlt
              have hk1 : (k : Int) < (nv : Int) := by omega
              have hsn := rows_snoc hxk
              have hlow := rows_low (right_n HR.out.lst) k
              have hxn := right_n HR.out.lst x (List.mem_of_getElem? hxk)
              have hn60 : nv ≤ 60 := by rw [HNv.out]; exact HR.out.lst.len
              obtain ⟨b1, b2⟩ := hxn
              obtain ⟨q1, q2, q3, q4⟩ := hlow
              have q5 : rowsL (s.files.take k) ≤ 2400 := by omega
              have q6 : keysL (s.files.take k) ≤ 2400 := by omega
              obtain ⟨rr, hrr⟩ : ∃ rr, rowsL (s.files.take k) = rr := ⟨_, rfl⟩
              obtain ⟨kk, hkk⟩ : ∃ kk, keysL (s.files.take k) = kk := ⟨_, rfl⟩
              rw [hrr] at q1 q5 ⊢
              rw [hkk] at q3 q6 ⊢
              rw [hrr, hkk] at hsn
              clear q2 q4 hrr hkk
              by_cases he : x.part = [45]
              · have g : (x.part == [45]) = true := by simpa using he
                rw [if_pos he, if_pos he] at hsn
                have HSn := Lib.hid hsn
                clear hsn he hxk
                go_wp2_with fail
                go_round
                case rel => exact ⟨k + 1, by omega, by go_num, by rw [HSn.out.1]; simp, by rw [HSn.out.2]⟩
                case measure => simp [intOf]; omega
              · have g : (x.part == [45]) = false := by simpa using he
                rw [if_neg he, if_neg he] at hsn
                have HSn := Lib.hid hsn
                clear hsn he hxk
                go_wp2_with fail
                go_round
                case rel => exact ⟨k + 1, by omega, by go_num, by rw [HSn.out.1], by rw [HSn.out.2]; simp⟩
                case measure => simp [intOf]; omega
          · have H1 : Hid ((if snapCheck s = .nil then rowsL s.files else 0) = 0) := Lib.hid (if_neg hck)
            have H2 : Hid ((if snapCheck s = .nil then keysL s.files else 0) = 0) := Lib.hid (if_neg hck)
            have g : (cc == 0) = false := by simp; omega
            clear hck ha
            go_loop [10, 11, 12] (fun r q i => i = .int .i64 0 ∧ r = .int .i64 0 ∧ q = .int .i64 0) (fun _ _ _ => 0)
            case atStart => exact ⟨rfl, rfl, rfl⟩
            case round =>
              obtain ⟨rfl, rfl, rfl⟩ := hrel
              by_cases h0 : 0 < nv
              · have f : decide (0 < nv) = true := by simpa using h0
                go_wp2_with fail
                go_meet
                exact ⟨by rw [H1.out], by rw [H2.out], rfl⟩
              · have f : decide (0 < nv) = false := by simpa using h0
                clear h0
                go_wp2_with fail
                go_meet
                exact ⟨by rw [H1.out], by rw [H2.out], rfl⟩
        case rest =>
          obtain ⟨rfl, rfl, hwc⟩ := hcut
          rw [hwc]
          clear hwc HX hcm hc ha hnvl HNv hdis Htx
          have hRw := snapRows_any E B s (.slice au nu cu) wo ((Yx.out _ hb10).1.sub (by decide)) (Yx.out _ hb10).2.2.1 (Yx.out _ hb10).2.2.2.1 (Yu.out _ hb10) HS.out
          obtain ⟨R0, hR0⟩ : ∃ R0, (if snapCheck s = .nil then rowsL s.files else 0) = R0 := ⟨_, rfl⟩
          obtain ⟨K0, hK0⟩ : ∃ K0, (if snapCheck s = .nil then keysL s.files else 0) = K0 := ⟨_, rfl⟩
          rw [hR0, hK0] at hRw ⊢
          have HRw := Lib.hid hRw
          clear hRw hR0 hK0
          obtain ⟨c0, c1, c2, c3, c4, c5, c6⟩ := CO.out _ hb10
          go_wp2_with fail
          refine HRw.out.mono ?_
          rintro e w12 ⟨rfl, hb12⟩
          have hb12' := hb10.trans (hb12.mono hb10.size)
          have HgG12 := Lib.hid (keep hb12 HgG10.out)
          clear c0 c1 c2 c3 c4 c5 c6 hb12 HgG10 hb10 HRw
          have hRd := snapRead_any E B tx w12 ((Yx.out _ hb12').1.sub (by decide)) (Yx.out _ hb12').2.2.1 (Yx.out _ hb12').2.2.2.1 (by have := HTl.out; omega) (by have := HTl.out; omega)
          obtain ⟨sr, hsr⟩ : ∃ sr, (snapRead tx).1 = sr := ⟨_, rfl⟩
          obtain ⟨er, her⟩ : ∃ er, (snapRead tx).2 = er := ⟨_, rfl⟩
          rw [hsr, her] at hRd
          have HRd := Lib.hid hRd
          clear hRd
          go_wp2_with fail
          refine HRd.out.mono ?_
          rintro e w13 ⟨u20, ev20, rfl, hu20, hev20, hb13⟩
          obtain ⟨a20, n20, c20, rfl⟩ : ∃ a n c, u20 = .slice a n c := by
            obtain ⟨a', c', h', -⟩ := hu20.form'
            exact ⟨_, _, _, h'⟩
          have hb13' := hb12'.trans (hb13.mono hb12'.size)
          have HgG13 := Lib.hid (keep hb13 HgG12.out)
          have hbX : Below w13.heap.size w13 (w13.alloc (.cells #[.int .i64 sr.id, .int .i64 sr.parent, .int .i64 sr.seq, .int .i64 sr.day, .int .i64 sr.index, S sr.op, .slice a20 n20 c20] 58)) := (Below.refl _ _).alloc (Nat.le_refl _) _
          have CX := Lib.hid (fun W (h : Below (w13.alloc (.cells #[.int .i64 sr.id, .int .i64 sr.parent, .int .i64 sr.seq, .int .i64 sr.day, .int .i64 sr.index, S sr.op, .slice a20 n20 c20] 58)).heap.size (w13.alloc (.cells #[.int .i64 sr.id, .int .i64 sr.parent, .int .i64 sr.seq, .int .i64 sr.day, .int .i64 sr.index, S sr.op, .slice a20 n20 c20] 58)) W) => snapCells (s := sr) (v := .slice a20 n20 c20) (t := 58) h)
          have hXG : G < w13.heap.size := (Array.getElem?_eq_some_iff.1 HgG13.out).1
          have hu14 := hu20.below hbX
          have hev14 := hev20.below hbX
          have hb14' := hb13'.trans (hbX.mono hb13'.size)
          have HgG14 := Lib.hid (keep hbX HgG13.out)
          obtain ⟨Xb, hXb⟩ : ∃ Xb, w13.heap.size = Xb := ⟨_, rfl⟩
          rw [hXb] at CX hXG
          go_upto_region 21 with fail
          try rw [hXb]
          generalize w13.alloc (.cells #[.int .i64 sr.id, .int .i64 sr.parent, .int .i64 sr.seq, .int .i64 sr.day, .int .i64 sr.index, S sr.op, .slice a20 n20 c20] 58) = w14 at *
          clear HRd hb13 hb13' hb12' HgG12 HgG13 hu20 hev20 hbX hXb
          have hRS := refReadSnap_any tx w14 (by have := HTl.out; omega) (by have := HTl.out; omega)
          unfold ReadSnapPost at hRS
          rw [hsr, her, faultOf_agg] at hRS
          have HRS := Lib.hid hRS
          clear hRS
          have Hu14 := Lib.hid hu14; have Hev14 := Lib.hid hev14
          clear hu14 hev14
          go_wp2_with fail
          refine HRS.out.mono ?_
          rintro e w15 ⟨u21, rfl, hu21, hb15⟩
          obtain ⟨a21, n21, c21, rfl⟩ : ∃ a n c, u21 = .slice a n c := by
            obtain ⟨a', c', h', -⟩ := hu21.form'
            exact ⟨_, _, _, h'⟩
          obtain ⟨kc, hkc⟩ : ∃ kc : Int, ((er.code : Nat) : Int) = kc := ⟨_, rfl⟩
          obtain ⟨kp, hkp⟩ : ∃ kp : Int, er.place = kp := ⟨_, rfl⟩
          rw [hkc, hkp]
          have Hkc := Lib.hid hkc; have Hkp := Lib.hid hkp
          clear hkc hkp
          have hg15 := keep hb15 HgG14.out
          have d0 := two0 hg15
          have d1 := two1 hg15
          have e0 : w15.frozen? ⟨G, 0, none⟩ = false := unfr hg15
          have e1 : w15.frozen? ⟨G, 1, none⟩ = false := unfr hg15
          have hGlt : G < w15.heap.size := (Array.getElem?_eq_some_iff.1 hg15).1
          have KX := CX.out _ hb15
          have hs15 := hb14'.trans (hb15.mono hb14'.size)
          have hsS := (hs15.setCell (p := ⟨G, 0, none⟩) hwG (.int .i64 kc)).setCell (p := ⟨G, 1, none⟩) hwG (.int .i64 kp)
          have hevS := ErV.store2 (Hev14.out.below hb15) hg15 (.int .i64 kc) (.int .i64 kp)
          have huS := FilesAt.away' (Hu14.out.below hb15) hg15 (.int .i64 kc) (.int .i64 kp)
          have hvS := FilesAt.away' hu21 hg15 (.int .i64 kc) (.int .i64 kp)
          have hgS := set_two hg15 (.int .i64 kc) (.int .i64 kp)
          have K16 : ∀ (g : Nat), g ≠ G → ∀ j u, w15.cell? ⟨g, j, none⟩ = some u → ((w15.setCell ⟨G, 0, none⟩ (.int .i64 kc)).setCell ⟨G, 1, none⟩ (.int .i64 kp)).cell? ⟨g, j, none⟩ = some u := fun g hne j u h => by
            rw [World.cell?_setCell_other _ _ _ _ (fun e => hne (by cases e; rfl)), World.cell?_setCell_other _ _ _ _ (fun e => hne (by cases e; rfl))]
            exact h
          have KXS : _ ∧ _ ∧ _ ∧ _ ∧ _ ∧ _ ∧ _ := ⟨K16 Xb (by omega) _ _ KX.1, K16 Xb (by omega) _ _ KX.2.1, K16 Xb (by omega) _ _ KX.2.2.1, K16 Xb (by omega) _ _ KX.2.2.2.1, K16 Xb (by omega) _ _ KX.2.2.2.2.1, K16 Xb (by omega) _ _ KX.2.2.2.2.2.1, K16 Xb (by omega) _ _ KX.2.2.2.2.2.2⟩
          have hszS : ((w15.setCell ⟨G, 0, none⟩ (.int .i64 kc)).setCell ⟨G, 1, none⟩ (.int .i64 kp)).heap.size = w15.heap.size := by simp
          have H16 := Lib.hid (show ∀ wS, wS = ((w15.setCell ⟨G, 0, none⟩ (.int .i64 kc)).setCell ⟨G, 1, none⟩ (.int .i64 kp)) → Below w4.heap.size w4 (wS.alloc (.cells #[.int .i64 sr.id, .int .i64 sr.parent, .int .i64 sr.seq, .int .i64 sr.day, .int .i64 sr.index, S sr.op, .slice a21 n21 c21] 58)) ∧ ErV E (wS.alloc (.cells #[.int .i64 sr.id, .int .i64 sr.parent, .int .i64 sr.seq, .int .i64 sr.day, .int .i64 sr.index, S sr.op, .slice a21 n21 c21] 58)) ev20 er ∧ FilesAt (wS.alloc (.cells #[.int .i64 sr.id, .int .i64 sr.parent, .int .i64 sr.seq, .int .i64 sr.day, .int .i64 sr.index, S sr.op, .slice a21 n21 c21] 58)) (.slice a20 n20 c20) sr.files ∧ FilesAt (wS.alloc (.cells #[.int .i64 sr.id, .int .i64 sr.parent, .int .i64 sr.seq, .int .i64 sr.day, .int .i64 sr.index, S sr.op, .slice a21 n21 c21] 58)) (.slice a21 n21 c21) sr.files ∧ (wS.alloc (.cells #[.int .i64 sr.id, .int .i64 sr.parent, .int .i64 sr.seq, .int .i64 sr.day, .int .i64 sr.index, S sr.op, .slice a21 n21 c21] 58)).heap[G]? = some (.cells #[.int .i64 kc, .int .i64 kp] 62 (0, 0)) ∧ ((wS.alloc (.cells #[.int .i64 sr.id, .int .i64 sr.parent, .int .i64 sr.seq, .int .i64 sr.day, .int .i64 sr.index, S sr.op, .slice a21 n21 c21] 58)).cell? ⟨Xb, 0, none⟩ = some (.int .i64 sr.id) ∧ (wS.alloc (.cells #[.int .i64 sr.id, .int .i64 sr.parent, .int .i64 sr.seq, .int .i64 sr.day, .int .i64 sr.index, S sr.op, .slice a21 n21 c21] 58)).cell? ⟨Xb, 1, none⟩ = some (.int .i64 sr.parent) ∧ (wS.alloc (.cells #[.int .i64 sr.id, .int .i64 sr.parent, .int .i64 sr.seq, .int .i64 sr.day, .int .i64 sr.index, S sr.op, .slice a21 n21 c21] 58)).cell? ⟨Xb, 2, none⟩ = some (.int .i64 sr.seq) ∧ (wS.alloc (.cells #[.int .i64 sr.id, .int .i64 sr.parent, .int .i64 sr.seq, .int .i64 sr.day, .int .i64 sr.index, S sr.op, .slice a21 n21 c21] 58)).cell? ⟨Xb, 3, none⟩ = some (.int .i64 sr.day) ∧ (wS.alloc (.cells #[.int .i64 sr.id, .int .i64 sr.parent, .int .i64 sr.seq, .int .i64 sr.day, .int .i64 sr.index, S sr.op, .slice a21 n21 c21] 58)).cell? ⟨Xb, 4, none⟩ = some (.int .i64 sr.index) ∧ (wS.alloc (.cells #[.int .i64 sr.id, .int .i64 sr.parent, .int .i64 sr.seq, .int .i64 sr.day, .int .i64 sr.index, S sr.op, .slice a21 n21 c21] 58)).cell? ⟨Xb, 5, none⟩ = some (S sr.op) ∧ (wS.alloc (.cells #[.int .i64 sr.id, .int .i64 sr.parent, .int .i64 sr.seq, .int .i64 sr.day, .int .i64 sr.index, S sr.op, .slice a21 n21 c21] 58)).cell? ⟨Xb, 6, none⟩ = some (.slice a20 n20 c20)) ∧ ((wS.alloc (.cells #[.int .i64 sr.id, .int .i64 sr.parent, .int .i64 sr.seq, .int .i64 sr.day, .int .i64 sr.index, S sr.op, .slice a21 n21 c21] 58)).cell? ⟨w15.heap.size, 0, none⟩ = some (.int .i64 sr.id) ∧ (wS.alloc (.cells #[.int .i64 sr.id, .int .i64 sr.parent, .int .i64 sr.seq, .int .i64 sr.day, .int .i64 sr.index, S sr.op, .slice a21 n21 c21] 58)).cell? ⟨w15.heap.size, 1, none⟩ = some (.int .i64 sr.parent) ∧ (wS.alloc (.cells #[.int .i64 sr.id, .int .i64 sr.parent, .int .i64 sr.seq, .int .i64 sr.day, .int .i64 sr.index, S sr.op, .slice a21 n21 c21] 58)).cell? ⟨w15.heap.size, 2, none⟩ = some (.int .i64 sr.seq) ∧ (wS.alloc (.cells #[.int .i64 sr.id, .int .i64 sr.parent, .int .i64 sr.seq, .int .i64 sr.day, .int .i64 sr.index, S sr.op, .slice a21 n21 c21] 58)).cell? ⟨w15.heap.size, 3, none⟩ = some (.int .i64 sr.day) ∧ (wS.alloc (.cells #[.int .i64 sr.id, .int .i64 sr.parent, .int .i64 sr.seq, .int .i64 sr.day, .int .i64 sr.index, S sr.op, .slice a21 n21 c21] 58)).cell? ⟨w15.heap.size, 4, none⟩ = some (.int .i64 sr.index) ∧ (wS.alloc (.cells #[.int .i64 sr.id, .int .i64 sr.parent, .int .i64 sr.seq, .int .i64 sr.day, .int .i64 sr.index, S sr.op, .slice a21 n21 c21] 58)).cell? ⟨w15.heap.size, 5, none⟩ = some (S sr.op) ∧ (wS.alloc (.cells #[.int .i64 sr.id, .int .i64 sr.parent, .int .i64 sr.seq, .int .i64 sr.day, .int .i64 sr.index, S sr.op, .slice a21 n21 c21] 58)).cell? ⟨w15.heap.size, 6, none⟩ = some (.slice a21 n21 c21)) by
            rintro wS hwS
            rw [← hwS] at hsS hevS huS hvS hgS KXS hszS
            have hbW : Below wS.heap.size wS (wS.alloc (.cells #[.int .i64 sr.id, .int .i64 sr.parent, .int .i64 sr.seq, .int .i64 sr.day, .int .i64 sr.index, S sr.op, .slice a21 n21 c21] 58)) := (Below.refl _ _).alloc (Nat.le_refl _) _
            have KW := snapCells (s := sr) (v := .slice a21 n21 c21) (t := 58) (Below.refl (wS.alloc (.cells #[.int .i64 sr.id, .int .i64 sr.parent, .int .i64 sr.seq, .int .i64 sr.day, .int .i64 sr.index, S sr.op, .slice a21 n21 c21] 58)).heap.size _)
            rw [hszS] at KW
            have hc := fun j u (h : wS.cell? ⟨Xb, j, none⟩ = some u) => (hbW.cell (World.block_lt_of_cell? wS _ h)).trans h
            exact ⟨hsS.trans (hbW.mono hsS.size), hevS.below hbW, huS.below hbW, hvS.below hbW, keep hbW hgS, ⟨hc _ _ KXS.1, hc _ _ KXS.2.1, hc _ _ KXS.2.2.1, hc _ _ KXS.2.2.2.1, hc _ _ KXS.2.2.2.2.1, hc _ _ KXS.2.2.2.2.2.1, hc _ _ KXS.2.2.2.2.2.2⟩, KW⟩)
          clear KX hs15 hsS hevS huS hvS hgS K16 KXS hszS hb15 hu21 hg15 CX HRS
          obtain ⟨hs16, hev16, hu16, hv16, hg16, hkx, hkw⟩ := H16.out _ rfl
          have HKX := Lib.hid hkx; have HKW := Lib.hid hkw
          have Hev16 := Lib.hid hev16; have Hu16 := Lib.hid hu16; have Hv16 := Lib.hid hv16; have Hg16 := Lib.hid hg16; have Hs16 := Lib.hid hs16
          clear H16 hs16 hev16 hu16 hv16 hg16 hkx hkw
          go_upto_region 22 with fail
          clear d0 d1 e0 e1 hGlt
          obtain ⟨Wb, hWb⟩ : ∃ Wb, w15.heap.size = Wb := ⟨_, rfl⟩
          rw [hWb] at HKW ⊢
          clear hWb
          generalize ((w15.setCell ⟨G, 0, none⟩ (.int .i64 kc)).setCell ⟨G, 1, none⟩ (.int .i64 kp)).alloc (.cells #[.int .i64 sr.id, .int .i64 sr.parent, .int .i64 sr.seq, .int .i64 sr.day, .int .i64 sr.index, S sr.op, .slice a21 n21 c21] 58) = w16 at *
          obtain ⟨c0, c1, c2, c3, c4, c5, c6⟩ := HKX.out
          obtain ⟨d0, d1, d2, d3, d4, d5, d6⟩ := HKW.out
          have hsm := sameSnap_any sr sr (.slice a20 n20 c20) (.slice a21 n21 c21) w16 Hu16.out Hv16.out
          rw [decide_eq_true rfl] at hsm
          have HSm := Lib.hid hsm
          clear hsm
          go_wp2_with fail
          refine HSm.out.mono ?_
          rintro e w17 ⟨rfl, hb17⟩
          have hb17' := Hs16.out.trans (hb17.mono Hs16.out.size)
          have HgG17 := Lib.hid (keep hb17 Hg16.out)
          have Hev17 := Lib.hid (Hev16.out.below hb17)
          clear c0 c1 c2 c3 c4 c5 c6 d0 d1 d2 d3 d4 d5 d6 HSm HKX HKW Hu16 Hv16 Hev16 Hg16 hb17
          go_wp2_with fail
          refine (snapFirst_any w17).mono ?_
          rintro e w18 ⟨rfl, hb18⟩
          have hb18' := hb17'.trans (hb18.mono hb17'.size)
          have HgG18 := Lib.hid (keep hb18 HgG17.out)
          have Hev18 := Lib.hid (Hev17.out.below hb18)
          have hsm := sameSnap_any firstSn firstSn (.slice none 0 0) (.slice none 0 0) w18 (At.nil _ _ _) (At.nil _ _ _)
          rw [decide_eq_true rfl] at hsm
          have HSm := Lib.hid hsm
          clear hsm hb18 HgG17 Hev17
          go_wp2_with fail
          refine HSm.out.mono ?_
          rintro e w19 ⟨rfl, hb19⟩
          have hb19' := hb18'.trans (hb19.mono hb18'.size)
          have HgG19 := Lib.hid (keep hb19 HgG18.out)
          have Hev19 := Lib.hid (Hev18.out.below hb19)
          have c0 := two0 HgG19.out
          have c1 := two1 HgG19.out
          clear hb19 HgG18 Hev18 HSm
          go_wp2_with fail
          refine (told_any E B er _ _ _ _ (Yx.out _ hb19').1 (Yx.out _ hb19').2.1 hgB Hev19.out Hkc.out Hkp.out).mono ?_
          rintro e w20 ⟨rfl, hb20⟩
          go_wp2_with fail
          go_ret
          exact ⟨rfl, (Yx.out _ (hb19'.trans (hb20.mono hb19'.size))).2.2.2.2.2⟩
end Go.Proofs.YtcdcfolhnjgigaaGreatDoor
namespace Go.Proofs.YtcdcfolhnjgigaaGreatDoor
open Go.ChangeShapes Go.WideShapes Go.ChangeAt Go.WideMaps Go.WideElems Go.RowKit

theorem own : ownKnob Tryz.prog.godebug = none := by kernel_rfl

theorem snapTells_met (os : Os) (args : Array Value) : laidMetH Tryz.prog Rows.snapTellsRow.laid ((witW os Rows.snapTellsRow.laid).forCall (fun _ _ => 0) ⟨#[], args, []⟩).memory := by
  exact witW_met os Rows.snapTellsRow.laid args (by kernel_rfl) (by kernel_rfl) (by kernel_rfl)

def snapTellsIdx : Nat → Nat
  | 1 => 4
  | 2 => 5
  | 3 => 6
  | 4 => 7
  | 5 => 8
  | 6 => 9
  | 7 => 10
  | 8 => 11
  | 9 => 12
  | 10 => 13
  | 11 => 14
  | _ => 15

theorem snapTells_errs {W : World} (h : laidMet Tryz.prog (Rows.snapTellsRow.laid.filter fun x => x.2.handleName?.isNone) W) : Errs allE (addrOf W) W.heap.size W := by
  refine errs_of_laid h allE snapTellsIdx (by decide) ?_ ?_ ?_
  · intro c hc
    simp only [allE, List.mem_cons, List.mem_nil_iff, or_false] at hc
    rcases hc with rfl | rfl | rfl | rfl | rfl | rfl | rfl | rfl | rfl | rfl | rfl | rfl
    · exact gn1
    · exact gn2
    · exact gn3
    · exact gn4
    · exact gn5
    · exact gn6
    · exact gn7
    · exact gn8
    · exact gn9
    · exact gn10
    · exact gn11
    · exact gn12
  · intro c hc
    simp only [allE, List.mem_cons, List.mem_nil_iff, or_false] at hc
    rcases hc with rfl | rfl | rfl | rfl | rfl | rfl | rfl | rfl | rfl | rfl | rfl | rfl
    · exact gt1
    · exact gt2
    · exact gt3
    · exact gt4
    · exact gt5
    · exact gt6
    · exact gt7
    · exact gt8
    · exact gt9
    · exact gt10
    · exact gt11
    · exact gt12
  · intro c hc
    simp only [allE, List.mem_cons, List.mem_nil_iff, or_false] at hc
    rcases hc with rfl | rfl | rfl | rfl | rfl | rfl | rfl | rfl | rfl | rfl | rfl | rfl <;> exact ⟨_, rfl⟩

theorem snapTells_num {W : World} (h : laidMet Tryz.prog (Rows.snapTellsRow.laid.filter fun x => x.2.handleName?.isNone) W) (hsh : W.ShapedOpen Tryz.prog) : LNum W.heap.size W :=
  lnum_of (i := 2) (j := 17) (k := 16) h hsh (by kernel_rfl) (by rfl) (by rfl)

set_option maxRecDepth 100000 in
theorem snapTells_lifted (os : Os) (started : os.Started) (H : Type) (enc : TypeId × Value → H) :
    ReturnsInHanded {} Tryz.checked os 6 .any (fun w args => (Rows.snapTellsSpec.pre enc Tryz.prog Tryz.f6 [] false w args ∧ laidMetH Tryz.prog Rows.snapTellsRow.laid w) ∧ sizedMet enc Tryz.prog Tryz.f6 (OpenSpec.ofChange Rows.snapTellsSpec) false w args)
      (Rows.snapTellsSpec.post enc Tryz.prog Tryz.f6 false true false false) := by
  refine handed_both (C := Tryz.checked) (X := fun w _ => laidMetH Tryz.prog Rows.snapTellsRow.laid w) (fun _ _ _ hh h => h.of_heap hh) own started (by kernel_rfl) Tryz.func6
    (ChangeSpec.witness_shaped (enc := enc) (C := Tryz.checked) (os := os) (X := fun w _ => laidMetH Tryz.prog Rows.snapTellsRow.laid w) false (witW os Rows.snapTellsRow.laid) #[.agg #[.int .i64 0, .int .i64 0, .int .i64 0, .int .i64 0, .int .i64 0, .string ⟨#[]⟩, .slice none 0 0], .string ⟨#[]⟩] 8 (witW_os _ _)
      (World.shaped_of_ZipB (by kernel_rfl) (by kernel_rfl)) (by kernel_rfl) (by kernel_rfl) (by kernel_rfl) (snapTells_met os _)) ?_
  intro W base args ds gs before hval0 hW hL hsh
  have hval : ∀ (j : Nat) t v, Tryz.f6.params[j]? = some t → args[j]? = some v → Value.okWide Tryz.prog W .any base t v := hval0
  have hW' := hW
  obtain ⟨p, q, hA0, hV, rfl, _, _⟩ := hW
  have hA : DataW.TrodAll enc Tryz.prog W 0 (fun _ => true) true Tryz.f6.params.toList args.toList ds p := hA0
  rw [Tryz.params6] at hA hval
  obtain ⟨v1, v2, d1, d2, p1, p2, rfl, rfl, rfl, h1, h2⟩ := trodAll_two hA
  obtain ⟨rfl, rfl⟩ := trodVars_none hV
  simp only [List.append_nil] at hW'
  clear hA0 hval0
  have hlt : ∀ x ∈ p1 ++ p2, x.block < W.heap.size := fun x hx => by simpa using hW'.lt x (by simpa using hx)
  have h' : laidMet Tryz.prog (Rows.snapTellsRow.laid.filter fun x => x.2.handleName?.isNone) W ∧ handlesMet Tryz.prog (Rows.snapTellsRow.laid.filter fun x => x.2.handleName?.isSome) W := hL
  have hL' := h'.1
  have hAs : AsVar W := asVar_of_laid h'.2 (List.mem_filter.2 ⟨by simp [Rows.snapTellsRow, Rows.laid_errors_errorType], rfl⟩)
  have hgB : 13 < W.heap.size := World.block_lt_of_cell? W ⟨13, 0, none⟩ hAs
  obtain ⟨u1, l1, rfl, a1, b1⟩ := snap_came (hval 0 58 v1 rfl rfl) h1
  obtain ⟨l2, rfl, b2⟩ := str_came (hval 1 9 v2 rfl rfl) h2
  refine (snapTells_any (addrOf W) _ u1 l1 l2 W (snapTells_errs hL') hAs hgB (snapTells_num hL' hsh) (lmax_of hsh) a1 b2).mono fun e W' ⟨he, hb⟩ => ?_
  subst he
  refine ⟨_, rfl, _, _, _, [], p1 ++ p2, [], hW', ?_, ?_, ?_, hb.frame _, fun h => by cases h⟩
  · exact trodAll_mk1 (shut_bool Tryz.underlying4 true)
  · exact trodAll_mk2 (Below.trod laidOut (by kernel_rfl) (of_decide_eq_true (by kernel_rfl)) h1 hb (fun x hx => hlt x (by simp [hx]))) (Below.trod laidOut (by kernel_rfl) (of_decide_eq_true (by kernel_rfl)) h2 hb (fun x hx => hlt x (by simp [hx])))
  · rfl

theorem snapTells_inPlace : (Rows.snapTellsRow.inPlace == Tryz.pinned.checked.prog.inPlace 6) = true := by kernel_rfl

theorem snapTells_unfollowed : (Rows.snapTellsRow.unfollowed == Tryz.pinned.checked.prog.unfollowed 6) = true := by kernel_rfl

theorem snapTells_recurses : (Rows.snapTellsRow.recurses == Tryz.pinned.checked.prog.recurses 6) = true := by kernel_rfl

theorem snapTells_named : (Rows.snapTellsRow.named == Tryz.pinned.checked.prog.varsNamed 6) = true := by kernel_rfl

theorem snapTells_facts : joinedFacts Tryz.pinned.checked.prog 6 Tryz.f6 Rows.snapTellsSpec Rows.snapTellsRow = true := by
  unfold joinedFacts
  rw [snapTells_inPlace, snapTells_unfollowed, snapTells_recurses, snapTells_named]
  kernel_rfl

theorem snapTells_holds : Rows.SnapTellsSaid :=
  OpenClaim.holds_of_wide 6 Tryz.f6 rfl rfl rfl rfl rfl rfl rfl ⟨rfl, rfl, rfl, rfl, rfl⟩ rfl rfl rfl rfl rfl (by kernel_rfl) Tryz.func6 snapTells_facts
    (of_decide_eq_true (by kernel_rfl)) (by unfold Func.isWrapper; first | (rw [if_pos (by decide +kernel)]; kernel_rfl) | (rw [if_neg (by decide +kernel)]; exact ⟨rfl, rfl⟩))
    (fun os started H enc _ => snapTells_lifted os started H enc)

theorem snapTells_card_holds : Rows.SnapTellsCardSaid :=
  Claim7.holds_tied_plain_at .later [] Rows.snapTellsCard.laidKinds true Rows.snapTellsCard.stood.harness true
    snapTells_holds (fun _ h => by cases h) (by kernel_rfl) (fun _ h => by cases h) snapTells_row_tie rfl ⟨rfl, rfl⟩ (by kernel_rfl) rfl
    (fun f fn hf hfn => by
      obtain rfl : f = 6 := Option.some.inj ((show Tryz.prog.funcNamed "deedbox/deedboxlaw2.SnapTells" = some 6 by kernel_rfl).symm.trans hf) |>.symm
      obtain rfl : fn = Tryz.f6 := (Option.some.inj (Tryz.func6.symm.trans hfn)).symm
      exact ⟨by kernel_rfl, fun j t ht => by
        rw [Tryz.params6] at ht
        have hm : t ∈ [58, 9] := by simpa using Array.mem_of_getElem? ht
        have hall : ([58, 9].all fun u => !Tryz.prog.wantsStandIn u) = true := by kernel_rfl
        exact (show Tryz.prog.wantsStandIn t = false by simpa using List.all_eq_true.1 hall t hm)⟩)
    (by kernel_rfl)
#print axioms snapTells_card_holds
end Go.Proofs.YtcdcfolhnjgigaaGreatDoor
