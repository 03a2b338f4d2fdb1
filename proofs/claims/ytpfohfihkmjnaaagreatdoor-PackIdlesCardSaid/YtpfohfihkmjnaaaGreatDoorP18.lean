/- deedboxref1's KeysOf, DataOf, ReadData: the walks. Printed by gen_refdata.py. deedboxref1.OfText: the walk. -/
import Derived.Test.YtpfohfihkmjnaaaGreatDoorP17
import Derived.Test.YtpfohfihkmjnaaaGreatDoorP13
import Derived.Test.YtpfohfihkmjnaaaGreatDoorP11
import Derived.Test.YtpfohfihkmjnaaaGreatDoorP14
namespace Go.Proofs.YtpfohfihkmjnaaaGreatDoor
open Go.RowKit

set_option maxHeartbeats 2000000 in
set_option maxRecDepth 20000 in
theorem refKeys_any (v : Value) (l : List Rw) (w : World) (hl : RowsAt w v l) (hn : l.length ≤ 100000) :
    Calls Tryz.prog 75 #[v] w fun e w' => ∃ u, e = .returned u ∧ Own encI 3 1 w.heap.size w' u (keysR l) ∧ Below w.heap.size w w' := by
  obtain ⟨a, c, b, o, rfl, ha, hc, hcm, hx⟩ := hl
  unfold maxLen at hcm
  have HX := Lib.hid hx
  clear hx
  go_enter Tryz.func75, Tryz.ntmps75
  go_wp2_with fail
  go_loopw [3, 4] (fun u i wr => ∃ (k : Nat) (va : Value), k ≤ l.length ∧ i = .int .i64 k ∧ va = u ∧ Own encI 3 1 w.heap.size wr va (keysR (l.take k)) ∧ Below w.heap.size w wr) (fun _ i _ => l.length - (intOf i).toNat)
  case atStart => exact ⟨0, _, by omega, rfl, rfl, Own.nil _ _ _ _ _, Below.refl _ _⟩
  case round =>
    obtain ⟨k, va, hk, rfl, rfl, hown, hb⟩ := hrel
    obtain ⟨wo, rfl⟩ : ∃ wo, wo = wr := ⟨wr, rfl⟩
    have HO := Lib.hid hown
    by_cases hlt : k < l.length
    case neg =>
      obtain rfl : k = l.length := by omega
      have f : decide ((l.length : Int) < (l.length : Int)) = false := by simp
      clear hown
      go_wp2_with fail
      go_ret
      exact ⟨_, rfl, by have := HO.out; rwa [List.take_length] at this, hb⟩
    have hk1 : (k : Int) < (l.length : Int) := by omega
    obtain ⟨x, hxk⟩ := get_ex hlt
    obtain ⟨c0, c1, c2⟩ := rwCells HX.out hb hxk
    have i1 := idx_at (c := c) 3 Tryz.underlying44 szRw ha k hlt
    have HSn : Hid (keysR (l.take (k + 1)) = keysR (l.take k) ++ [x.key]) := Lib.hid (by rw [take_snoc' hxk]; simp [keysR])
    have hql : (keysR (l.take k)).length = k := by simp [keysR]; omega
    generalize keysR (l.take k) = q at *
    have HQl := Lib.hid hql
    clear hql hown hxk
    go_wp2_with (at_builtin; refine wpList_app rfl _ _ _ rfl w.heap.size elInt va q.length _ rfl (HO.out.alloc _) (.slice (some ⟨wo.heap.size, 0, none⟩) 1 1) 1 (encI x.key) rfl (src_one rfl rfl (by simp [Value.oneCell'])) (by rw [HQl.out]; unfold maxLen; omega) (by rw [HQl.out]; omega) (by have := hb.size; simp; omega) ?_; intro v5 w5 hown5 hg5 _)
    go_roundw
    case rel => exact ⟨k + 1, _, by omega, by go_num, rfl, by rw [HSn.out]; exact Own.snoc hown5, Bapp (hb.alloc hb.size _) (HO.out.alloc _) hg5 (Nat.le_refl _) (by have := hb.size; simp; omega)⟩
    case measure => simp [intOf]; omega
set_option maxHeartbeats 4000000 in
set_option maxRecDepth 20000 in
theorem dataOf_any (v : Value) (l : List Rw) (w : World) (hl : RowsAt w v l) (hn : l.length ≤ 1000) (hs : ∀ r ∈ l, r.part.length ≤ 100000) :
    Calls Tryz.prog 32 #[v] w fun e w' => e = .returned (.tuple #[S (makeT l), faultOf (makeE l)]) ∧ Below w.heap.size w w' := by
  have hba : Below w.heap.size w (w.alloc (.cells #[.int .i64 0, .int .i64 0] 58)) := (Below.refl w.heap.size w).alloc (Nat.le_refl _) (.cells #[.int .i64 0, .int .i64 0] 58)
  have hG := fun W (h : Below (w.alloc (.cells #[.int .i64 0, .int .i64 0] 58)).heap.size (w.alloc (.cells #[.int .i64 0, .int .i64 0] 58)) W) => ((h.block w.heap.size (by simp)).trans (heap_alloc_new w (.cells #[.int .i64 0, .int .i64 0] 58)))
  have HG := Lib.hid hG; clear hG
  have HSz : Hid ((w.alloc (.cells #[.int .i64 0, .int .i64 0] 58)).heap.size = w.heap.size + 1) := Lib.hid (by simp)
  have HR := Lib.hid (fun W (h : Below w.heap.size w W) => hl.below h)
  obtain ⟨a, c, b, o, rfl, ha, hc, hcm, hx⟩ := hl
  unfold maxLen at hcm
  have HX := Lib.hid hx
  have HS := Lib.hid hs
  clear hx hs
  go_enter Tryz.func32, Tryz.ntmps32
  go_upto_region 1 with fail
  generalize w.alloc (.cells #[.int .i64 0, .int .i64 0] 58) = w0 at *
  have hb0r : Below w0.heap.size w0 w0 := Below.refl _ _
  by_cases h40 : 40 < l.length
  case pos =>
    have g : (40 : Int) < (l.length : Int) := by omega
    have HM := Lib.hid (makeE_full h40)
    have HMt : Hid (makeT l = []) := Lib.hid (makeT_bad (by rw [HM.out]; simp))
    clear h40
    go_wp2_with fail
    refine (refBare_any 8 _).mono ?_
    rintro e wB ⟨rfl, hbB⟩
    have hb0B := (hb0r).trans (hbB.mono (hb0r).size)
    have hbwB := (hba).trans (hbB.mono (hba).size)
    have hg := HG.out _ (hb0B)
    have c0' : wB.cell? ⟨w.heap.size, 0, none⟩ = some (.int .i64 0) := by simp [World.cell?, hg]
    have c1' : wB.cell? ⟨w.heap.size, 1, none⟩ = some (.int .i64 0) := by simp [World.cell?, hg]
    have f0' : wB.frozen? ⟨w.heap.size, 0, none⟩ = false := by simp [World.frozen?, hg]
    have f1' : wB.frozen? ⟨w.heap.size, 1, none⟩ = false := by simp [World.frozen?, hg]
    have HGg := Lib.hid hg; clear hg
    unfold faultV
    go_wp2_with fail
    refine bodyPost_ret (fault_tc (g := w.heap.size) rfl rfl (set_two HGg.out _ _) rfl) rfl ⟨by rw [HMt.out, HM.out]; rfl, ((hbwB).setCell (by simp) _).setCell (by simp) _⟩
  have g : decide ((40 : Int) < (l.length : Int)) = false := by simp; omega
  have hn40 : l.length ≤ 40 := by omega
  have H40 := Lib.hid h40
  clear h40
  go_upto_block 0 with fail
  go_cut [4] (fun u wx => Hid (∀ j < l.length, rowF l j = 0) ∧ Below w0.heap.size w0 wx)
  case first =>
    go_wp2_with fail
    go_loopw [2, 4] (fun r i wr => r = S [] ∧ ∃ k : Nat, k ≤ l.length ∧ i = .int .i64 k ∧ Hid (∀ j < k, rowF l j = 0) ∧ Below w0.heap.size w0 wr) (fun _ i _ => l.length - (intOf i).toNat)
    case atStart => exact ⟨rfl, 0, by omega, rfl, Lib.hid fun j hj => absurd hj (by omega), hb0r⟩
    case round =>
      obtain ⟨rfl, k, hk, rfl, hj, hb⟩ := hrel
      obtain ⟨wo, rfl⟩ : ∃ wo, wo = wr := ⟨wr, rfl⟩
      have hbwo := hba.trans (hb.mono hba.size)
      by_cases hlt : k < l.length
      case neg =>
        obtain rfl : k = l.length := by omega
        have f : decide ((l.length : Int) < (l.length : Int)) = false := by simp
        go_wp2_with fail
        go_meet
        exact ⟨hj, hb⟩
      have hk1 : (k : Int) < (l.length : Int) := by omega
      obtain ⟨x, hxk⟩ := get_ex hlt
      obtain ⟨c0, c1, c2⟩ := rwCells HX.out hbwo hxk
      have i1 := idx_at (c := c) 3 Tryz.underlying44 szRw ha k hlt
      have HRe := Lib.hid (rowError_any x wo (HS.out x (List.mem_of_getElem? hxk)))
      have HBd := Lib.hid (fun h => makeE_bad H40.out hxk hj.out h)
      have HFx : Hid (rowF l k = rowCheck x) := Lib.hid (by unfold rowF; rw [hxk])
      generalize rowCheck x = cx at *
      clear hxk
      by_cases hck : cx = 0
      case neg =>
        have HM := Lib.hid (HBd.out hck)
        have HMt : Hid (makeT l = []) := Lib.hid (makeT_bad (by rw [HM.out]; simp))
        have g1 : (0 : Int) < (cx : Int) := by omega
        clear hck
        go_wp2_with fail
        refine HRe.out.mono ?_
        rintro e w3 ⟨rfl, hb3⟩
        have hb03 := hb.trans (hb3.mono hb.size)
        have hbw3 := hbwo.trans (hb3.mono hbwo.size)
        clear c0 c1 c2
        have hg := HG.out _ (hb03)
        have c0' : w3.cell? ⟨w.heap.size, 0, none⟩ = some (.int .i64 0) := by simp [World.cell?, hg]
        have c1' : w3.cell? ⟨w.heap.size, 1, none⟩ = some (.int .i64 0) := by simp [World.cell?, hg]
        have f0' : w3.frozen? ⟨w.heap.size, 0, none⟩ = false := by simp [World.frozen?, hg]
        have f1' : w3.frozen? ⟨w.heap.size, 1, none⟩ = false := by simp [World.frozen?, hg]
        have HGg := Lib.hid hg; clear hg
        go_wp2_with fail
        refine bodyPost_ret (fault_tc (g := w.heap.size) rfl rfl (set_two HGg.out _ _) rfl) rfl ⟨by rw [HMt.out, HM.out]; rfl, ((hbw3).setCell (by simp) _).setCell (by simp) _⟩
      have HJ1 : Hid (∀ j < k + 1, rowF l j = 0) := Lib.hid fun j hj' => (by
        rcases Nat.lt_or_ge j k with h | h
        · exact hj.out j h
        · obtain rfl : j = k := by omega
          rw [HFx.out]; exact hck)
      have g1 : decide ((0 : Int) < (cx : Int)) = false := by simp; omega
      have g2 : decide (0 < cx) = false := by simp; omega
      clear hck HFx HBd
      go_wp2_with fail
      refine HRe.out.mono ?_
      rintro e w3 ⟨rfl, hb3⟩
      go_wp2_with fail
      go_roundw
      case rel => exact ⟨rfl, k + 1, by omega, by go_num, HJ1, hb.trans (hb3.mono hb.size)⟩
      case measure => simp [intOf]; omega
  case rest =>
    obtain ⟨hj, hb1⟩ := hcut
    obtain ⟨w1, rfl⟩ : ∃ w1, w1 = wc := ⟨wc, rfl⟩
    have hbw1 := hba.trans (hb1.mono hba.size)
    have hm := makeE_fine H40.out hj.out
    have HM := Lib.hid hm
    have HMt := Lib.hid (makeT_fine hm)
    obtain ⟨hr1, hr2, -⟩ := make_right hm
    have HR2 := Lib.hid hr2
    have HKn := Lib.hid (keysR_near (l := l) (makeE_nil hm).2)
    have HSo := Lib.hid (refSortRows_any _ l w1 (HR.out _ hbw1) (by omega))
    clear hm hr2
    generalize sortR l = q at *
    go_wp2_with fail
    refine HSo.out.mono ?_
    rintro e w2 ⟨u, rfl, hat, hb2⟩
    have hb02 := hb1.trans (hb2.mono hb1.size)
    obtain ⟨a2, c2, b2, o2, rfl, ha2, hc2, hcm2, hx2⟩ := hat
    unfold maxLen at hcm2
    have HX2 := Lib.hid hx2
    clear hx2 HSo
    have hlen : ∀ k, (bodyT ((q.take k).map rowLine)).length ≤ 2440 := fun k => by
      have hbl := body_len (m := 60) (ls := (q.take k).map rowLine) fun s hs => by
        obtain ⟨r, hr, rfl⟩ := List.mem_map.1 hs
        exact rowLine_len' (HR2.out r (List.mem_of_mem_take hr))
      rw [List.length_map, List.length_take] at hbl
      omega
    have HLen := Lib.hid hlen
    clear hlen
    go_wp2_with fail
    go_loopw [7, 8] (fun u i wr => ∃ k : Nat, k ≤ q.length ∧ i = .int .i64 k ∧ u = S (bodyT ((q.take k).map rowLine)) ∧ Below w2.heap.size w2 wr) (fun _ i _ => q.length - (intOf i).toNat)
    case atStart => exact ⟨0, by omega, rfl, rfl, Below.refl _ _⟩
    case round =>
      obtain ⟨k, hk, rfl, rfl, hb⟩ := hrel
      obtain ⟨wo, rfl⟩ : ∃ wo, wo = wr := ⟨wr, rfl⟩
      have hb0o := hb02.trans (hb.mono hb02.size)
      have hbwo := hba.trans (hb0o.mono hba.size)
      by_cases hlt : k < q.length
      case neg =>
        obtain rfl : k = q.length := by omega
        have f : decide ((q.length : Int) < (q.length : Int)) = false := by simp
        have hl880 := HLen.out q.length
        rw [List.take_length] at hl880 ⊢
        have hkl : (keysR l).length = l.length := by simp [keysR]
        obtain ⟨e1, e2⟩ := ends_within (l := keysR l) (B := 1073741824) (by omega) fun x hx => near (HKn.out x hx)
        have HKs := Lib.hid (refKeys_any _ l wo (HR.out _ hbwo) (by omega))
        have HWt := Lib.hid (fun W u (hu : IntsAt W u (keysR l)) => wholeText_any kData u (keysR l) (bodyT (q.map rowLine)) W hu (by decide) (by omega) (by omega) (by omega))
        clear e1 e2 hkl
        generalize bodyT (q.map rowLine) = bd at *
        go_wp2_with fail
        refine HKs.out.mono ?_
        rintro e w3 ⟨u, rfl, hu, hb3⟩
        have hb03 := hb0o.trans (hb3.mono hb0o.size)
        have HWt3 := Lib.hid (HWt.out w3 u (hu.at encI_enc))
        clear hu
        go_wp2_with fail
        refine HWt3.out.mono ?_
        rintro e w4 ⟨rfl, hb4⟩
        have hb04 := hb03.trans (hb4.mono hb03.size)
        have hbw4 := hba.trans (hb04.mono hba.size)
        go_wp2_with fail
        refine (refFine_any _).mono ?_
        rintro e wB ⟨rfl, hbB⟩
        have hb0B := (hb04).trans (hbB.mono (hb04).size)
        have hbwB := (hbw4).trans (hbB.mono (hbw4).size)
        have hg := HG.out _ (hb0B)
        have c0' : wB.cell? ⟨w.heap.size, 0, none⟩ = some (.int .i64 0) := by simp [World.cell?, hg]
        have c1' : wB.cell? ⟨w.heap.size, 1, none⟩ = some (.int .i64 0) := by simp [World.cell?, hg]
        have f0' : wB.frozen? ⟨w.heap.size, 0, none⟩ = false := by simp [World.frozen?, hg]
        have f1' : wB.frozen? ⟨w.heap.size, 1, none⟩ = false := by simp [World.frozen?, hg]
        have HGg := Lib.hid hg; clear hg
        unfold faultV
        go_wp2_with fail
        refine bodyPost_ret (fault_tc (g := w.heap.size) rfl rfl (set_two HGg.out _ _) rfl) rfl ⟨by rw [HMt.out, HM.out]; rfl, ((hbwB).setCell (by simp) _).setCell (by simp) _⟩
      obtain ⟨x, hxk⟩ := get_ex hlt
      obtain ⟨d0, d1, d2⟩ := rwCells HX2.out hb hxk
      have i1 := idx_at (c := c2) 3 Tryz.underlying44 szRw ha2 k hlt
      have f : (k : Int) < (q.length : Int) := by omega
      have hrx := HR2.out x (List.mem_of_getElem? hxk)
      have hpl := rowLine_part hrx
      have htl := rowLine_len' hrx
      have hD := refRowText_any x wo (by omega)
      rw [rowText_fine hrx] at hD
      have HD := Lib.hid hD
      have hbl := HLen.out k
      have HSn : Hid (bodyT ((q.take (k + 1)).map rowLine) = (bodyT ((q.take k).map rowLine) ++ rowLine x) ++ [10]) := Lib.hid (by
        rw [take_snoc' hxk, List.map_append, List.map_cons, List.map_nil, bodyT_snoc]; simp)
      clear hxk hrx hD
      generalize rowLine x = tx at *
      generalize bodyT ((q.take k).map rowLine) = bd at *
      have app : ∀ (p q : Str), p.length + q.length ≤ 1000000 → ∀ W, (Op.stringOp .add ⟨p.toArray⟩ ⟨q.toArray⟩).run Tryz.prog W = .ok (.string ⟨(p ++ q).toArray⟩) W := fun p q h W => by
        have := cat_run ⟨p.toArray⟩ ⟨q.toArray⟩ p.length q.length rfl rfl h W
        rwa [S_app] at this
      have a1 := app bd tx (by omega)
      have a2 := app (bd ++ tx) [10] (by simp; omega)
      clear app
      generalize hA1 : bd ++ tx = A1 at *
      generalize hA2 : A1 ++ [10] = A2 at *
      clear hA1 hA2
      go_wp2_with fail
      refine HD.out.mono ?_
      rintro e w3 ⟨rfl, hb3⟩
      go_wp2_with fail
      go_roundw
      case rel => exact ⟨k + 1, by omega, by go_num, by rw [HSn.out], hb.trans (hb3.mono hb.size)⟩
      case measure => simp [intOf]; omega
def RdPost (w : World) (s : Str) (e : Ending) (w' : World) : Prop := ∃ u, e = .returned (.tuple #[u, faultOf (dataE s)]) ∧ FarR w.heap.size w' u (dataL s) ∧ Below w.heap.size w w'
theorem rd_bad {w W : World} {s : Str} {tmps : Array Value} {cc pp : Int} (h2 : tmps.getD 2 undef = .slice none 0 0) (hp : tmps.getD 3 undef = .pointer (some ⟨w.heap.size, 0, none⟩)) (hne : dataE s ≠ .nil) (hcc : ((dataE s).code : Int) = cc) (hpp : (dataE s).place = pp)
    (hF : W.heap[w.heap.size]? = some (.cells #[.int .i64 0, .int .i64 0] 58 (0, 0))) (hb : Below w.heap.size w W) :
    bodyPost Tryz.prog Tryz.f80 (RdPost w s) .ret ⟨tmps, []⟩ ((W.setCell ⟨w.heap.size, 0, none⟩ (.int .i64 cc)).setCell ⟨w.heap.size, 1, none⟩ (.int .i64 pp)) := by
  subst hcc hpp
  refine bodyPost_ret (fault_tc (g := w.heap.size) rfl hp (set_two hF _ _) h2) rfl ⟨_, rfl, ?_, ((hb).setCell (by simp) _).setCell (by simp) _⟩
  rw [show dataL s = [] from if_neg hne]
  exact fun _ _ => At.nil _ _ _
theorem rd_bad_drew {w W : World} {s : Str} {tmps : Array Value} {cc pp : Int} (h2 : tmps.getD 2 undef = .slice none 0 0) (hp : tmps.getD 3 undef = .pointer (some ⟨w.heap.size, 0, none⟩)) (hne : dataE s ≠ .nil) (hcc : ((dataE s).code : Int) = cc) (hpp : (dataE s).place = pp)
    (hF : W.heap[w.heap.size]? = some (.cells #[.int .i64 0, .int .i64 0] 58 (0, 0))) (hb : Below w.heap.size w W) :
    bodyPost Tryz.prog Tryz.f80 (RdPost w s) .ret ⟨tmps, []⟩ ((W.setCell ⟨w.heap.size, 0, none⟩ (.int .i64 cc)).setCell ⟨w.heap.size, 1, none⟩ (.int .i64 pp)).drew := by
  subst hcc hpp
  refine bodyPost_ret (fault_tc (g := w.heap.size) rfl hp (by rw [World.heap_drew]; exact set_two hF _ _) h2) rfl ⟨_, rfl, ?_, Bdn (((hb).setCell (by simp) _).setCell (by simp) _) 1⟩
  rw [show dataL s = [] from if_neg hne]
  exact fun _ _ => At.nil _ _ _
set_option maxHeartbeats 8000000 in
set_option maxRecDepth 20000 in
theorem readData_any (s : Str) (w : World) (hs : s.length ≤ 10000 ∨ 20000 < s.length) (hs2 : s.length ≤ 50000) :
    Calls Tryz.prog 80 #[S s] w (RdPost w s) := by
  have hba : Below w.heap.size w (w.alloc (.cells #[.int .i64 0, .int .i64 0] 58)) := (Below.refl w.heap.size w).alloc (Nat.le_refl _) (.cells #[.int .i64 0, .int .i64 0] 58)
  have hG := fun W (h : Below (w.alloc (.cells #[.int .i64 0, .int .i64 0] 58)).heap.size (w.alloc (.cells #[.int .i64 0, .int .i64 0] 58)) W) => ((h.block w.heap.size (by simp)).trans (heap_alloc_new w (.cells #[.int .i64 0, .int .i64 0] 58)))
  have HG := Lib.hid hG; clear hG
  have HSz : Hid ((w.alloc (.cells #[.int .i64 0, .int .i64 0] 58)).heap.size = w.heap.size + 1) := Lib.hid (by simp)
  obtain ⟨hll, -⟩ := splitL_len hs2
  have hlm : splitE kData s = .nil → ∀ x ∈ splitL s, x.length ≤ 10000 := fun h => (splitL_len (m := 10000) (by rcases hs with h1 | h1; exact h1; rw [splitE_long h1] at h; cases h)).2
  have hne0 := splitL_ne s
  have HE0 : Hid (splitE kData s ≠ .nil → dataE s = splitE kData s) := Lib.hid readEr_split
  have HCd := Lib.hid (@splitE_code kData s)
  have HF4 := Lib.hid (@splitN_four kData s)
  have HEh : Hid (splitE kData s = .nil → eachEr (dataBad (splitL s)) (splitL s) = .nil → dataE s = headEr (splitN kData s) (keysR ((splitL s).dropLast.map rowD))) := Lib.hid readEr_head
  have HEe : Hid (splitE kData s = .nil → eachEr (dataBad (splitL s)) (splitL s) ≠ .nil → dataE s = eachEr (dataBad (splitL s)) (splitL s)) := Lib.hid readEr_each
  have HL : Hid (dataL s = if dataE s = .nil then (splitL s).dropLast.map rowD else []) := Lib.hid rfl
  go_enter Tryz.func80, Tryz.ntmps80
  go_upto_region 1 with fail
  generalize w.alloc (.cells #[.int .i64 0, .int .i64 0] 58) = w0 at *
  have HSt := Lib.hid (splitText_any kData s w0 (by omega))
  unfold SplitPost at HSt
  generalize splitN kData s = ns at *
  generalize splitL s = ls at *
  go_wp2_with fail
  refine HSt.out.mono ?_
  rintro e w1 ⟨u, v, rfl, hgood, hb1⟩
  have hbw1 := hba.trans (hb1.mono hba.size)
  clear HSt
  rw [show faultOf (splitE kData s) = .agg #[.int .i64 ((splitE kData s).code : Int), .int .i64 (splitE kData s).place] from rfl]
  obtain ⟨cc, hcc⟩ : ∃ cc : Int, ((splitE kData s).code : Int) = cc := ⟨_, rfl⟩
  obtain ⟨pp, hpp⟩ : ∃ pp : Int, (splitE kData s).place = pp := ⟨_, rfl⟩
  rw [hcc, hpp]
  have hbF : Below w1.heap.size w1 (w1.alloc (.cells #[.int .i64 cc, .int .i64 pp] 58)) := (Below.refl _ _).alloc (Nat.le_refl _) _
  have d0 : (w1.alloc (.cells #[.int .i64 cc, .int .i64 pp] 58)).cell? ⟨w1.heap.size, 0, none⟩ = some (.int .i64 cc) := freshCell (Below.refl _ _) 0 rfl
  have d1 : (w1.alloc (.cells #[.int .i64 cc, .int .i64 pp] 58)).cell? ⟨w1.heap.size, 1, none⟩ = some (.int .i64 pp) := freshCell (Below.refl _ _) 1 rfl
  have hgT := heap_alloc_new w1 (.cells #[.int .i64 cc, .int .i64 pp] 58)
  have h1z : w1.heap.size < (w1.alloc (.cells #[.int .i64 cc, .int .i64 pp] 58)).heap.size := by simp
  have h0z := HSz.out
  have h01 := hb1.size
  obtain ⟨T, hT⟩ : ∃ T, w1.heap.size = T := ⟨_, rfl⟩
  rw [hT] at d0 d1 hgT h1z h01
  go_upto_region 2 with fail
  generalize w1.alloc (.cells #[.int .i64 cc, .int .i64 pp] 58) = w2 at *
  have hb12 := hb1.trans (hbF.mono hb1.size)
  have hbw2 := hba.trans (hb12.mono hba.size)
  have n1 : ¬ (T = w.heap.size) := by omega
  have n3 : ¬ (w.heap.size = T) := by omega
  by_cases h0 : splitE kData s = .nil
  case neg =>
    have hpos : (0 : Int) < cc := by have := HCd.out h0; omega
    have HNe : Hid (dataE s = splitE kData s) := Lib.hid (HE0.out h0)
    have HN0 := Lib.hid h0
    have HCc := Lib.hid hcc
    have HPp := Lib.hid hpp
    clear h0 hcc hpp hgood hgT
    have hg := HG.out _ (hb12)
    have c0' : w2.cell? ⟨w.heap.size, 0, none⟩ = some (.int .i64 0) := by simp [World.cell?, hg]
    have c1' : w2.cell? ⟨w.heap.size, 1, none⟩ = some (.int .i64 0) := by simp [World.cell?, hg]
    have f0' : w2.frozen? ⟨w.heap.size, 0, none⟩ = false := by simp [World.frozen?, hg]
    have f1' : w2.frozen? ⟨w.heap.size, 1, none⟩ = false := by simp [World.frozen?, hg]
    have HGg := Lib.hid hg; clear hg
    go_wp2_with fail
    go_region_law (fail)
    all_goals
      go_wp2_with fail
      exact rd_bad_drew rfl rfl (by rw [HNe.out]; exact HN0.out) (by rw [HNe.out]; exact HCc.out) (by rw [HNe.out]; exact HPp.out) HGg.out hbw2
  have hcc0 : cc = 0 := by rw [← hcc, h0]; rfl
  subst hcc0
  obtain ⟨hon, hol⟩ := hgood h0
  obtain ⟨m0, m1, m2, m3, hns⟩ := HF4.out h0
  have HEh2 : Hid (eachEr (dataBad ls) ls = .nil → dataE s = headEr [m0, m1, m2, m3] (keysR (ls.dropLast.map rowD))) := Lib.hid fun h => by rw [HEh.out h0 h, hns]
  have HE2 : Hid (∀ {c k : Nat}, firstErr (lineF (dataBad ls) ls) ls.length = .loc c k → dataE s = .loc c k) := Lib.hid fun h => (HEe.out h0 (by unfold eachEr; rw [h]; simp)).trans h
  rw [hns] at hon
  have HU := Lib.hid (fun W (h : Below w1.heap.size w1 W) => hon.below h)
  obtain ⟨au, cu, rfl, -, -⟩ := hon.form'
  obtain ⟨a, c, b, o, rfl, ha, hc, hcm, hx⟩ := hol
  unfold maxLen at hcm
  have HX := Lib.hid hx
  have HLm := Lib.hid (hlm h0)
  have hlpos : 0 < ls.length := List.length_pos_iff.2 hne0
  obtain rfl := ha hlpos
  have TS := Lib.hid (fun W (h : Below w2.heap.size w2 W) => (h.block T (Array.getElem?_eq_some_iff.1 hgT).1).trans hgT)
  clear hx hcc hpp hon h0 hns hgood hgT HE0 HCd HF4 HEh HEe hne0 hlm ha
  have hl4 : [m0, m1, m2, m3].length = 4 := rfl
  rw [hl4]
  clear hl4
  go_wp2_with fail
  go_loopw [2, 7, 8] (fun r out i wr => r = .slice none 0 0 ∧ ∃ k : Nat, k < ls.length ∧ i = .int .i64 k ∧ Hid (∀ j < k, lineF (dataBad ls) ls j = 0) ∧ Own encR 106 3 w2.heap.size wr out ((ls.take k).map rowD) ∧ Below w2.heap.size w2 wr) (fun _ _ i _ => ls.length - (intOf i).toNat)
  case atStart => exact ⟨rfl, 0, hlpos, rfl, Lib.hid fun j hj => absurd hj (by omega), Own.nil _ _ _ _ _, Below.refl _ _⟩
  case round =>
    obtain ⟨rfl, k, hk, rfl, hj, ho, hb⟩ := hrel
    obtain ⟨wo, rfl⟩ : ∃ wo, wo = wr := ⟨wr, rfl⟩
    have hb02 := hb12.trans (hb.mono hb12.size)
    have hbwo := hbw2.trans (hb.mono hbw2.size)
    have hb1o := hbF.trans (hb.mono hbF.size)
    obtain ⟨x, hxk⟩ := get_ex hk
    have c1 := HX.out k x hxk 0 _ rfl
    have c1 := (hb1o.cell (World.block_lt_of_cell? w1 _ c1)).trans c1
    have i1 := idx_at (n := ls.length) (c := c) (b := b) (o := o) 1 Tryz.underlying39 szStr (fun _ => rfl) k hk
    simp only [Nat.mul_one, Nat.add_zero] at c1 i1
    have f : (k : Int) < (ls.length : Int) := by omega
    have hxl := HLm.out x (List.mem_of_getElem? hxk)
    have HO := Lib.hid ho
    have hql : ((ls.take k).map rowD).length = k := by rw [List.length_map, List.length_take]; omega
    by_cases hlast : k + 1 = ls.length
    case pos =>
      have g : ((k : Int) == (ls.length : Int) - 1) = true := by rw [beq_iff_eq]; omega
      have hlf := lineF_fin (bad := dataBad ls) hlast hxk
      have hdrop : ls.take k = ls.dropLast := by rw [List.dropLast_eq_take]; congr 1; omega
      have HDrop := Lib.hid hdrop
      have HQ := Lib.hid hql
      clear hxk ho hdrop hql
      by_cases hxe : x = []
      case neg =>
        have gl : x.isEmpty = false := by simpa using hxe
        have HLf : Hid (lineF (dataBad ls) ls k = 1) := Lib.hid (by rw [hlf, if_neg hxe])
        clear hlf hxe
        generalize (ls.take k).map rowD = q at *
        have HNe : Hid (dataE s = .loc 1 k) := Lib.hid (HE2.out (firstErr_hit (by omega) hj.out (by rw [HLf.out]; decide)) |>.trans (by rw [HLf.out]))
        have hg := HG.out _ (hb02)
        have c0' : wo.cell? ⟨w.heap.size, 0, none⟩ = some (.int .i64 0) := by simp [World.cell?, hg]
        have c1' : wo.cell? ⟨w.heap.size, 1, none⟩ = some (.int .i64 0) := by simp [World.cell?, hg]
        have f0' : wo.frozen? ⟨w.heap.size, 0, none⟩ = false := by simp [World.frozen?, hg]
        have f1' : wo.frozen? ⟨w.heap.size, 1, none⟩ = false := by simp [World.frozen?, hg]
        have HGg := Lib.hid hg; clear hg
        go_wp2_with fail
        exact rd_bad rfl rfl (by rw [HNe.out]; simp) (by rw [HNe.out]; rfl) (by rw [HNe.out]; rfl) HGg.out hbwo
      subst hxe
      have gl : ([] : Str).isEmpty = true := rfl
      rw [if_pos rfl] at hlf
      have he : eachEr (dataBad ls) ls = .nil := firstErr_all fun j hj' => (by
        rcases Nat.lt_or_ge j k with h | h
        · exact hj.out j h
        · obtain rfl : j = k := by omega
          exact hlf)
      have hGe := HEh2.out he
      rw [← HDrop.out] at hGe HL
      clear he hlf hlast
      generalize (ls.take k).map rowD = q at *
      obtain ⟨aq, cq, rfl, -, -⟩ := (HO.out.at encR_enc).form'
      have hql' : q.length ≤ 100000 := by rw [HQ.out]; omega
      have HKs := Lib.hid (refKeys_any _ q wo (HO.out.at encR_enc) hql')
      have HH := Lib.hid (fun W uk (h : Below wo.heap.size wo W) (hk : IntsAt W uk (keysR q)) => headFault_any (.slice au 4 cu) m0 m1 m2 m3 uk (keysR q) W (HU.out _ (hb1o.trans (h.mono hb1o.size))) hk)
      have HHc := Lib.hid (@headEr_code [m0, m1, m2, m3] (keysR q))
      generalize headEr [m0, m1, m2, m3] (keysR q) = he at *
      have HGe := Lib.hid hGe
      clear hGe
      go_wp2_with fail
      refine HKs.out.mono ?_
      rintro e wk ⟨uk, rfl, huk, hbk⟩
      have HHk := Lib.hid (HH.out wk uk hbk (huk.at encI_enc))
      clear huk
      go_wp2_with fail
      refine HHk.out.mono ?_
      rintro e w3 ⟨rfl, hb3k⟩
      have hb3 := hbk.trans (hb3k.mono hbk.size)
      have hb23 := hb.trans (hb3.mono hb.size)
      have hgT3 := TS.out _ hb23
      have t0 : w3.cell? ⟨T, 0, none⟩ = some (.int .i64 0) := by rw [cell_of_row w3 _ _ _ _ (0, 0) hgT3]; rfl
      have t1 : w3.cell? ⟨T, 1, none⟩ = some (.int .i64 pp) := by rw [cell_of_row w3 _ _ _ _ (0, 0) hgT3]; rfl
      have q0 : w3.frozen? ⟨T, 0, none⟩ = false := frozen_row hgT3
      have q1 : w3.frozen? ⟨T, 1, none⟩ = false := frozen_row hgT3
      rw [show faultOf he = .agg #[.int .i64 (he.code : Int), .int .i64 he.place] from rfl]
      obtain ⟨c2, hc2⟩ : ∃ c2 : Int, (he.code : Int) = c2 := ⟨_, rfl⟩
      obtain ⟨p2, hp2⟩ : ∃ p2 : Int, he.place = p2 := ⟨_, rfl⟩
      rw [hc2, hp2]
      have HC2 := Lib.hid hc2
      have HP2 := Lib.hid hp2
      clear hc2 hp2
      go_upto_region 20 with fail
      have hb03 := hb12.trans (hb23.mono hb12.size)
      have hT0 : w0.heap.size ≤ T := h01
      have hb04 : Below w0.heap.size w0 ((w3.setCell ⟨T, 0, none⟩ (.int .i64 c2)).setCell ⟨T, 1, none⟩ (.int .i64 p2)) := (hb03.setCell (p := ⟨T, 0, none⟩) hT0 _).setCell (p := ⟨T, 1, none⟩) hT0 _
      have hbw4 := hba.trans (hb04.mono hba.size)
      have hg4 := set_two hgT3 (.int .i64 c2) (.int .i64 p2)
      have hw4 : ((w3.setCell ⟨T, 0, none⟩ (.int .i64 c2)).setCell ⟨T, 1, none⟩ (.int .i64 p2)).heap.size = w3.heap.size := by simp
      have HK4 := Lib.hid (two_far (W := w3) h1z (.int .i64 c2) (.int .i64 p2))
      clear t0 t1 q0 q1 hgT3
      generalize (w3.setCell ⟨T, 0, none⟩ (.int .i64 c2)).setCell ⟨T, 1, none⟩ (.int .i64 p2) = w4 at *
      have u0 : w4.cell? ⟨T, 0, none⟩ = some (.int .i64 c2) := by rw [cell_of_row w4 _ _ _ _ (0, 0) hg4]; rfl
      have u1 : w4.cell? ⟨T, 1, none⟩ = some (.int .i64 p2) := by rw [cell_of_row w4 _ _ _ _ (0, 0) hg4]; rfl
      have HW4 := Lib.hid hw4
      clear hg4 hw4
      by_cases hh : he = .nil
      case neg =>
        have hpos : (0 : Int) < c2 := by have := HHc.out hh; have := HC2.out; omega
        have HN0 := Lib.hid hh
        clear hh
        have hg := HG.out _ (hb04)
        have c0' : w4.cell? ⟨w.heap.size, 0, none⟩ = some (.int .i64 0) := by simp [World.cell?, hg]
        have c1' : w4.cell? ⟨w.heap.size, 1, none⟩ = some (.int .i64 0) := by simp [World.cell?, hg]
        have f0' : w4.frozen? ⟨w.heap.size, 0, none⟩ = false := by simp [World.frozen?, hg]
        have f1' : w4.frozen? ⟨w.heap.size, 1, none⟩ = false := by simp [World.frozen?, hg]
        have HGg := Lib.hid hg; clear hg
        go_wp2_with fail
        go_region_law (fail)
        all_goals
          go_wp2_with fail
          exact rd_bad_drew rfl rfl (by rw [HGe.out]; exact HN0.out) (by rw [HGe.out]; exact HC2.out) (by rw [HGe.out]; exact HP2.out) HGg.out hbw4
      have hc20 : c2 = 0 := by rw [← HC2.out, hh]; rfl
      subst hc20
      have HE : Hid (dataE s = .nil) := Lib.hid (by rw [HGe.out, hh])
      have HLq : Hid (dataL s = q) := Lib.hid (by rw [HL.out, if_pos HE.out])
      clear hh
      go_wp2_with fail
      refine (refFine_any _).mono ?_
      rintro e wB ⟨rfl, hbB⟩
      have hb0B := (hb04).trans (hbB.mono (hb04).size)
      have hbwB := (hbw4).trans (hbB.mono (hbw4).size)
      have hg := HG.out _ (hb0B)
      have c0' : wB.cell? ⟨w.heap.size, 0, none⟩ = some (.int .i64 0) := by simp [World.cell?, hg]
      have c1' : wB.cell? ⟨w.heap.size, 1, none⟩ = some (.int .i64 0) := by simp [World.cell?, hg]
      have f0' : wB.frozen? ⟨w.heap.size, 0, none⟩ = false := by simp [World.frozen?, hg]
      have f1' : wB.frozen? ⟨w.heap.size, 1, none⟩ = false := by simp [World.frozen?, hg]
      have HGg := Lib.hid hg; clear hg
      unfold faultV
      go_wp2_with fail
      refine bodyPost_ret (fault_tc (g := w.heap.size) rfl rfl (set_two HGg.out _ _) rfl) rfl ⟨_, by rw [HE.out]; rfl, by rw [HLq.out]; exact fun W hW => Own.stays3 encR_enc (HO.out.below hb3) (fun p hp hp3 => (hW p (by omega) (by have h1 := hbB.size; rw [HW4.out] at h1; simp; omega)).trans ((two_far (B := w2.heap.size) (by omega) _ _ p hp).trans ((hbB.cell (by rw [HW4.out]; exact hp3)).trans (HK4.out p hp)))), ((hbwB).setCell (by simp) _).setCell (by simp) _⟩
    have g : ((k : Int) == (ls.length : Int) - 1) = false := by simp; omega
    have hlf := lineF_mid (bad := dataBad ls) hlast
    have HNu := Lib.hid (refReadRow_any x wo hxl)
    have hk1 : k + 1 < ls.length := by omega
    have hsn : (ls.take (k + 1)).map rowD = (ls.take k).map rowD ++ [rowD x] := by rw [take_snoc' hxk, List.map_append]; rfl
    have hprev : ∀ y, 0 < k → ((ls.take k).map rowD)[k - 1]? = some y → ((∃ t, ls[k - 1]? = some t ∧ lessR (rowD x) (rowD t) = true) ↔ lessR (rowD x) y = true) := fun y h0 hy => by
      rw [List.getElem?_map, List.getElem?_take_of_lt (by omega)] at hy
      cases ht : ls[k - 1]? with
      | none => rw [ht] at hy; cases hy
      | some t =>
        rw [ht] at hy
        cases hy
        exact ⟨fun ⟨t', e, h⟩ => by cases e; exact h, fun h => ⟨t, rfl, h⟩⟩
    have hB1 := fun h => dataBad_row hxk h
    have hB2 := fun h => dataBad_fine hxk h
    have hxd : rowD x = (rowRead x).1 := rfl
    rw [hxd] at hsn hprev
    simp only [hxd] at hB2
    obtain ⟨r, hr⟩ : ∃ r, (rowRead x).1 = r := ⟨_, rfl⟩
    obtain ⟨cr, hcr⟩ : ∃ cr, (rowRead x).2 = cr := ⟨_, rfl⟩
    rw [hr] at hsn hprev HNu
    simp only [hr] at hB2
    rw [hcr] at HNu
    rw [hcr] at hB1
    simp only [hcr] at hB2
    have HB1 := Lib.hid hB1
    have HB2 := Lib.hid hB2
    have HSn := Lib.hid hsn
    have HPrev := Lib.hid hprev
    have HQl := Lib.hid hql
    have HLf1 := Lib.hid hlf
    clear hxk hsn hprev hB1 hB2 hxd hr hcr hlf hql
    obtain ⟨q, hq⟩ : ∃ q, (ls.take k).map rowD = q := ⟨_, rfl⟩
    rw [hq] at HSn HPrev HQl HO ho
    clear hq
    go_wp2_with fail
    refine HNu.out.mono ?_
    rintro e w3 ⟨rfl, hb3⟩
    have hbA : Below w3.heap.size w3 (w3.alloc (.cells #[S r.part, .int .i64 r.key, .int .i64 r.val] 106)) := (Below.refl _ _).alloc (Nat.le_refl _) _
    have hbo4 := hb3.trans (hbA.mono hb3.size)
    have hb04 := hb02.trans (hbo4.mono hb02.size)
    have hbw4 := hbwo.trans (hbo4.mono hbwo.size)
    have CR := Lib.hid (fun W (h : Below (w3.alloc (.cells #[S r.part, .int .i64 r.key, .int .i64 r.val] 106)).heap.size (w3.alloc (.cells #[S r.part, .int .i64 r.key, .int .i64 r.val] 106)) W) => rowCells (r := r) (w := w3) rfl h)
    obtain ⟨T3, hT3⟩ : ∃ T3, w3.heap.size = T3 := ⟨_, rfl⟩
    rw [hT3] at CR
    clear c1 hbA
    go_upto_region 12 with fail
    generalize w3.alloc (.cells #[S r.part, .int .i64 r.key, .int .i64 r.val] 106) = w4 at *
    by_cases hc0 : cr = 0
    case neg =>
      have HLf : Hid (lineF (dataBad ls) ls k = cr) := Lib.hid (HLf1.out.trans (HB1.out hc0))
      have HC0 := Lib.hid hc0
      have g1 : (0 : Int) < (cr : Int) := by omega
      have g2 : decide (0 < cr) = true := by simp; omega
      have HNe : Hid (dataE s = .loc cr k) := Lib.hid (HE2.out (firstErr_hit (by omega) hj.out (by rw [HLf.out]; exact HC0.out)) |>.trans (by rw [HLf.out]))
      clear hc0
      have hg := HG.out _ (hb04)
      have c0' : w4.cell? ⟨w.heap.size, 0, none⟩ = some (.int .i64 0) := by simp [World.cell?, hg]
      have c1' : w4.cell? ⟨w.heap.size, 1, none⟩ = some (.int .i64 0) := by simp [World.cell?, hg]
      have f0' : w4.frozen? ⟨w.heap.size, 0, none⟩ = false := by simp [World.frozen?, hg]
      have f1' : w4.frozen? ⟨w.heap.size, 1, none⟩ = false := by simp [World.frozen?, hg]
      have HGg := Lib.hid hg; clear hg
      go_wp2_with fail
      exact rd_bad rfl rfl (by rw [HNe.out]; simp) (by rw [HNe.out]; rfl) (by rw [HNe.out]; rfl) HGg.out hbw4
    have HBd := Lib.hid (HLf1.out.trans (HB2.out hc0))
    have g1 : decide ((0 : Int) < (cr : Int)) = false := by simp; omega
    have g2 : decide (0 < cr) = false := by simp; omega
    obtain ⟨d0, d1, d2⟩ := CR.out _ (Below.refl _ _)
    clear hc0 HB1 HB2
    by_cases h0 : 0 < k
    case neg =>
      have hp0 : decide ((0 : Int) < (k : Int)) = false := by simp; omega
      have hp1 : decide (0 < k) = false := by simp; omega
      have HLf0 : Hid (lineF (dataBad ls) ls k = 0) := Lib.hid (by rw [HBd.out, if_neg (fun h => h0 h.1)])
      clear ho
      have ho4 := HO.out.below hbo4
      have hb24 := hb.trans (hbo4.mono hb.size)
      go_wp2_with (at_builtin; refine wpList_app rfl _ _ _ rfl w2.heap.size elRw _ q.length _ rfl (ho4.alloc _) (.slice (some ⟨w4.heap.size, 0, none⟩) 1 1) 1 (encR r) rfl (src_one rfl rfl (by simp [Value.oneCell'])) (by rw [HQl.out]; unfold maxLen; omega) (by rw [HQl.out]; omega) (by have := hb24.size; simp; omega) ?_; intro v' w5 hown5 hg5 _)
      go_roundw
      case rel => exact ⟨rfl, k + 1, hk1, by go_num, Lib.hid (fun j hj' => by
          rcases Nat.lt_or_ge j k with h | h
          · exact hj.out j h
          · obtain rfl : j = k := by omega
            exact HLf0.out), by rw [HSn.out]; exact Own.snoc hown5, Bapp (hb24.alloc hb24.size _) (ho4.alloc _) hg5 (Nat.le_refl _) (by have := hb24.size; simp; omega)⟩
      case measure => simp [intOf]; omega
    obtain ⟨g', cap, cur, rfl, -⟩ := ho.open (by rw [HQl.out]; exact h0)
    obtain ⟨y, hy⟩ := get_ex (l := q) (k := k - 1) (by rw [HQl.out]; omega)
    have hyc := fun j u hu => ho.cells encR_enc (k - 1) y hy j u hu
    have y0 := hyc 0 _ rfl
    have y1 := hyc 1 _ rfl
    have y2 := hyc 2 _ rfl
    simp only [Nat.add_zero] at y0 y1 y2
    have KC := Lib.hid (fun W (h : Below wo.heap.size wo W) => (⟨(h.cell (World.block_lt_of_cell? wo _ y0)).trans y0, (h.cell (World.block_lt_of_cell? wo _ y1)).trans y1, (h.cell (World.block_lt_of_cell? wo _ y2)).trans y2⟩ : _ ∧ _ ∧ _))
    have hpv := HPrev.out y h0 hy
    have i2 := idx_at (n := q.length) (c := cap) (b := g') (o := 0) 3 Tryz.underlying44 szRw (fun _ => rfl) (k - 1) (by rw [HQl.out]; omega)
    have hcast : ((k - 1 : Nat) : Int) = (k : Int) - 1 := by omega
    simp only [hcast, Nat.zero_add] at i2
    have hp1 : (0 : Int) < (k : Int) := by omega
    have hs0 : (0 : Int) ≤ (k : Int) - 1 := by omega
    have hs1 : (k : Int) - 1 < (q.length : Int) := by rw [HQl.out]; omega
    have HLs := Lib.hid (fun W => isLess_any r y W)
    have hbD : Below w4.heap.size w4 w4.drew := (Below.refl _ _).drew
    have hwk : IntKind.i64.wrap ((k : Int) - 1) = (k : Int) - 1 := by rw [IntKind.wrap_i64]; omega
    have hp4 : (1 : Int) ≤ (k : Int) := by omega
    clear d0 d1 d2
    obtain ⟨d0, d1, d2⟩ := CR.out _ hbD
    obtain ⟨cy0, cy1, cy2⟩ := KC.out _ (hbo4.trans (hbD.mono hbo4.size))
    have H0 := Lib.hid h0
    have HPv := Lib.hid hpv
    clear hy hcast hyc y0 y1 y2 hpv ho
    generalize lessR r y = less at *
    go_wp2_with fail
    go_region_held3 (fun w' => w'.cell? ⟨T3, 0, none⟩ = some (S r.part) ∧ w'.cell? ⟨T3, 1, none⟩ = some (.int .i64 r.key) ∧ w'.cell? ⟨T3, 2, none⟩ = some (.int .i64 r.val) ∧ w'.cell? ⟨g', (k - 1) * 3, none⟩ = some (S y.part) ∧ w'.cell? ⟨g', (k - 1) * 3 + 1, none⟩ = some (.int .i64 y.key) ∧ w'.cell? ⟨g', (k - 1) * 3 + 2, none⟩ = some (.int .i64 y.val)) (exact ⟨d0, d1, d2, cy0, cy1, cy2⟩) ((go_at_call 116; (with_reducible refine (HLs.out _).mono ?_); rintro e wq ⟨rfl, hbq⟩; have hbq' := hbD.trans (hbq.mono hbD.size); have hboq := hbo4.trans (hbq'.mono hbo4.size); clear d0 d1 d2 cy0 cy1 cy2; obtain ⟨d0, d1, d2⟩ := CR.out _ hbq'; obtain ⟨cy0, cy1, cy2⟩ := KC.out _ hboq))
    all_goals
      have hb0q := hb02.trans (hboq.mono hb02.size)
      have hbwq := hbwo.trans (hboq.mono hbwo.size)
      cases less with
      | true =>
        have HLf : Hid (lineF (dataBad ls) ls k = 9) := Lib.hid (by rw [HBd.out, if_pos ⟨H0.out, HPv.out.2 rfl⟩])
        have HNe : Hid (dataE s = .loc 9 k) := Lib.hid (HE2.out (firstErr_hit (by omega) hj.out (by rw [HLf.out]; decide)) |>.trans (by rw [HLf.out]))
        have hg := HG.out _ (hb0q)
        have c0' : wq.cell? ⟨w.heap.size, 0, none⟩ = some (.int .i64 0) := by simp [World.cell?, hg]
        have c1' : wq.cell? ⟨w.heap.size, 1, none⟩ = some (.int .i64 0) := by simp [World.cell?, hg]
        have f0' : wq.frozen? ⟨w.heap.size, 0, none⟩ = false := by simp [World.frozen?, hg]
        have f1' : wq.frozen? ⟨w.heap.size, 1, none⟩ = false := by simp [World.frozen?, hg]
        have HGg := Lib.hid hg; clear hg
        go_wp2_with fail
        exact rd_bad rfl rfl (by rw [HNe.out]; simp) (by rw [HNe.out]; rfl) (by rw [HNe.out]; rfl) HGg.out hbwq
      | false =>
        have HLf0 : Hid (lineF (dataBad ls) ls k = 0) := Lib.hid (by rw [HBd.out, if_neg (fun h => Bool.false_ne_true (HPv.out.1 h.2))])
        clear cy0 cy1 cy2
        have ho4 := HO.out.below hboq
        have hb24 := hb.trans (hboq.mono hb.size)
        go_wp2_with (at_builtin; refine wpList_app rfl _ _ _ rfl w2.heap.size elRw _ q.length _ rfl (ho4.alloc _) (.slice (some ⟨wq.heap.size, 0, none⟩) 1 1) 1 (encR r) rfl (src_one rfl rfl (by simp [Value.oneCell'])) (by rw [HQl.out]; unfold maxLen; omega) (by rw [HQl.out]; omega) (by have := hb24.size; simp; omega) ?_; intro v' w5 hown5 hg5 _)
        go_roundw
        case rel => exact ⟨rfl, k + 1, hk1, by go_num, Lib.hid (fun j hj' => by
            rcases Nat.lt_or_ge j k with h | h
            · exact hj.out j h
            · obtain rfl : j = k := by omega
              exact HLf0.out), by rw [HSn.out]; exact Own.snoc hown5, Bapp (hb24.alloc hb24.size _) (ho4.alloc _) hg5 (Nat.le_refl _) (by have := hb24.size; simp; omega)⟩
        case measure => simp [intOf]; omega
end Go.Proofs.YtpfohfihkmjnaaaGreatDoor
namespace Go.Proofs.YtpfohfihkmjnaaaGreatDoor
open Go.RowKit

def RofPost (p pt s : Str) (sq : Int) (w : World) (e : Ending) (w' : World) : Prop := e = .returned (.tuple #[fileV (ofText p pt s sq).1, .int .i64 ((ofText p pt s sq).2 : Nat)]) ∧ Below w.heap.size w w'
theorem rof_end {p pt s : Str} {sq : Int} {w W : World} {tmps : Array Value} {x : Fl} {c : Nat} (hp : tmps.getD 8 undef = .pointer (some ⟨w.heap.size, 0, none⟩)) (hv : tmps.getD 9 undef = .int .i64 (c : Nat)) (hr : ofText p pt s sq = (x, c))
    (hF : W.heap[w.heap.size]? = some (.cells #[S [], S [], .int .i64 0, .int .i64 0, .int .i64 0, .int .i64 0] 43 (0, 0))) (hb : Below w.heap.size w W) :
    bodyPost Tryz.prog Tryz.f34 (RofPost p pt s sq w) .ret ⟨tmps, []⟩ (six W w.heap.size 0 (S x.path) (S x.part) (.int .i64 x.n) (.int .i64 x.lo) (.int .i64 x.hi) (.int .i64 x.seq)) := by
  refine bodyPost_ret (ret_row rfl tmps _ w.heap.size 43 #[S x.path, S x.part, .int .i64 x.n, .int .i64 x.lo, .int .i64 x.hi, .int .i64 x.seq] (0, 0) _ hp (six_new hF _ _ _ _ _ _) Tryz.underlying43 rfl (by kernel_rfl)) rfl ⟨?_, six_below hb (Nat.le_refl _) _ _ _ _ _ _⟩
  rw [hr, hv]
theorem rof_zero {p pt s : Str} {sq : Int} {w W : World} {tmps : Array Value} {c : Nat} (hp : tmps.getD 8 undef = .pointer (some ⟨w.heap.size, 0, none⟩)) (hv : tmps.getD 9 undef = .int .i64 (c : Nat)) (hr : ofText p pt s sq = (zeroF, c))
    (hF : W.heap[w.heap.size]? = some (.cells #[S [], S [], .int .i64 0, .int .i64 0, .int .i64 0, .int .i64 0] 43 (0, 0))) (hb : Below w.heap.size w W) :
    bodyPost Tryz.prog Tryz.f34 (RofPost p pt s sq w) .ret ⟨tmps, []⟩ (six W w.heap.size 0 (.string ⟨#[]⟩) (.string ⟨#[]⟩) (.int .i64 0) (.int .i64 0) (.int .i64 0) (.int .i64 0)) := by
  refine bodyPost_ret (ret_row rfl tmps _ w.heap.size 43 #[.string ⟨#[]⟩, .string ⟨#[]⟩, .int .i64 0, .int .i64 0, .int .i64 0, .int .i64 0] (0, 0) _ hp (six_new hF _ _ _ _ _ _) Tryz.underlying43 rfl (by kernel_rfl)) rfl ⟨?_, six_below hb (Nat.le_refl _) _ _ _ _ _ _⟩
  rw [hr, hv]; rfl
theorem rof_zero_drew {p pt s : Str} {sq : Int} {w W : World} {tmps : Array Value} {c : Nat} (hp : tmps.getD 8 undef = .pointer (some ⟨w.heap.size, 0, none⟩)) (hv : tmps.getD 9 undef = .int .i64 (c : Nat)) (hr : ofText p pt s sq = (zeroF, c))
    (hF : W.heap[w.heap.size]? = some (.cells #[S [], S [], .int .i64 0, .int .i64 0, .int .i64 0, .int .i64 0] 43 (0, 0))) (hb : Below w.heap.size w W) :
    bodyPost Tryz.prog Tryz.f34 (RofPost p pt s sq w) .ret ⟨tmps, []⟩ (six W w.heap.size 0 (.string ⟨#[]⟩) (.string ⟨#[]⟩) (.int .i64 0) (.int .i64 0) (.int .i64 0) (.int .i64 0)).drew := by
  refine bodyPost_ret (ret_row rfl tmps _ w.heap.size 43 #[.string ⟨#[]⟩, .string ⟨#[]⟩, .int .i64 0, .int .i64 0, .int .i64 0, .int .i64 0] (0, 0) _ hp (by rw [World.heap_drew]; exact six_new hF _ _ _ _ _ _) Tryz.underlying43 rfl (by kernel_rfl)) rfl ⟨?_, Bdn (six_below hb (Nat.le_refl _) (.string ⟨#[]⟩) (.string ⟨#[]⟩) (.int .i64 0) (.int .i64 0) (.int .i64 0) (.int .i64 0)) 1⟩
  rw [hr, hv]; rfl
theorem pathE_none {p : Str} (h : pathF p = none) : pathE p = 5 := by unfold pathE; rw [h]; rfl
theorem pathE_some {p : Str} {kn} (h : pathF p = some kn) : pathE p = 0 := by unfold pathE; rw [h]; rfl
theorem kindF_some {p k : Str} {n : Int} (h : pathF p = some (k, n)) : kindF p = k := by unfold kindF; rw [h]; rfl
theorem noPlace_code (e : Er) : e.noPlace.code = e.code := by cases e <;> rfl
set_option maxHeartbeats 4000000 in
set_option maxRecDepth 20000 in
theorem refOfText_any (p pt s : Str) (sq : Int) (w : World) (hps : p.length ≤ 100000) (hts : pt.length ≤ 100000) (hs : s.length ≤ 10000 ∨ 20000 < s.length) (hs2 : s.length ≤ 50000) :
    Calls Tryz.prog 34 #[S p, S pt, S s, .int .i64 sq] w (RofPost p pt s sq w) := by
  have hba : Below w.heap.size w (w.alloc (.cells #[S [], S [], .int .i64 0, .int .i64 0, .int .i64 0, .int .i64 0] 43)) := (Below.refl w.heap.size w).alloc (Nat.le_refl _) _
  have CZ := Lib.hid (fun w6 (h : Below (w.alloc (.cells #[S [], S [], .int .i64 0, .int .i64 0, .int .i64 0, .int .i64 0] 43)).heap.size (w.alloc (.cells #[S [], S [], .int .i64 0, .int .i64 0, .int .i64 0, .int .i64 0] 43)) w6) => fileCells (f := zeroF) rfl h)
  have HG := Lib.hid (fun w6 (h : Below (w.alloc (.cells #[S [], S [], .int .i64 0, .int .i64 0, .int .i64 0, .int .i64 0] 43)).heap.size (w.alloc (.cells #[S [], S [], .int .i64 0, .int .i64 0, .int .i64 0, .int .i64 0] 43)) w6) => (h.block w.heap.size (by simp)).trans (heap_alloc_new w (.cells #[S [], S [], .int .i64 0, .int .i64 0, .int .i64 0, .int .i64 0] 43)))
  have HSz : Hid (w.heap.size < (w.alloc (.cells #[S [], S [], .int .i64 0, .int .i64 0, .int .i64 0, .int .i64 0] 43)).heap.size) := Lib.hid (by simp)
  have HPo := Lib.hid (fun W => pathOf_any p W hps)
  have HRd := Lib.hid (fun W => readData_any s W hs hs2)
  have HRg := Lib.hid (fun W => readGone_any s W hs2)
  have HNone := Lib.hid (@ofText_none p pt s sq)
  have HKeys := Lib.hid (@ofText_keys p pt s sq)
  have HBad := Lib.hid (@ofText_bad p pt s sq)
  have HFine := Lib.hid (@ofText_fine p pt s sq)
  have hql := keysL_len (kindF p) s
  have HMid : Hid (p.length ≤ 100000 ∧ pt.length ≤ 100000) := Lib.hid ⟨hps, hts⟩
  have hsl : s.length ≤ 50000 := hs2
  clear hps hts hs
  go_enter Tryz.func34, Tryz.ntmps34
  go_upto_region 1 with fail
  generalize w.alloc (.cells #[S [], S [], .int .i64 0, .int .i64 0, .int .i64 0, .int .i64 0] 43) = w0 at *
  go_wp2_with fail
  refine (HPo.out _).mono ?_
  rintro e w1 ⟨rfl, rfl⟩
  cases hpf : pathF p with
  | none =>
    rw [pathE_none hpf]
    have HR := Lib.hid (HNone.out hpf)
    clear hpf
    have hgz := HG.out _ (Below.refl _ _)
    have fz : ∀ j, w0.frozen? ⟨w.heap.size, j, none⟩ = false := fun j => frozen_row hgz
    have f0 := fz 0; have f1 := fz 1; have f2 := fz 2; have f3 := fz 3; have f4 := fz 4; have f5 := fz 5
    obtain ⟨d0, d1, d2, d3, d4, d5⟩ := CZ.out _ (Below.refl _ _)
    have HGz := Lib.hid hgz
    clear fz hgz
    go_wp2_with fail
    exact rof_zero rfl rfl HR.out HGz.out hba
  | some kn =>
  obtain ⟨k0, kn⟩ := kn
  rw [pathE_some hpf]
  have HPn : Hid (pathF p ≠ none) := Lib.hid (by rw [hpf]; simp)
  have hkk : kindF p = kData ∨ kindF p = kGone := by rw [kindF_some hpf]; exact (pathF_some hpf).1
  have HO : Hid (∀ q, keysL (kindF p) s = q → ofFile p pt s sq = ⟨p, pt, q.length, (endsI q).1, (endsI q).2, sq⟩) := Lib.hid fun q hq => by unfold ofFile; rw [hq]
  have HNo : Hid ((keysE (kindF p) s).code ≠ 0 → keysL (kindF p) s = []) := Lib.hid fun h => by
    unfold keysE at h
    unfold keysL
    split
    · rename_i hk
      rw [if_pos hk, noPlace_code] at h
      exact if_neg fun e => h (by rw [e]; rfl)
    · rename_i hk
      rw [if_neg hk, noPlace_code] at h
      rw [show dataL s = [] from if_neg fun e => h (by rw [e]; rfl)]; rfl
  clear hpf HNone HPo
  generalize numF p = nm at *
  go_upto_if 32 with fail
  go_cut [13] (fun u wx => IntsAt wx u (keysL (kindF p) s) ∧ Hid ((keysE (kindF p) s).code = 0) ∧ Below w0.heap.size w0 wx)
  case first =>
    rcases hkk with hk | hk
    · have hKE : Hid ((keysE (kindF p) s).code = (dataE s).code) := Lib.hid (by rw [hk]; unfold keysE; rw [if_neg (by decide), noPlace_code])
      have hKL : Hid (keysL (kindF p) s = keysR (dataL s)) := Lib.hid (by rw [hk]; exact if_neg (by decide))
      have g : (kindF p == [100, 97, 116, 97]) = true := by rw [hk]; rfl
      rw [g]
      clear hk g
      go_wp2_with fail
      refine (HRd.out _).mono ?_
      rintro e w2 ⟨u, rfl, hu, hb2⟩
      have hbw2 := hba.trans (hb2.mono hba.size)
      rw [show faultOf (dataE s) = .agg #[.int .i64 ((dataE s).code : Nat), .int .i64 (dataE s).place] from rfl]
      have hu' := hu.here
      obtain ⟨a, c, rfl, -, -⟩ := hu'.form'
      have HU := Lib.hid hu'
      clear hu hu'
      obtain ⟨cc, hcc⟩ : ∃ cc : Nat, (dataE s).code = cc := ⟨_, rfl⟩
      obtain ⟨pp, hpp⟩ : ∃ pp : Int, (dataE s).place = pp := ⟨_, rfl⟩
      rw [hcc] at hKE ⊢
      rw [hpp]
      have hb3 : Below w2.heap.size w2 (w2.alloc (.cells #[.int .i64 (cc : Nat), .int .i64 pp] 58)) := (Below.refl _ _).alloc (Nat.le_refl _) _
      have hg3 := heap_alloc_new w2 (.cells #[.int .i64 (cc : Nat), .int .i64 pp] 58)
      have hb03 := hb2.trans (hb3.mono hb2.size)
      have hbw3 := hba.trans (hb03.mono hba.size)
      have HU3 := Lib.hid (HU.out.below hb3)
      have hql2 : (dataL s).length ≤ 50001 := by have := dataL_len s; omega
      generalize dataL s = q at *
      clear hcc hpp
      go_upto_region 7 with fail
      generalize w2.alloc (.cells #[.int .i64 (cc : Nat), .int .i64 pp] 58) = w3 at *
      obtain ⟨G, hG⟩ : ∃ G, w2.heap.size = G := ⟨_, rfl⟩
      rw [hG] at hg3 ⊢
      have e0 : w3.cell? ⟨G, 0, none⟩ = some (.int .i64 (cc : Nat)) := by rw [cell_of_row w3 _ _ _ _ (0, 0) hg3]; rfl
      have hGn : ¬ G = w.heap.size := by have := hbw2.size; have := hba.size; have := HSz.out; have := hb2.size; omega
      have hGn' : ¬ w.heap.size = G := fun e => hGn e.symm
      clear hG
      by_cases hc0 : cc = 0
      case neg =>
        have HR : Hid (ofText p pt s sq = (zeroF, cc)) := Lib.hid (by rw [HKeys.out HPn.out (by rw [hKE.out]; exact hc0), hKE.out])
        have g1 : (0 : Int) < (cc : Int) := by omega
        have g2 : 0 < cc := by omega
        have hgz := HG.out _ hb03
        have fz : ∀ j, w3.frozen? ⟨w.heap.size, j, none⟩ = false := fun j => frozen_row hgz
        have f0 := fz 0; have f1 := fz 1; have f2 := fz 2; have f3 := fz 3; have f4 := fz 4; have f5 := fz 5
        obtain ⟨d0, d1, d2, d3, d4, d5⟩ := CZ.out _ hb03
        have HGz := Lib.hid hgz
        clear fz hgz hc0 hg3
        go_wp2_with fail
        go_region
        go_wp2_with fail
        first
          | exact rof_zero_drew rfl rfl HR.out HGz.out hbw3
          | exact rof_zero rfl rfl HR.out HGz.out hbw3
      have HK0 : Hid ((keysE (kindF p) s).code = 0) := Lib.hid (by rw [hKE.out, hc0])
      have g1 : decide ((0 : Int) < (cc : Int)) = false := by simp [hc0]
      have g2 : decide (0 < cc) = false := by simp [hc0]
      clear hc0 hg3
      go_wp2_with fail
      refine (refKeys_any _ q w3 HU3.out (by omega)).mono ?_
      rintro e w4 ⟨v4, rfl, hown, hb4⟩
      go_wp2_with fail
      go_meet
      exact ⟨by rw [hKL.out]; exact hown.at encI_enc, HK0, hb03.trans (hb4.mono hb03.size)⟩
    · have hKE : Hid ((keysE (kindF p) s).code = (goneE s).code) := Lib.hid (by rw [hk]; unfold keysE; rw [if_pos rfl, noPlace_code])
      have hKL : Hid (keysL (kindF p) s = goneL s) := Lib.hid (by rw [hk]; exact if_pos rfl)
      have g : (kindF p == [100, 97, 116, 97]) = false := by rw [hk]; rfl
      rw [g]
      clear hk g
      go_wp2_with fail
      refine (HRg.out _).mono ?_
      rintro e w2 ⟨u, rfl, hu, hb2⟩
      have hbw2 := hba.trans (hb2.mono hba.size)
      rw [show faultOf (goneE s) = .agg #[.int .i64 ((goneE s).code : Nat), .int .i64 (goneE s).place] from rfl]
      have hu' := hu.here
      obtain ⟨a, c, rfl, -, -⟩ := hu'.form'
      have HU := Lib.hid hu'
      clear hu hu'
      obtain ⟨cc, hcc⟩ : ∃ cc : Nat, (goneE s).code = cc := ⟨_, rfl⟩
      obtain ⟨pp, hpp⟩ : ∃ pp : Int, (goneE s).place = pp := ⟨_, rfl⟩
      rw [hcc] at hKE ⊢
      rw [hpp]
      have hb3 : Below w2.heap.size w2 (w2.alloc (.cells #[.int .i64 (cc : Nat), .int .i64 pp] 58)) := (Below.refl _ _).alloc (Nat.le_refl _) _
      have hg3 := heap_alloc_new w2 (.cells #[.int .i64 (cc : Nat), .int .i64 pp] 58)
      have hb03 := hb2.trans (hb3.mono hb2.size)
      have hbw3 := hba.trans (hb03.mono hba.size)
      have HU3 := Lib.hid (HU.out.below hb3)
      have hql2 : (goneL s).length ≤ 50001 := by have h1 := hql; rw [hKL.out] at h1; omega
      generalize goneL s = q at *
      clear hcc hpp
      go_upto_region 11 with fail
      generalize w2.alloc (.cells #[.int .i64 (cc : Nat), .int .i64 pp] 58) = w3 at *
      obtain ⟨G, hG⟩ : ∃ G, w2.heap.size = G := ⟨_, rfl⟩
      rw [hG] at hg3 ⊢
      have e0 : w3.cell? ⟨G, 0, none⟩ = some (.int .i64 (cc : Nat)) := by rw [cell_of_row w3 _ _ _ _ (0, 0) hg3]; rfl
      have hGn : ¬ G = w.heap.size := by have := hbw2.size; have := hba.size; have := HSz.out; have := hb2.size; omega
      have hGn' : ¬ w.heap.size = G := fun e => hGn e.symm
      clear hG
      by_cases hc0 : cc = 0
      case neg =>
        have HR : Hid (ofText p pt s sq = (zeroF, cc)) := Lib.hid (by rw [HKeys.out HPn.out (by rw [hKE.out]; exact hc0), hKE.out])
        have g1 : (0 : Int) < (cc : Int) := by omega
        have g2 : 0 < cc := by omega
        have hgz := HG.out _ hb03
        have fz : ∀ j, w3.frozen? ⟨w.heap.size, j, none⟩ = false := fun j => frozen_row hgz
        have f0 := fz 0; have f1 := fz 1; have f2 := fz 2; have f3 := fz 3; have f4 := fz 4; have f5 := fz 5
        obtain ⟨d0, d1, d2, d3, d4, d5⟩ := CZ.out _ hb03
        have HGz := Lib.hid hgz
        clear fz hgz hc0 hg3
        go_wp2_with fail
        go_region
        go_wp2_with fail
        first
          | exact rof_zero_drew rfl rfl HR.out HGz.out hbw3
          | exact rof_zero rfl rfl HR.out HGz.out hbw3
      have HK0 : Hid ((keysE (kindF p) s).code = 0) := Lib.hid (by rw [hKE.out, hc0])
      have g1 : decide ((0 : Int) < (cc : Int)) = false := by simp [hc0]
      have g2 : decide (0 < cc) = false := by simp [hc0]
      clear hc0 hg3
      go_wp2_with fail
      go_meet
      exact ⟨by rw [hKL.out]; exact HU3.out, HK0, hb03⟩
  case rest =>
    obtain ⟨hu, HK0, hb1⟩ := hcut
    obtain ⟨w1, rfl⟩ : ∃ w1, w1 = wc := ⟨wc, rfl⟩
    obtain ⟨q, hq⟩ : ∃ q, keysL (kindF p) s = q := ⟨_, rfl⟩
    have HO2 := Lib.hid (HO.out q hq)
    rw [hq] at hu hql
    have hbw1 := hba.trans (hb1.mono hba.size)
    obtain ⟨a, c, rfl, -, -⟩ := hu.form'
    have HU := Lib.hid hu
    clear hu hq HNo HO hkk
    obtain ⟨lo, hlo⟩ : ∃ lo, (endsI q).1 = lo := ⟨_, rfl⟩
    obtain ⟨hi, hhi⟩ : ∃ hi, (endsI q).2 = hi := ⟨_, rfl⟩
    have HE := Lib.hid (refEnds_any _ q w1 HU.out)
    rw [hlo, hhi] at HE HO2
    clear hlo hhi
    go_wp2_with fail
    refine HE.out.mono ?_
    rintro e wx ⟨rfl, rfl⟩
    have hbaY : Below w1.heap.size w1 (w1.alloc (.cells #[S p, S pt, .int .i64 q.length, .int .i64 lo, .int .i64 hi, .int .i64 sq] 43)) := (Below.refl _ _).alloc (Nat.le_refl _) _
    have CY := Lib.hid (fun W (h : Below (w1.alloc (.cells #[S p, S pt, .int .i64 q.length, .int .i64 lo, .int .i64 hi, .int .i64 sq] 43)).heap.size (w1.alloc (.cells #[S p, S pt, .int .i64 q.length, .int .i64 lo, .int .i64 hi, .int .i64 sq] 43)) W) => fileCells (f := ⟨p, pt, q.length, lo, hi, sq⟩) (w := w1) rfl h)
    have hb02 := hb1.trans (hbaY.mono hb1.size)
    have hbw2 := hba.trans (hb02.mono hba.size)
    have hfl : ofFile p pt s sq = ⟨p, pt, q.length, lo, hi, sq⟩ := HO2.out
    go_upto_region 16 with fail
    generalize w1.alloc (.cells #[S p, S pt, .int .i64 q.length, .int .i64 lo, .int .i64 hi, .int .i64 sq] 43) = w2 at *
    obtain ⟨T, hT⟩ : ∃ T, w1.heap.size = T := ⟨_, rfl⟩
    rw [hT] at CY ⊢
    obtain ⟨c0, c1, c2, c3, c4, c5⟩ := CY.out _ (Below.refl _ _)
    have HCk := Lib.hid (fileError_any ⟨p, pt, q.length, lo, hi, sq⟩ w2 ⟨HMid.out.1, HMid.out.2⟩)
    have hbad := HBad.out HPn.out (by rw [HK0.out]; simp)
    have hfine := HFine.out HPn.out (by rw [HK0.out]; simp)
    rw [hfl] at hbad hfine
    have HBa := Lib.hid hbad; have HFi := Lib.hid hfine
    clear hbad hfine hfl hT HBad HFine HKeys
    obtain ⟨ce, hce⟩ : ∃ ce, checkF ⟨p, pt, (q.length : Int), lo, hi, sq⟩ = ce := ⟨_, rfl⟩
    rw [hce] at HCk HBa HFi
    clear hce
    go_wp2_with fail
    refine HCk.out.mono ?_
    rintro e w3 ⟨rfl, hb3⟩
    have hb03 := hb02.trans (hb3.mono hb02.size)
    have hbw3 := hbw2.trans (hb3.mono hbw2.size)
    clear c0 c1 c2 c3 c4 c5
    obtain ⟨c0, c1, c2, c3, c4, c5⟩ := CY.out _ hb3
    have hgz := HG.out _ hb03
    have fz : ∀ j, w3.frozen? ⟨w.heap.size, j, none⟩ = false := fun j => frozen_row hgz
    have f0 := fz 0; have f1 := fz 1; have f2 := fz 2; have f3 := fz 3; have f4 := fz 4; have f5 := fz 5
    obtain ⟨d0, d1, d2, d3, d4, d5⟩ := CZ.out _ hb03
    have HGz := Lib.hid hgz
    clear fz hgz
    by_cases hc0 : ce = 0
    case neg =>
      have HR : Hid (ofText p pt s sq = (zeroF, ce)) := Lib.hid (HBa.out hc0)
      have g1 : (0 : Int) < (ce : Int) := by omega
      have g2 : 0 < ce := by omega
      clear hc0
      go_wp2_with fail
      exact rof_zero rfl rfl HR.out HGz.out hbw3
    have HR : Hid (ofText p pt s sq = (⟨p, pt, q.length, lo, hi, sq⟩, 0)) := Lib.hid (HFi.out hc0)
    have g1 : decide ((0 : Int) < (ce : Int)) = false := by simp [hc0]
    have g2 : decide (0 < ce) = false := by simp [hc0]
    clear hc0
    go_wp2_with fail
    exact rof_end (x := ⟨p, pt, q.length, lo, hi, sq⟩) rfl rfl HR.out HGz.out hbw3
end Go.Proofs.YtpfohfihkmjnaaaGreatDoor
