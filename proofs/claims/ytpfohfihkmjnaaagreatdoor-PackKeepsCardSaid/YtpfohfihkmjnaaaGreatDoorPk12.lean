/- deedboxref1's GoneOf, headFault: the walks. Printed by gen_refgone.py. deedboxref1's splitText, ReadGone: the walks. Printed by gen_refgone.py. -/
import Derived.Test.YtpfohfihkmjnaaaGreatDoorPk11
import Derived.Test.YtpfohfihkmjnaaaGreatDoorPk3
namespace Go.Proofs.YtpfohfihkmjnaaaGreatDoor
open Go.RowKit
set_option maxHeartbeats 2000000 in
set_option maxRecDepth 20000 in
theorem goneOf_any (v : Value) (l : List Int) (w : World) (hl : IntsAt w v l) (hn : l.length ≤ 1000) :
    Calls Tryz.prog 33 #[v] w fun e w' => e = .returned (.tuple #[S (madeT l), faultOf (madeE l)]) ∧ Below w.heap.size w w' := by
  have hba : Below w.heap.size w (w.alloc (.cells #[.int .i64 0, .int .i64 0] 58)) := (Below.refl w.heap.size w).alloc (Nat.le_refl _) (.cells #[.int .i64 0, .int .i64 0] 58)
  have hG := fun W (h : Below (w.alloc (.cells #[.int .i64 0, .int .i64 0] 58)).heap.size (w.alloc (.cells #[.int .i64 0, .int .i64 0] 58)) W) => ((h.block w.heap.size (by simp)).trans (heap_alloc_new w (.cells #[.int .i64 0, .int .i64 0] 58)))
  have HG := Lib.hid hG; clear hG
  have HSz : Hid ((w.alloc (.cells #[.int .i64 0, .int .i64 0] 58)).heap.size = w.heap.size + 1) := Lib.hid (by simp)
  have HRi := Lib.hid (risingOf_any v l (w.alloc (.cells #[.int .i64 0, .int .i64 0] 58)) (hl.below ((Below.refl _ _).alloc (Nat.le_refl _) _)) (by omega))
  have hql := risOf_len l
  obtain ⟨a, c, b, o, rfl, ha, hc, hcm, hx⟩ := hl
  unfold maxLen at hcm
  have HX := Lib.hid hx
  have HM : Hid (madeE l = if 40 < (risOf l).length then .bare 8 else firstErr (farF l) l.length) := Lib.hid rfl
  have HMt : Hid (madeT l = if madeE l = .nil then goneText (risOf l) else []) := Lib.hid rfl
  have HNear : Hid (firstErr (farF l) l.length = .nil → ∀ n ∈ risOf l, ¬ farN n) := Lib.hid (fun h n hn => near_all h n (mem_risOf.1 hn))
  clear hx
  generalize risOf l = q at *
  go_enter Tryz.func33, Tryz.ntmps33
  go_wp2_with fail
  generalize w.alloc (.cells #[.int .i64 0, .int .i64 0] 58) = w0 at *
  refine HRi.out.mono ?_
  rintro e w1 ⟨u, rfl, hu, hb1⟩
  have hbw1 := hba.trans (hb1.mono hba.size)
  have HU := Lib.hid (fun W (h : Below w1.heap.size w1 W) => hu.below h)
  obtain ⟨aq, cq, bq, oq, rfl, haq, hcq, hcmq, hxq⟩ := hu
  unfold maxLen at hcmq
  have HXq := Lib.hid hxq
  clear hxq HRi
  by_cases h40 : 40 < q.length
  case pos =>
    have g : (40 : Int) < (q.length : Int) := by omega
    have hm : madeE l = .bare 8 := by rw [HM.out, if_pos h40]
    have HMe := Lib.hid hm
    have HMT : Hid (madeT l = []) := Lib.hid (by rw [HMt.out, hm]; rfl)
    clear h40 hm
    go_wp2_with fail
    refine (refBare_any 8 _).mono ?_
    rintro e wB ⟨rfl, hbB⟩
    have hb0B := (hb1).trans (hbB.mono (hb1).size)
    have hbwB := (hbw1).trans (hbB.mono (hbw1).size)
    have hg := HG.out _ (hb0B)
    have c0' : wB.cell? ⟨w.heap.size, 0, none⟩ = some (.int .i64 0) := by simp [World.cell?, hg]
    have c1' : wB.cell? ⟨w.heap.size, 1, none⟩ = some (.int .i64 0) := by simp [World.cell?, hg]
    have f0' : wB.frozen? ⟨w.heap.size, 0, none⟩ = false := by simp [World.frozen?, hg]
    have f1' : wB.frozen? ⟨w.heap.size, 1, none⟩ = false := by simp [World.frozen?, hg]
    have HGg := Lib.hid hg; clear hg
    unfold faultV
    go_wp2_with fail
    refine bodyPost_ret (fault_tc (g := w.heap.size) rfl rfl (set_two HGg.out _ _) rfl) rfl ⟨by rw [HMT.out, HMe.out]; rfl, ((hbwB).setCell (by simp) _).setCell (by simp) _⟩
  have g : decide ((40 : Int) < (q.length : Int)) = false := by simp; omega
  have HM2 : Hid (madeE l = firstErr (farF l) l.length) := Lib.hid (by rw [HM.out, if_neg h40])
  have hq40 : q.length ≤ 40 := by omega
  clear h40
  go_wp2_with fail
  go_loopw [5] (fun i wr => ∃ k : Nat, k ≤ l.length ∧ i = .int .i64 k ∧ Hid (∀ j < k, farF l j = 0) ∧ w1 = wr) (fun i _ => l.length - (intOf i).toNat)
  case atStart => exact ⟨0, by omega, rfl, Lib.hid fun j hj => absurd hj (by omega), rfl⟩
  case round =>
    obtain ⟨k, hk, rfl, hj, rfl⟩ := hrel
    by_cases hlt : k < l.length
    case pos =>
      obtain ⟨x, hxk⟩ := get_ex hlt
      have c1 := HX.out k x hxk 0 _ rfl
      have c1 := (hbw1.cell (World.block_lt_of_cell? w _ c1)).trans c1
      have i1 := idx_at (c := c) 1 Tryz.underlying69 szInt ha k hlt
      simp only [Nat.mul_one, Nat.add_zero] at c1 i1
      have f : (k : Int) < (l.length : Int) := by omega
      have hfk : farF l k = if farN x then 2 else 0 := by unfold farF; rw [hxk]
      have HFk := Lib.hid hfk
      clear hxk hfk
      by_cases hf : farN x
      case pos =>
        have hd : decide (farN x) = true := decide_eq_true hf
        have hm : madeE l = .loc 2 k := by rw [HM2.out, firstErr_hit hlt hj.out (by rw [HFk.out, if_pos hf]; decide), HFk.out, if_pos hf]
        have HMe := Lib.hid hm
        have HMT : Hid (madeT l = []) := Lib.hid (by rw [HMt.out, hm]; rfl)
        clear hm hf
        have hg := HG.out _ (hb1)
        have c0' : w1.cell? ⟨w.heap.size, 0, none⟩ = some (.int .i64 0) := by simp [World.cell?, hg]
        have c1' : w1.cell? ⟨w.heap.size, 1, none⟩ = some (.int .i64 0) := by simp [World.cell?, hg]
        have f0' : w1.frozen? ⟨w.heap.size, 0, none⟩ = false := by simp [World.frozen?, hg]
        have f1' : w1.frozen? ⟨w.heap.size, 1, none⟩ = false := by simp [World.frozen?, hg]
        have HGg := Lib.hid hg; clear hg
        go_wp2_with (first | (go_at_call 77; refine (isFar_any _ _).mono ?_; rintro e w' ⟨rfl, rfl⟩; try rw [hd]))
        refine bodyPost_ret (fault_tc (g := w.heap.size) rfl rfl (set_two HGg.out _ _) rfl) rfl ⟨by rw [HMT.out, HMe.out]; rfl, ((hbw1).setCell (by simp) _).setCell (by simp) _⟩
      have hd : decide (farN x) = false := decide_eq_false hf
      have HJ1 : Hid (∀ j < k + 1, farF l j = 0) := Lib.hid fun j hj' => (by
        rcases Nat.lt_or_ge j k with h | h
        · exact hj.out j h
        · obtain rfl : j = k := by omega
          rw [HFk.out, if_neg hf])
      clear hf
      go_wp2_with (first | (go_at_call 77; refine (isFar_any _ _).mono ?_; rintro e w' ⟨rfl, rfl⟩; try rw [hd]))
      go_roundw
      case rel => exact ⟨k + 1, by omega, by go_num, HJ1, by first | rfl | trivial⟩
      case measure => simp [intOf]; omega
    obtain rfl : k = l.length := by omega
    have f : decide ((l.length : Int) < (l.length : Int)) = false := by simp
    have hfe : firstErr (farF l) l.length = .nil := firstErr_all hj.out
    have hm : madeE l = .nil := HM2.out.trans hfe
    have HMe := Lib.hid hm
    have HMT : Hid (madeT l = wholeT kGone q (bodyT (q.map Lib.itoa))) := Lib.hid (by rw [HMt.out, if_pos hm]; rfl)
    have HNr := Lib.hid (HNear.out hfe)
    clear hm hfe hlt
    have hlen : ∀ k, (bodyT ((q.take k).map Lib.itoa)).length ≤ 880 := fun k => by
      have hbl := body_len (m := 21) (ls := (q.take k).map Lib.itoa) fun s hs => by
        obtain ⟨n, hn', rfl⟩ := List.mem_map.1 hs
        have := near (HNr.out n (List.mem_of_mem_take hn'))
        exact itoa_len n (by omega) (by omega)
      rw [List.length_map, List.length_take] at hbl
      omega
    have HLen := Lib.hid hlen
    clear hlen
    go_wp2_with fail
    go_loopw [7, 8] (fun u i wr => ∃ k : Nat, k ≤ q.length ∧ i = .int .i64 k ∧ u = S (bodyT ((q.take k).map Lib.itoa)) ∧ Below w1.heap.size w1 wr) (fun _ i _ => q.length - (intOf i).toNat)
    case atStart => exact ⟨0, by omega, rfl, rfl, Below.refl _ _⟩
    case round =>
      obtain ⟨k, hk, rfl, rfl, hb⟩ := hrel
      obtain ⟨wo, rfl⟩ : ∃ wo, wo = wr := ⟨wr, rfl⟩
      have hb0o := hb1.trans (hb.mono hb1.size)
      have hbwo := hbw1.trans (hb.mono hbw1.size)
      by_cases hlt : k < q.length
      case neg =>
        obtain rfl : k = q.length := by omega
        have f : decide ((q.length : Int) < (q.length : Int)) = false := by simp
        have hl880 := HLen.out q.length
        rw [List.take_length] at hl880 ⊢
        obtain ⟨e1, e2⟩ := ends_within (B := 1073741824) (by omega) fun x hx => near (HNr.out x hx)
        have HWt := Lib.hid (wholeText_any kGone _ q (bodyT (q.map Lib.itoa)) wo (HU.out _ hb) (by decide) (by omega) (by omega) (by omega))
        clear e1 e2
        generalize bodyT (q.map Lib.itoa) = bd at *
        go_wp2_with fail
        refine HWt.out.mono ?_
        rintro e w4 ⟨rfl, hb4⟩
        have hb04 := hb0o.trans (hb4.mono hb0o.size)
        have hbw4 := hbwo.trans (hb4.mono hbwo.size)
        go_wp2_with fail
        refine (refFine_any _).mono ?_
        rintro e wB ⟨rfl, hbB⟩
        have hb0B := (hb04).trans (hbB.mono (hb04).size)
        have hbwB := (hbw4).trans (hbB.mono (hbw4).size)
        have hg := HG.out _ (hb0B)
        have c0' : wB.cell? ⟨w.heap.size, 0, none⟩ = some (.int .i64 0) := by simp [World.cell?, hg]
        have c1' : wB.cell? ⟨w.heap.size, 1, none⟩ = some (.int .i64 0) := by simp [World.cell?, hg]
        have f0' : wB.frozen? ⟨w.heap.size, 0, none⟩ = false := by simp [World.frozen?, hg]
        have f1' : wB.frozen? ⟨w.heap.size, 1, none⟩ = false := by simp [World.frozen?, hg]
        have HGg := Lib.hid hg; clear hg
        unfold faultV
        go_wp2_with fail
        refine bodyPost_ret (fault_tc (g := w.heap.size) rfl rfl (set_two HGg.out _ _) rfl) rfl ⟨by rw [HMT.out, HMe.out]; rfl, ((hbwB).setCell (by simp) _).setCell (by simp) _⟩
      obtain ⟨x, hxk⟩ := get_ex hlt
      have c1 := HXq.out k x hxk 0 _ rfl
      have c1 := (hb.cell (World.block_lt_of_cell? w1 _ c1)).trans c1
      have i1 := idx_at (c := cq) 1 Tryz.underlying69 szInt haq k hlt
      have f : (k : Int) < (q.length : Int) := by omega
      simp only [Nat.mul_one, Nat.add_zero] at c1 i1
      have hnx := near (HNr.out x (List.mem_of_getElem? hxk))
      have HD := Lib.hid (decimalE_any x wo (by omega) (by omega))
      have htl := itoa_len x (by omega) (by omega)
      have hbl := HLen.out k
      have HSn : Hid (bodyT ((q.take (k + 1)).map Lib.itoa) = (bodyT ((q.take k).map Lib.itoa) ++ Lib.itoa x) ++ [10]) := Lib.hid (by
        rw [take_snoc' hxk, List.map_append, List.map_cons, List.map_nil, bodyT_snoc]; simp)
      clear hxk hnx
      generalize Lib.itoa x = tx at *
      generalize bodyT ((q.take k).map Lib.itoa) = bd at *
      have app : ∀ (p q : Str), p.length + q.length ≤ 1000000 → ∀ W, (Op.stringOp .add ⟨p.toArray⟩ ⟨q.toArray⟩).run Tryz.prog W = .ok (.string ⟨(p ++ q).toArray⟩) W := fun p q h W => by
        have := cat_run ⟨p.toArray⟩ ⟨q.toArray⟩ p.length q.length rfl rfl h W
        rwa [S_app] at this
      have a1 := app bd tx (by omega)
      have a2 := app (bd ++ tx) [10] (by simp; omega)
      clear app
      generalize hA1 : bd ++ tx = A1 at *
      generalize hA2 : A1 ++ [10] = A2 at *
      clear hA1 hA2
      go_wp2_with fail
      refine HD.out.mono ?_
      rintro e w3 ⟨rfl, hb3⟩
      go_wp2_with fail
      go_roundw
      case rel => exact ⟨k + 1, by omega, by go_num, by rw [HSn.out], hb.trans (hb3.mono hb.size)⟩
      case measure => simp [intOf]; omega
/-- What a head's check answers. -/
def headEr (n keys : List Int) : Er := if 40 < keys.length then .bare 8 else if fitsI n keys then .nil else .bare 3
theorem fault_c {fn : Func} {p : Tmp} (h : fn.results = #[.cell p 58]) {tmps : Array Value} {w : World} {g : Nat} {c q : Int} (hp : tmps.getD p undef = .pointer (some ⟨g, 0, none⟩)) (hg : w.heap[g]? = some (.cells #[.int .i64 c, .int .i64 q] 58 (0, 0))) :
    (results fn tmps).run Tryz.prog w = .ok (faultV c q) w :=
  results_cell_row h _ _ g 58 #[.int .i64 c, .int .i64 q] (0, 0) _ hp hg Tryz.underlying58 rfl (by kernel_rfl)
set_option maxHeartbeats 2000000 in
set_option maxRecDepth 20000 in
theorem headFault_any (v : Value) (n0 n1 n2 n3 : Int) (u : Value) (keys : List Int) (w : World) (hl : IntsAt w v [n0, n1, n2, n3]) (hk : IntsAt w u keys) :
    Calls Tryz.prog 122 #[v, u] w fun e w' => e = .returned (faultOf (headEr [n0, n1, n2, n3] keys)) ∧ Below w.heap.size w w' := by
  have hba : Below w.heap.size w (w.alloc (.cells #[.int .i64 0, .int .i64 0] 58)) := (Below.refl w.heap.size w).alloc (Nat.le_refl _) (.cells #[.int .i64 0, .int .i64 0] 58)
  have hG := fun W (h : Below (w.alloc (.cells #[.int .i64 0, .int .i64 0] 58)).heap.size (w.alloc (.cells #[.int .i64 0, .int .i64 0] 58)) W) => ((h.block w.heap.size (by simp)).trans (heap_alloc_new w (.cells #[.int .i64 0, .int .i64 0] 58)))
  have HG := Lib.hid hG; clear hG
  have HSz : Hid ((w.alloc (.cells #[.int .i64 0, .int .i64 0] 58)).heap.size = w.heap.size + 1) := Lib.hid (by simp)
  have HEn := Lib.hid (fun W (h : Below w.heap.size w W) => refEnds_any u keys W (hk.below h))
  obtain ⟨a, c, rfl, -, -⟩ := hk.form'
  obtain ⟨a4, c4, b4, o4, hv4, ha4, hc4, hcm4, hx4⟩ := hl
  subst hv4
  obtain rfl := ha4 (by simp)
  have z0 := hx4 0 _ rfl 0 _ rfl
  have z1 := hx4 1 _ rfl 0 _ rfl
  have z2 := hx4 2 _ rfl 0 _ rfl
  simp only [Nat.mul_one, Nat.add_zero] at z0 z1 z2
  have Z := Lib.hid (fun W (h : Below w.heap.size w W) => (⟨(h.cell (World.block_lt_of_cell? w _ z0)).trans z0, (h.cell (World.block_lt_of_cell? w _ z1)).trans z1, (h.cell (World.block_lt_of_cell? w _ z2)).trans z2⟩ : _ ∧ _ ∧ _))
  have hl4 : [n0, n1, n2, n3].length = 4 := rfl
  rw [hl4]
  have hf : fitsI [n0, n1, n2, n3] keys ↔ n0 = keys.length ∧ n1 = (endsI keys).1 ∧ n2 = (endsI keys).2 := Iff.rfl
  have HF := Lib.hid hf
  have HH : Hid (headEr [n0, n1, n2, n3] keys = if 40 < keys.length then .bare 8 else if fitsI [n0, n1, n2, n3] keys then .nil else .bare 3) := Lib.hid rfl
  clear hx4 ha4 hc4 hcm4 hl4 hf hk z0 z1 z2
  generalize endsI keys = en at *
  obtain ⟨lo, hi⟩ := en
  simp only at HEn HF
  by_cases h40 : 40 < keys.length
  case pos =>
    have g : (40 : Int) < (keys.length : Int) := by omega
    have HHe : Hid (headEr [n0, n1, n2, n3] keys = .bare 8) := Lib.hid (by rw [HH.out, if_pos h40])
    clear h40
    go_enter Tryz.func122, Tryz.ntmps122
    go_wp2_with fail
    generalize w.alloc (.cells #[.int .i64 0, .int .i64 0] 58) = w0 at *
    have hb0r : Below w0.heap.size w0 w0 := Below.refl _ _
    refine (refBare_any 8 _).mono ?_
    rintro e wB ⟨rfl, hbB⟩
    have hb0B := (hb0r).trans (hbB.mono (hb0r).size)
    have hbwB := (hba).trans (hbB.mono (hba).size)
    have hg := HG.out _ (hb0B)
    have c0' : wB.cell? ⟨w.heap.size, 0, none⟩ = some (.int .i64 0) := by simp [World.cell?, hg]
    have c1' : wB.cell? ⟨w.heap.size, 1, none⟩ = some (.int .i64 0) := by simp [World.cell?, hg]
    have f0' : wB.frozen? ⟨w.heap.size, 0, none⟩ = false := by simp [World.frozen?, hg]
    have f1' : wB.frozen? ⟨w.heap.size, 1, none⟩ = false := by simp [World.frozen?, hg]
    have HGg := Lib.hid hg; clear hg
    unfold faultV
    go_wp2_with fail
    refine bodyPost_ret (fault_c (g := w.heap.size) rfl rfl (set_two HGg.out _ _)) rfl ⟨by rw [HHe.out]; rfl, ((hbwB).setCell (by simp) _).setCell (by simp) _⟩
  have g : decide ((40 : Int) < (keys.length : Int)) = false := by simp; omega
  have hway : (fitsI [n0, n1, n2, n3] keys ∧ (n0 != (keys.length : Int)) = false ∧ (n1 != lo) = false ∧ (n2 != hi) = false) ∨ (¬ fitsI [n0, n1, n2, n3] keys ∧ ((n0 != (keys.length : Int)) = true ∨ ((n0 != (keys.length : Int)) = false ∧ ((n1 != lo) = true ∨ ((n1 != lo) = false ∧ (n2 != hi) = true))))) := by
    by_cases h1 : n0 = (keys.length : Int)
    · by_cases h2 : n1 = lo
      · by_cases h3 : n2 = hi
        · exact .inl ⟨HF.out.2 ⟨h1, h2, h3⟩, by simpa using h1, by simpa using h2, by simpa using h3⟩
        · exact .inr ⟨fun h => h3 (HF.out.1 h).2.2, .inr ⟨by simpa using h1, .inr ⟨by simpa using h2, by simpa using h3⟩⟩⟩
      · exact .inr ⟨fun h => h2 (HF.out.1 h).2.1, .inr ⟨by simpa using h1, .inl (by simpa using h2)⟩⟩
    · exact .inr ⟨fun h => h1 (HF.out.1 h).1, .inl (by simpa using h1)⟩
  rcases hway with ⟨hf, g1, g2, g3⟩ | ⟨hf, hw⟩
  case inl =>
    have HHe : Hid (headEr [n0, n1, n2, n3] keys = .nil) := Lib.hid (by rw [HH.out, if_neg h40, if_pos hf])
    clear hf h40
    go_enter Tryz.func122, Tryz.ntmps122
    go_wp2_with fail
    generalize w.alloc (.cells #[.int .i64 0, .int .i64 0] 58) = w0 at *
    have hb0r : Below w0.heap.size w0 w0 := Below.refl _ _
    refine (HEn.out _ hba).mono ?_
    rintro e w1 ⟨rfl, rfl⟩
    obtain ⟨z0, z1, z2⟩ := Z.out _ hba
    go_wp2_with fail
    refine (refFine_any _).mono ?_
    rintro e wB ⟨rfl, hbB⟩
    have hb0B := (hb0r).trans (hbB.mono (hb0r).size)
    have hbwB := (hba).trans (hbB.mono (hba).size)
    have hg := HG.out _ (hb0B)
    have c0' : wB.cell? ⟨w.heap.size, 0, none⟩ = some (.int .i64 0) := by simp [World.cell?, hg]
    have c1' : wB.cell? ⟨w.heap.size, 1, none⟩ = some (.int .i64 0) := by simp [World.cell?, hg]
    have f0' : wB.frozen? ⟨w.heap.size, 0, none⟩ = false := by simp [World.frozen?, hg]
    have f1' : wB.frozen? ⟨w.heap.size, 1, none⟩ = false := by simp [World.frozen?, hg]
    have HGg := Lib.hid hg; clear hg
    unfold faultV
    go_wp2_with fail
    refine bodyPost_ret (fault_c (g := w.heap.size) rfl rfl (set_two HGg.out _ _)) rfl ⟨by rw [HHe.out]; rfl, ((hbwB).setCell (by simp) _).setCell (by simp) _⟩
  have HHe : Hid (headEr [n0, n1, n2, n3] keys = .bare 3) := Lib.hid (by rw [HH.out, if_neg h40, if_neg hf])
  clear hf h40
  rcases hw with g1 | ⟨g1, g2 | ⟨g2, g3⟩⟩
  all_goals
    go_enter Tryz.func122, Tryz.ntmps122
    go_wp2_with fail
    generalize w.alloc (.cells #[.int .i64 0, .int .i64 0] 58) = w0 at *
    have hb0r : Below w0.heap.size w0 w0 := Below.refl _ _
    refine (HEn.out _ hba).mono ?_
    rintro e w1 ⟨rfl, rfl⟩
    obtain ⟨z0, z1, z2⟩ := Z.out _ hba
    go_wp2_with fail
    refine (refBare_any 3 _).mono ?_
    rintro e wB ⟨rfl, hbB⟩
    have hb0B := (hb0r).trans (hbB.mono (hb0r).size)
    have hbwB := (hba).trans (hbB.mono (hba).size)
    have hg := HG.out _ (hb0B)
    have c0' : wB.cell? ⟨w.heap.size, 0, none⟩ = some (.int .i64 0) := by simp [World.cell?, hg]
    have c1' : wB.cell? ⟨w.heap.size, 1, none⟩ = some (.int .i64 0) := by simp [World.cell?, hg]
    have f0' : wB.frozen? ⟨w.heap.size, 0, none⟩ = false := by simp [World.frozen?, hg]
    have f1' : wB.frozen? ⟨w.heap.size, 1, none⟩ = false := by simp [World.frozen?, hg]
    have HGg := Lib.hid hg; clear hg
    unfold faultV
    go_wp2_with fail
    refine bodyPost_ret (fault_c (g := w.heap.size) rfl rfl (set_two HGg.out _ _)) rfl ⟨by rw [HHe.out]; rfl, ((hbwB).setCell (by simp) _).setCell (by simp) _⟩
end Go.Proofs.YtpfohfihkmjnaaaGreatDoor
namespace Go.Proofs.YtpfohfihkmjnaaaGreatDoor
open Go.RowKit
theorem results_ttc {P : Program} {fn : Func} {u v p : Tmp} {ty : TypeId} (h : fn.results = #[.tmp u, .tmp v, .cell p ty]) (tmps : Array Value) (w : World) (g : Nat) (t : TypeId) (cs : Array Value) (fr : Nat × Nat) (d : TypeDesc)
    (hp : tmps.getD p undef = .pointer (some ⟨g, 0, none⟩)) (hg : w.heap[g]? = some (.cells cs t fr))
    (hu : P.underlying ty = some d) (hd : (match d with | .struct _ | .array _ _ => true | _ => false) = true) (hi : (P.info? ty).map (·.size) = some cs.size) {x y : Value} (hx : tmps.getD u undef = x) (hy : tmps.getD v undef = y) :
    (results fn tmps).run P w = .ok (.tuple #[x, y, .agg cs]) w := by
  have hp' : tmps[p]?.getD undef = .pointer (some ⟨g, 0, none⟩) := by simpa using hp
  have hx' : tmps[u]?.getD undef = x := by simpa using hx
  have hy' : tmps[v]?.getD undef = y := by simpa using hy
  simp [results, h, hp', hx', hy', asAddr, run_loadVar_row w g t ty cs fr d hg hu hd hi]
theorem fault_ttc {fn : Func} {u v p : Tmp} (h : fn.results = #[.tmp u, .tmp v, .cell p 58]) {tmps : Array Value} {w : World} {g : Nat} {c q : Int} {x y : Value} (hp : tmps.getD p undef = .pointer (some ⟨g, 0, none⟩)) (hg : w.heap[g]? = some (.cells #[.int .i64 c, .int .i64 q] 58 (0, 0))) (hx : tmps.getD u undef = x) (hy : tmps.getD v undef = y) :
    (results fn tmps).run Tryz.prog w = .ok (.tuple #[x, y, faultV c q]) w :=
  results_ttc h tmps w g 58 #[.int .i64 c, .int .i64 q] (0, 0) _ hp hg Tryz.underlying58 rfl (by kernel_rfl) hx hy
theorem two_far {W : World} {g B : Nat} (h : g < B) (x y : Value) : ∀ p : Addr, B ≤ p.block → ((W.setCell ⟨g, 0, none⟩ x).setCell ⟨g, 1, none⟩ y).cell? p = W.cell? p := fun p hp => by
  have hne : p.block ≠ g := by omega
  rw [World.cell?_setCell_other _ _ _ _ (fun e => hne (by rw [← e])), World.cell?_setCell_other _ _ _ _ (fun e => hne (by rw [← e]))]
theorem clean_take {s : Str} {k : Nat} (h : ∀ j < k, ∀ x, s[j]? = some x → x ≠ 10) : (10 : UInt8) ∉ s.take k := fun hm => by
  obtain ⟨j, hj⟩ := List.getElem?_of_mem hm
  have hjl := (List.getElem?_eq_some_iff.1 hj).1
  rw [List.length_take] at hjl
  rw [List.getElem?_take_of_lt (by omega)] at hj
  exact h j (by omega) 10 hj rfl
/-- The numbers of a head, of its words. -/
def headW (word : Str) (ws : List Str) : Option (List Int) := match ws with
  | [t, a, b, c, d] => if t = word then numsOf [a, b, c, d] else none
  | _ => none
theorem headN_cut {t s p q : Str} (h : Lib.cut s [10] = (p, q, true)) : headN t s = headW t (cutAt 32 p) := by
  unfold headN headW
  rw [h, if_pos rfl]; rfl
theorem headW_len {t : Str} {ws : List Str} (h : ws.length ≠ 5) : headW t ws = none := by
  unfold headW
  split
  · exact absurd rfl h
  · rfl
theorem headW_bad {t x a b c d : Str} (h : x ≠ t) : headW t [x, a, b, c, d] = none := by
  show (if x = t then _ else _) = _
  rw [if_neg h]
theorem headW_num {t a b c d : Str} : headW t [t, a, b, c, d] = numsOf [a, b, c, d] := by
  show (if t = t then _ else _) = _
  rw [if_pos rfl]
theorem headW_none {t x a b c d : Str} (h : numsOf [a, b, c, d] = none) : headW t [x, a, b, c, d] = none := by
  show (if x = t then _ else _) = _
  split
  · exact h
  · rfl
theorem splitE_has {t s bd : Str} {n0 n1 n2 n3 : Int} (hl : ¬ 20000 < s.length) (h : headN t s = some [n0, n1, n2, n3]) (hb : (Lib.cut s [10]).2.1 = bd) :
    splitE t s = (if n3 = (sumOf bd : Int) then .nil else .bare 10) ∧ splitN t s = [n0, n1, n2, n3] ∧ splitL s = cutAt 10 bd := by
  refine ⟨?_, ?_, ?_⟩
  · unfold splitE
    rw [if_neg hl, h, hb]; rfl
  · unfold splitN
    rw [h]; rfl
  · unfold splitL
    rw [hb]
theorem bad_split {t s : Str} {e : Er} (h : splitE t s = e) (he : e ≠ .nil) {p : Prop} : splitE t s = .nil → p := fun h' => absurd (h.symm.trans h') he
def SplitPost (w : World) (t s : Str) (e : Ending) (w' : World) : Prop := ∃ u v, e = .returned (.tuple #[u, v, faultOf (splitE t s)]) ∧ (splitE t s = .nil → IntsAt w' u (splitN t s) ∧ StrsAt w' v (splitL s)) ∧ Below w.heap.size w w'
set_option maxHeartbeats 4000000 in
set_option maxRecDepth 20000 in
theorem splitText_any (t s : Str) (w : World) (hs2 : s.length ≤ 100000) :
    Calls Tryz.prog 120 #[S t, S s] w (SplitPost w t s) := by
  have hba : Below w.heap.size w (w.alloc (.cells #[.int .i64 0, .int .i64 0] 58)) := (Below.refl w.heap.size w).alloc (Nat.le_refl _) (.cells #[.int .i64 0, .int .i64 0] 58)
  have hG := fun W (h : Below (w.alloc (.cells #[.int .i64 0, .int .i64 0] 58)).heap.size (w.alloc (.cells #[.int .i64 0, .int .i64 0] 58)) W) => ((h.block w.heap.size (by simp)).trans (heap_alloc_new w (.cells #[.int .i64 0, .int .i64 0] 58)))
  have HG := Lib.hid hG; clear hG
  have HSz : Hid ((w.alloc (.cells #[.int .i64 0, .int .i64 0] 58)).heap.size = w.heap.size + 1) := Lib.hid (by simp)
  go_enter Tryz.func120, Tryz.ntmps120
  go_upto_region 1 with fail
  generalize w.alloc (.cells #[.int .i64 0, .int .i64 0] 58) = w0 at *
  have hb0r : Below w0.heap.size w0 w0 := Below.refl _ _
  by_cases hlong : 20000 < s.length
  case pos =>
    have g1 : (20000 : Int) < s.length := by omega
    have HE : Hid (splitE t s = .bare 2) := Lib.hid (by unfold splitE; rw [if_pos hlong])
    clear hlong
    go_wp2_with fail
    refine (refBare_any 2 _).mono ?_
    rintro e wB ⟨rfl, hbB⟩
    have hb0B := (hb0r).trans (hbB.mono (hb0r).size)
    have hbwB := (hba).trans (hbB.mono (hba).size)
    have hg := HG.out _ (hb0B)
    have c0' : wB.cell? ⟨w.heap.size, 0, none⟩ = some (.int .i64 0) := by simp [World.cell?, hg]
    have c1' : wB.cell? ⟨w.heap.size, 1, none⟩ = some (.int .i64 0) := by simp [World.cell?, hg]
    have f0' : wB.frozen? ⟨w.heap.size, 0, none⟩ = false := by simp [World.frozen?, hg]
    have f1' : wB.frozen? ⟨w.heap.size, 1, none⟩ = false := by simp [World.frozen?, hg]
    have HGg := Lib.hid hg; clear hg
    unfold faultV
    go_wp2_with fail
    refine bodyPost_ret (fault_ttc (g := w.heap.size) rfl rfl (set_two HGg.out _ _) rfl rfl) rfl ⟨_, _, by rw [HE.out]; rfl, bad_split HE.out (by simp), ((hbwB).setCell (by simp) _).setCell (by simp) _⟩
  have g1 : decide ((20000 : Int) < s.length) = false := by simp; omega
  have HLn := Lib.hid hlong
  clear hlong
  go_upto_block 0 with fail
  go_cut [7] (fun u wx => ∃ k : Nat, u = .int .i64 k ∧ k ≤ s.length ∧ (∀ j < k, ∀ x, s[j]? = some x → x ≠ 10) ∧ (∀ x, s[k]? = some x → x = 10) ∧ wx = w0)
  case first =>
    go_wp2_with fail
    go_loop [7] (fun i => ∃ k : Nat, i = .int .i64 k ∧ k ≤ s.length ∧ Hid (∀ j < k, ∀ x, s[j]? = some x → x ≠ 10)) (fun i => s.length - (intOf i).toNat)
    case atStart => exact ⟨0, rfl, by omega, Lib.hid fun j hj => absurd hj (by omega)⟩
    case round =>
      obtain ⟨k, rfl, hk, hj⟩ := hrel
      by_cases hlt : k < s.length
      case neg =>
        have f : decide ((k : Int) < (s.length : Int)) = false := by simp; omega
        go_wp2_with fail
        go_meet
        refine ⟨k, rfl, hk, hj.out, ?_, rfl⟩
        intro x hx
        rw [List.getElem?_eq_none (by omega)] at hx
        cases hx
      have f : (k : Int) < (s.length : Int) := by omega
      obtain ⟨x, hxk⟩ := get_ex hlt
      have ix := str_at (P := Tryz.prog) Tryz.underlying9 s k x hxk
      have HX := Lib.hid hxk
      clear hxk
      by_cases h10 : x = 10
      · have e : ((x.toNat : Int) != 10) = false := by rw [h10]; rfl
        have H10 := Lib.hid h10
        clear h10
        go_wp2_with fail
        go_meet
        refine ⟨k, rfl, hk, hj.out, fun y hy => ?_, rfl⟩
        rw [HX.out] at hy
        cases hy
        exact H10.out
      · have e : ((x.toNat : Int) != 10) = true := by
          rw [bne_iff_ne]
          intro h
          exact h10 (UInt8.toNat_inj.1 (by show x.toNat = 10; omega))
        have H10 := Lib.hid h10
        clear h10
        go_wp2_with fail
        refine ⟨⟨k + 1, by go_num, by omega, Lib.hid fun j hj' y hy => ?_⟩, by simp [intOf]; omega⟩
        rcases Nat.lt_or_ge j k with h | h
        · exact hj.out j h y hy
        · obtain rfl : j = k := by omega
          rw [HX.out] at hy
          cases hy
          exact H10.out
  case rest =>
    obtain ⟨k, rfl, hk, hj, hk2, hwc⟩ := hcut
    rw [hwc]
    clear hwc
    have HN10 := Lib.hid (clean_take hj)
    have HK2 := Lib.hid hk2
    clear hj hk2
    by_cases hnl : k = s.length
    case pos =>
      have HE : Hid (splitE t s = .bare 1) := Lib.hid (splitE_none HLn.out (headN_no (by have := HN10.out; rw [hnl, List.take_length] at this; rw [cut_none1 this])))
      have e0 : ((k : Int) == (s.length : Int)) = true := by rw [beq_iff_eq]; omega
      clear hnl
      go_wp2_with fail
      refine (refBare_any 1 _).mono ?_
      rintro e wB ⟨rfl, hbB⟩
      have hb0B := (hb0r).trans (hbB.mono (hb0r).size)
      have hbwB := (hba).trans (hbB.mono (hba).size)
      have hg := HG.out _ (hb0B)
      have c0' : wB.cell? ⟨w.heap.size, 0, none⟩ = some (.int .i64 0) := by simp [World.cell?, hg]
      have c1' : wB.cell? ⟨w.heap.size, 1, none⟩ = some (.int .i64 0) := by simp [World.cell?, hg]
      have f0' : wB.frozen? ⟨w.heap.size, 0, none⟩ = false := by simp [World.frozen?, hg]
      have f1' : wB.frozen? ⟨w.heap.size, 1, none⟩ = false := by simp [World.frozen?, hg]
      have HGg := Lib.hid hg; clear hg
      unfold faultV
      go_wp2_with fail
      refine bodyPost_ret (fault_ttc (g := w.heap.size) rfl rfl (set_two HGg.out _ _) rfl rfl) rfl ⟨_, _, by rw [HE.out]; rfl, bad_split HE.out (by simp), ((hbwB).setCell (by simp) _).setCell (by simp) _⟩
    have hk10 : s[k]? = some 10 := by
      obtain ⟨x, hx⟩ := get_ex (l := s) (k := k) (by omega)
      rw [hx, HK2.out x hx]
    have hcut' : Lib.cut s [10] = (s.take k, s.drop (k + 1), true) := by
      have hsp : s = s.take k ++ 10 :: s.drop (k + 1) := by
        obtain ⟨hlt, he⟩ := List.getElem?_eq_some_iff.1 hk10
        rw [← he, ← List.drop_eq_getElem_cons hlt, List.take_append_drop]
      have h := cut_app1 (q := s.drop (k + 1)) HN10.out
      rw [← hsp] at h
      exact h
    have hHA : headN t s = headW t (cutAt 32 (s.take k)) := headN_cut hcut'
    have HBody : Hid ((Lib.cut s [10]).2.1 = s.drop (k + 1)) := Lib.hid (by rw [hcut'])
    have e0 : ((k : Int) == (s.length : Int)) = false := beq_eq_false_iff_ne.2 (by omega)
    have hkl : k < s.length := by omega
    have hsl := str_to (P := Tryz.prog) Tryz.underlying9 s k hk hs2
    have htl : (s.take k).length = k := by rw [List.length_take]; omega
    have HC := Lib.hid (cut32_any (s.take k) w0 (by omega))
    have HWm : Hid (∀ x ∈ cutAt 32 (s.take k), x.length ≤ 100000) := Lib.hid fun x hx => by have := cutAt_mem_len (c := 32) hx; omega
    clear hcut' hk10 hnl HK2 htl
    generalize cutAt 32 (s.take k) = Wd at *
    go_wp2_with fail
    refine HC.out.mono ?_
    rintro e w2 ⟨v2, rfl, hown, hb2⟩
    have hbw2 := hba.trans (hb2.mono hba.size)
    clear HC hsl
    by_cases h5 : Wd.length = 5
    case neg =>
      have e5 : ((Wd.length : Int) != 5) = true := by rw [bne_iff_ne]; omega
      have HE : Hid (splitE t s = .bare 1) := Lib.hid (splitE_none HLn.out (hHA.trans (headW_len h5)))
      obtain ⟨av, cv, rfl, -, -⟩ := At.form' (hown.at encS_enc)
      clear hHA h5 hown
      go_wp2_with fail
      refine (refBare_any 1 _).mono ?_
      rintro e wB ⟨rfl, hbB⟩
      have hb0B := (hb2).trans (hbB.mono (hb2).size)
      have hbwB := (hbw2).trans (hbB.mono (hbw2).size)
      have hg := HG.out _ (hb0B)
      have c0' : wB.cell? ⟨w.heap.size, 0, none⟩ = some (.int .i64 0) := by simp [World.cell?, hg]
      have c1' : wB.cell? ⟨w.heap.size, 1, none⟩ = some (.int .i64 0) := by simp [World.cell?, hg]
      have f0' : wB.frozen? ⟨w.heap.size, 0, none⟩ = false := by simp [World.frozen?, hg]
      have f1' : wB.frozen? ⟨w.heap.size, 1, none⟩ = false := by simp [World.frozen?, hg]
      have HGg := Lib.hid hg; clear hg
      unfold faultV
      go_wp2_with fail
      refine bodyPost_ret (fault_ttc (g := w.heap.size) rfl rfl (set_two HGg.out _ _) rfl rfl) rfl ⟨_, _, by rw [HE.out]; rfl, bad_split HE.out (by simp), ((hbwB).setCell (by simp) _).setCell (by simp) _⟩
    obtain ⟨x0, a, b, c, d, rfl⟩ := five_strs h5
    have HHa := Lib.hid hHA
    clear hHA h5
    obtain ⟨a', c', b', o', hv', ha', hc', hcm', hx'⟩ := hown.at encS_enc
    subst hv'
    obtain rfl := ha' (by simp)
    obtain ⟨b3, o3, c3, hrun, hat3⟩ := slice_from (enc := encS) (sz := 1) Tryz.underlying39 szStr ha' hc' hcm' hx' 1 (by simp) (by simp)
    have x0' := hx' 0 _ rfl 0 _ rfl
    simp only [List.length_cons, List.length_nil, Nat.zero_add, Nat.reduceAdd, Nat.reduceSub, Nat.mul_one, Nat.add_zero, List.drop_succ_cons, List.drop_zero] at hrun hat3 x0'
    have e2 : ((1 : Nat) : Int) = 1 := rfl
    rw [e2] at hrun
    clear ha' hx' hown hcm' e2
    have hl5 : [x0, a, b, c, d].length = 5 := rfl
    rw [hl5] at hc' ⊢
    have HNu := Lib.hid (numbersOf_any _ [a, b, c, d] w2 hat3 (by simp) (fun x hx => HWm.out x (List.mem_cons_of_mem _ hx)))
    clear hat3 hl5
    go_wp2_with fail
    refine HNu.out.mono ?_
    rintro e w3 ⟨vn, rfl, hv1, hv2, hb3⟩
    have hb03 := hb2.trans (hb3.mono hb2.size)
    have hbw3 := hbw2.trans (hb3.mono hbw2.size)
    have y0 := (hb3.cell (World.block_lt_of_cell? w2 _ x0')).trans x0'
    clear hrun x0' HNu
    cases hn : numsOf [a, b, c, d] with
    | none =>
      obtain rfl := hv2 hn
      have HE : Hid (splitE t s = .bare 1) := Lib.hid (splitE_none HLn.out (HHa.out.trans (headW_none hn)))
      clear hn hv1 hv2
      simp only [Option.isSome_none]
      go_wp2_with fail
      refine (refBare_any 1 _).mono ?_
      rintro e wB ⟨rfl, hbB⟩
      have hb0B := (hb03).trans (hbB.mono (hb03).size)
      have hbwB := (hbw3).trans (hbB.mono (hbw3).size)
      have hg := HG.out _ (hb0B)
      have c0' : wB.cell? ⟨w.heap.size, 0, none⟩ = some (.int .i64 0) := by simp [World.cell?, hg]
      have c1' : wB.cell? ⟨w.heap.size, 1, none⟩ = some (.int .i64 0) := by simp [World.cell?, hg]
      have f0' : wB.frozen? ⟨w.heap.size, 0, none⟩ = false := by simp [World.frozen?, hg]
      have f1' : wB.frozen? ⟨w.heap.size, 1, none⟩ = false := by simp [World.frozen?, hg]
      have HGg := Lib.hid hg; clear hg
      unfold faultV
      go_wp2_with fail
      refine bodyPost_ret (fault_ttc (g := w.heap.size) rfl rfl (set_two HGg.out _ _) rfl rfl) rfl ⟨_, _, by rw [HE.out]; rfl, bad_split HE.out (by simp), ((hbwB).setCell (by simp) _).setCell (by simp) _⟩
    | some ns =>
      have hown := hv1 ns hn
      obtain ⟨n0, n1, n2, n3, rfl⟩ := four_ints (l := ns) (by have := mapM_len _ hn; simpa using this)
      simp only [Option.isSome_some]
      by_cases ht : x0 = t
      case neg =>
        have gt : (x0 == t) = false := by simpa using ht
        have HE : Hid (splitE t s = .bare 1) := Lib.hid (splitE_none HLn.out (HHa.out.trans (headW_bad ht)))
        obtain ⟨a1, a2, rfl, -, -⟩ := At.form' (hown.at encI_enc)
        clear hn hv1 hv2 ht hown
        go_wp2_with fail
        refine (refBare_any 1 _).mono ?_
        rintro e wB ⟨rfl, hbB⟩
        have hb0B := (hb03).trans (hbB.mono (hb03).size)
        have hbwB := (hbw3).trans (hbB.mono (hbw3).size)
        have hg := HG.out _ (hb0B)
        have c0' : wB.cell? ⟨w.heap.size, 0, none⟩ = some (.int .i64 0) := by simp [World.cell?, hg]
        have c1' : wB.cell? ⟨w.heap.size, 1, none⟩ = some (.int .i64 0) := by simp [World.cell?, hg]
        have f0' : wB.frozen? ⟨w.heap.size, 0, none⟩ = false := by simp [World.frozen?, hg]
        have f1' : wB.frozen? ⟨w.heap.size, 1, none⟩ = false := by simp [World.frozen?, hg]
        have HGg := Lib.hid hg; clear hg
        unfold faultV
        go_wp2_with fail
        refine bodyPost_ret (fault_ttc (g := w.heap.size) rfl rfl (set_two HGg.out _ _) rfl rfl) rfl ⟨_, _, by rw [HE.out]; rfl, bad_split HE.out (by simp), ((hbwB).setCell (by simp) _).setCell (by simp) _⟩
      have gt : (x0 == t) = true := by simpa using ht
      have hsf := str_from (P := Tryz.prog) Tryz.underlying9 s (k + 1) (by omega) hs2
      rw [show ((k + 1 : Nat) : Int) = (k : Int) + 1 by omega] at hsf
      obtain ⟨bd, hbd⟩ : ∃ bd, s.drop (k + 1) = bd := ⟨_, rfl⟩
      obtain ⟨hE, hNs, hLs⟩ := splitE_has HLn.out (HHa.out.trans (by rw [ht, headW_num, hn])) (HBody.out.trans hbd)
      have hbl : bd.length ≤ 100000 := by rw [← hbd, List.length_drop]; omega
      rw [hbd] at hsf
      have HSm := Lib.hid (fun q => (refSum_any bd (w3.drewN q) hbl).mono fun e w' (h : _ ∧ w3.drewN q = w') => (⟨h.1, h.2.symm⟩ : _ ∧ w' = w3.drewN q))
      have HI := Lib.hid hown
      have HNs := Lib.hid hNs
      have HLs := Lib.hid hLs
      obtain ⟨a4, c4, b4, o4, hv4, ha4, hc4, hcm4, hx4⟩ := hown.at encI_enc
      subst hv4
      obtain rfl := ha4 (by simp)
      have z3 := hx4 3 _ rfl 0 _ rfl
      simp only [Nat.mul_one, Nat.add_zero] at z3
      have hl4 : [n0, n1, n2, n3].length = 4 := rfl
      rw [hl4] at hc4 HI ⊢
      have HT := Lib.hid ht
      clear hx4 hown ha4 hcm4 hl4 hn hv1 hv2 hNs hLs ht hbd HBody HHa
      by_cases hsum : n3 = (sumOf bd : Int)
      case neg =>
        have e9 : (n3 != (sumOf bd : Int)) = true := by rw [bne_iff_ne]; exact hsum
        have HE : Hid (splitE t s = .bare 10) := Lib.hid (by rw [hE, if_neg hsum])
        clear hsum hE
        generalize sumOf bd = sm at *
        go_wp2_with fail
        go_quiet (first | (go_at_call 117; refine Calls.quiet_of_same (HSm.out _)))
        go_wp2_with fail
        refine (refBare_any 10 _).mono ?_
        rintro e wB ⟨rfl, hbB⟩
        have hb0B := ((Bdn hb03 _)).trans (hbB.mono ((Bdn hb03 _)).size)
        have hbwB := ((Bdn hbw3 _)).trans (hbB.mono ((Bdn hbw3 _)).size)
        have hg := HG.out _ (hb0B)
        have c0' : wB.cell? ⟨w.heap.size, 0, none⟩ = some (.int .i64 0) := by simp [World.cell?, hg]
        have c1' : wB.cell? ⟨w.heap.size, 1, none⟩ = some (.int .i64 0) := by simp [World.cell?, hg]
        have f0' : wB.frozen? ⟨w.heap.size, 0, none⟩ = false := by simp [World.frozen?, hg]
        have f1' : wB.frozen? ⟨w.heap.size, 1, none⟩ = false := by simp [World.frozen?, hg]
        have HGg := Lib.hid hg; clear hg
        unfold faultV
        go_wp2_with fail
        refine bodyPost_ret (fault_ttc (g := w.heap.size) rfl rfl (set_two HGg.out _ _) rfl rfl) rfl ⟨_, _, by rw [HE.out]; rfl, bad_split HE.out (by simp), ((hbwB).setCell (by simp) _).setCell (by simp) _⟩
      have e9 : (n3 != (sumOf bd : Int)) = false := by rw [hsum]; simp
      have HE : Hid (splitE t s = .nil) := Lib.hid (by rw [hE, if_pos hsum])
      clear hsum hE
      generalize sumOf bd = sm at *
      go_wp2_with fail
      go_quiet (first | (go_at_call 117; refine Calls.quiet_of_same (HSm.out _)))
      go_wp2_with fail
      refine (cut10_any bd _ hbl).mono ?_
      rintro e w5 ⟨vL, rfl, hownL, hb5⟩
      have hb35 := (Bdn (Below.refl w3.heap.size w3) _).trans (hb5.mono (Bdn (Below.refl w3.heap.size w3) _).size)
      have hb05 := hb03.trans (hb35.mono hb03.size)
      have hbw5 := hbw3.trans (hb35.mono hbw3.size)
      have HOL := Lib.hid hownL
      obtain ⟨aL, cL, rfl, -, -⟩ := At.form' (hownL.at encS_enc)
      have hz := HSz.out
      have hz2 := hb2.size
      have hz3 := hb03.size
      have HZ2 : Hid (w.heap.size < w2.heap.size) := Lib.hid (by omega)
      have HZ3 : Hid (w.heap.size < w3.heap.size) := Lib.hid (by omega)
      clear hownL z3 hz hz2 hz3
      go_wp2_with fail
      refine (refFine_any _).mono ?_
      rintro e wB ⟨rfl, hbB⟩
      have hb0B := (hb05).trans (hbB.mono (hb05).size)
      have hbwB := (hbw5).trans (hbB.mono (hbw5).size)
      have hg := HG.out _ (hb0B)
      have c0' : wB.cell? ⟨w.heap.size, 0, none⟩ = some (.int .i64 0) := by simp [World.cell?, hg]
      have c1' : wB.cell? ⟨w.heap.size, 1, none⟩ = some (.int .i64 0) := by simp [World.cell?, hg]
      have f0' : wB.frozen? ⟨w.heap.size, 0, none⟩ = false := by simp [World.frozen?, hg]
      have f1' : wB.frozen? ⟨w.heap.size, 1, none⟩ = false := by simp [World.frozen?, hg]
      have HGg := Lib.hid hg; clear hg
      unfold faultV
      go_wp2_with fail
      refine bodyPost_ret (fault_ttc (g := w.heap.size) rfl rfl (set_two HGg.out _ _) rfl rfl) rfl ⟨_, _, by rw [HE.out]; rfl, fun _ => ⟨by rw [HNs.out]; exact Own.stays encI_enc (HI.out.below (hb35.trans (hbB.mono hb35.size))) (two_far HZ2.out _ _), by rw [HLs.out]; exact Own.stays encS_enc (HOL.out.below hbB) (two_far HZ3.out _ _)⟩, ((hbwB).setCell (by simp) _).setCell (by simp) _⟩
theorem splitE_code {t s : Str} (h : splitE t s ≠ .nil) : 0 < (splitE t s).code := by
  by_cases hl : 20000 < s.length
  · rw [splitE_long hl]; decide
  cases hn : headN t s with
  | none => rw [splitE_none hl hn]; decide
  | some n =>
    rw [splitE_some hl hn] at h ⊢
    split
    · rename_i h3
      exact absurd (if_pos h3) h
    · decide
theorem freshCell {w w6 : World} {cs : Array Value} {t : TypeId} (h : Below (w.alloc (.cells cs t)).heap.size (w.alloc (.cells cs t)) w6) (j : Nat) {x : Value} (hx : cs[j]? = some x) : w6.cell? ⟨w.heap.size, j, none⟩ = some x := by
  have h1 : (w.alloc (.cells cs t)).cell? ⟨w.heap.size, j, none⟩ = some x := by
    rw [cell_of_row (w.alloc _) w.heap.size _ _ t (0, 0) (heap_alloc_new w _)]; exact hx
  exact (h.cell (World.block_lt_of_cell? _ _ h1)).trans h1
theorem splitL_ne (s : Str) : splitL s ≠ [] := cutAt_ne 10 _
theorem readEr_head {word s : Str} {bad : List Str → Nat → Nat} {keys : List Str → List Int} (h : splitE word s = .nil) (h2 : eachEr (bad (splitL s)) (splitL s) = .nil) : readEr word s bad keys = headEr (splitN word s) (keys (splitL s).dropLast) := by
  unfold readEr headEr; rw [if_neg (by simpa using h), if_neg (by simpa using h2)]
theorem headEr_code {n keys : List Int} (h : headEr n keys ≠ .nil) : 0 < (headEr n keys).code := by
  unfold headEr at h ⊢
  split
  · decide
  · rename_i h1
    rw [if_neg h1] at h
    split
    · rename_i h3
      exact absurd (if_pos h3) h
    · decide
theorem lineF_fin {bad : Nat → Nat} {ls : List Str} {k : Nat} {x : Str} (h : k + 1 = ls.length) (hx : ls[k]? = some x) : lineF bad ls k = if x = [] then 0 else 1 := by
  unfold lineF
  rw [if_pos h, hx]
  by_cases e : x = []
  · rw [if_pos e, if_pos (by rw [e])]
  · rw [if_neg e, if_neg (fun h => e (Option.some.inj h))]
def RgPost (w : World) (s : Str) (e : Ending) (w' : World) : Prop := ∃ u, e = .returned (.tuple #[u, faultOf (goneE s)]) ∧ FarI w.heap.size w' u (goneL s) ∧ Below w.heap.size w w'
theorem rg_bad {w W : World} {s : Str} {tmps : Array Value} {cc pp : Int} (h2 : tmps.getD 2 undef = .slice none 0 0) (hp : tmps.getD 3 undef = .pointer (some ⟨w.heap.size, 0, none⟩)) (hne : goneE s ≠ .nil) (hcc : ((goneE s).code : Int) = cc) (hpp : (goneE s).place = pp)
    (hF : W.heap[w.heap.size]? = some (.cells #[.int .i64 0, .int .i64 0] 58 (0, 0))) (hb : Below w.heap.size w W) :
    bodyPost Tryz.prog Tryz.f81 (RgPost w s) .ret ⟨tmps, []⟩ ((W.setCell ⟨w.heap.size, 0, none⟩ (.int .i64 cc)).setCell ⟨w.heap.size, 1, none⟩ (.int .i64 pp)) := by
  subst hcc hpp
  refine bodyPost_ret (fault_tc (g := w.heap.size) rfl hp (set_two hF _ _) h2) rfl ⟨_, rfl, ?_, ((hb).setCell (by simp) _).setCell (by simp) _⟩
  rw [show goneL s = [] from if_neg hne]
  exact fun _ _ => At.nil _ _ _
theorem rg_bad_drew {w W : World} {s : Str} {tmps : Array Value} {cc pp : Int} (h2 : tmps.getD 2 undef = .slice none 0 0) (hp : tmps.getD 3 undef = .pointer (some ⟨w.heap.size, 0, none⟩)) (hne : goneE s ≠ .nil) (hcc : ((goneE s).code : Int) = cc) (hpp : (goneE s).place = pp)
    (hF : W.heap[w.heap.size]? = some (.cells #[.int .i64 0, .int .i64 0] 58 (0, 0))) (hb : Below w.heap.size w W) :
    bodyPost Tryz.prog Tryz.f81 (RgPost w s) .ret ⟨tmps, []⟩ ((W.setCell ⟨w.heap.size, 0, none⟩ (.int .i64 cc)).setCell ⟨w.heap.size, 1, none⟩ (.int .i64 pp)).drew := by
  subst hcc hpp
  refine bodyPost_ret (fault_tc (g := w.heap.size) rfl hp (by rw [World.heap_drew]; exact set_two hF _ _) h2) rfl ⟨_, rfl, ?_, Bdn (((hb).setCell (by simp) _).setCell (by simp) _) 1⟩
  rw [show goneL s = [] from if_neg hne]
  exact fun _ _ => At.nil _ _ _
set_option maxHeartbeats 8000000 in
set_option maxRecDepth 20000 in
theorem readGone_any (s : Str) (w : World) (hs : s.length ≤ 50000) :
    Calls Tryz.prog 81 #[S s] w (RgPost w s) := by
  have hba : Below w.heap.size w (w.alloc (.cells #[.int .i64 0, .int .i64 0] 58)) := (Below.refl w.heap.size w).alloc (Nat.le_refl _) (.cells #[.int .i64 0, .int .i64 0] 58)
  have hG := fun W (h : Below (w.alloc (.cells #[.int .i64 0, .int .i64 0] 58)).heap.size (w.alloc (.cells #[.int .i64 0, .int .i64 0] 58)) W) => ((h.block w.heap.size (by simp)).trans (heap_alloc_new w (.cells #[.int .i64 0, .int .i64 0] 58)))
  have HG := Lib.hid hG; clear hG
  have HSz : Hid ((w.alloc (.cells #[.int .i64 0, .int .i64 0] 58)).heap.size = w.heap.size + 1) := Lib.hid (by simp)
  obtain ⟨hll, hlm⟩ := splitL_len hs
  have hne0 := splitL_ne s
  have HE0 : Hid (splitE kGone s ≠ .nil → goneE s = splitE kGone s) := Lib.hid readEr_split
  have HCd := Lib.hid (@splitE_code kGone s)
  have HF4 := Lib.hid (@splitN_four kGone s)
  have HEh : Hid (splitE kGone s = .nil → eachEr (goneBad (splitL s)) (splitL s) = .nil → goneE s = headEr (splitN kGone s) ((splitL s).dropLast.map numD)) := Lib.hid readEr_head
  have HEe : Hid (splitE kGone s = .nil → eachEr (goneBad (splitL s)) (splitL s) ≠ .nil → goneE s = eachEr (goneBad (splitL s)) (splitL s)) := Lib.hid readEr_each
  have HL : Hid (goneL s = if goneE s = .nil then (splitL s).dropLast.map numD else []) := Lib.hid rfl
  go_enter Tryz.func81, Tryz.ntmps81
  go_upto_region 1 with fail
  generalize w.alloc (.cells #[.int .i64 0, .int .i64 0] 58) = w0 at *
  have HSt := Lib.hid (splitText_any kGone s w0 (by omega))
  unfold SplitPost at HSt
  generalize splitN kGone s = ns at *
  generalize splitL s = ls at *
  go_wp2_with fail
  refine HSt.out.mono ?_
  rintro e w1 ⟨u, v, rfl, hgood, hb1⟩
  have hbw1 := hba.trans (hb1.mono hba.size)
  clear HSt
  rw [show faultOf (splitE kGone s) = .agg #[.int .i64 ((splitE kGone s).code : Int), .int .i64 (splitE kGone s).place] from rfl]
  obtain ⟨cc, hcc⟩ : ∃ cc : Int, ((splitE kGone s).code : Int) = cc := ⟨_, rfl⟩
  obtain ⟨pp, hpp⟩ : ∃ pp : Int, (splitE kGone s).place = pp := ⟨_, rfl⟩
  rw [hcc, hpp]
  have hbF : Below w1.heap.size w1 (w1.alloc (.cells #[.int .i64 cc, .int .i64 pp] 58)) := (Below.refl _ _).alloc (Nat.le_refl _) _
  have d0 : (w1.alloc (.cells #[.int .i64 cc, .int .i64 pp] 58)).cell? ⟨w1.heap.size, 0, none⟩ = some (.int .i64 cc) := freshCell (Below.refl _ _) 0 rfl
  have d1 : (w1.alloc (.cells #[.int .i64 cc, .int .i64 pp] 58)).cell? ⟨w1.heap.size, 1, none⟩ = some (.int .i64 pp) := freshCell (Below.refl _ _) 1 rfl
  have hgT := heap_alloc_new w1 (.cells #[.int .i64 cc, .int .i64 pp] 58)
  have h1z : w1.heap.size < (w1.alloc (.cells #[.int .i64 cc, .int .i64 pp] 58)).heap.size := by simp
  have h0z := HSz.out
  have h01 := hb1.size
  obtain ⟨T, hT⟩ : ∃ T, w1.heap.size = T := ⟨_, rfl⟩
  rw [hT] at d0 d1 hgT h1z h01
  go_upto_region 2 with fail
  generalize w1.alloc (.cells #[.int .i64 cc, .int .i64 pp] 58) = w2 at *
  have hb12 := hb1.trans (hbF.mono hb1.size)
  have hbw2 := hba.trans (hb12.mono hba.size)
  have n1 : ¬ (T = w.heap.size) := by omega
  have n3 : ¬ (w.heap.size = T) := by omega
  by_cases h0 : splitE kGone s = .nil
  case neg =>
    have hpos : (0 : Int) < cc := by have := HCd.out h0; omega
    have HNe : Hid (goneE s = splitE kGone s) := Lib.hid (HE0.out h0)
    have HN0 := Lib.hid h0
    have HCc := Lib.hid hcc
    have HPp := Lib.hid hpp
    clear h0 hcc hpp hgood hgT
    have hg := HG.out _ (hb12)
    have c0' : w2.cell? ⟨w.heap.size, 0, none⟩ = some (.int .i64 0) := by simp [World.cell?, hg]
    have c1' : w2.cell? ⟨w.heap.size, 1, none⟩ = some (.int .i64 0) := by simp [World.cell?, hg]
    have f0' : w2.frozen? ⟨w.heap.size, 0, none⟩ = false := by simp [World.frozen?, hg]
    have f1' : w2.frozen? ⟨w.heap.size, 1, none⟩ = false := by simp [World.frozen?, hg]
    have HGg := Lib.hid hg; clear hg
    go_wp2_with fail
    go_region_law (fail)
    all_goals
      go_wp2_with fail
      exact rg_bad_drew rfl rfl (by rw [HNe.out]; exact HN0.out) (by rw [HNe.out]; exact HCc.out) (by rw [HNe.out]; exact HPp.out) HGg.out hbw2
  have hcc0 : cc = 0 := by rw [← hcc, h0]; rfl
  subst hcc0
  obtain ⟨hon, hol⟩ := hgood h0
  obtain ⟨m0, m1, m2, m3, hns⟩ := HF4.out h0
  have HEh2 : Hid (eachEr (goneBad ls) ls = .nil → goneE s = headEr [m0, m1, m2, m3] (ls.dropLast.map numD)) := Lib.hid fun h => by rw [HEh.out h0 h, hns]
  have HE2 : Hid (∀ {c k : Nat}, firstErr (lineF (goneBad ls) ls) ls.length = .loc c k → goneE s = .loc c k) := Lib.hid fun h => (HEe.out h0 (by unfold eachEr; rw [h]; simp)).trans h
  rw [hns] at hon
  have HU := Lib.hid (fun W (h : Below w1.heap.size w1 W) => hon.below h)
  obtain ⟨au, cu, rfl, -, -⟩ := hon.form'
  obtain ⟨a, c, b, o, rfl, ha, hc, hcm, hx⟩ := hol
  unfold maxLen at hcm
  have HX := Lib.hid hx
  have HLm := Lib.hid hlm
  have hlpos : 0 < ls.length := List.length_pos_iff.2 hne0
  obtain rfl := ha hlpos
  have TS := Lib.hid (fun W (h : Below w2.heap.size w2 W) => (h.block T (Array.getElem?_eq_some_iff.1 hgT).1).trans hgT)
  clear hx hcc hpp hon h0 hns hgood hgT HE0 HCd HF4 HEh HEe hne0 hlm ha
  have hl4 : [m0, m1, m2, m3].length = 4 := rfl
  rw [hl4]
  clear hl4
  go_wp2_with fail
  go_loopw [2, 7, 8] (fun r out i wr => r = .slice none 0 0 ∧ ∃ k : Nat, k < ls.length ∧ i = .int .i64 k ∧ Hid (∀ j < k, lineF (goneBad ls) ls j = 0) ∧ Own encI 3 1 w2.heap.size wr out ((ls.take k).map numD) ∧ Below w2.heap.size w2 wr) (fun _ _ i _ => ls.length - (intOf i).toNat)
  case atStart => exact ⟨rfl, 0, hlpos, rfl, Lib.hid fun j hj => absurd hj (by omega), Own.nil _ _ _ _ _, Below.refl _ _⟩
  case round =>
    obtain ⟨rfl, k, hk, rfl, hj, ho, hb⟩ := hrel
    obtain ⟨wo, rfl⟩ : ∃ wo, wo = wr := ⟨wr, rfl⟩
    have hb02 := hb12.trans (hb.mono hb12.size)
    have hbwo := hbw2.trans (hb.mono hbw2.size)
    have hb1o := hbF.trans (hb.mono hbF.size)
    obtain ⟨x, hxk⟩ := get_ex hk
    have c1 := HX.out k x hxk 0 _ rfl
    have c1 := (hb1o.cell (World.block_lt_of_cell? w1 _ c1)).trans c1
    have i1 := idx_at (n := ls.length) (c := c) (b := b) (o := o) 1 Tryz.underlying39 szStr (fun _ => rfl) k hk
    simp only [Nat.mul_one, Nat.add_zero] at c1 i1
    have f : (k : Int) < (ls.length : Int) := by omega
    have hxl := HLm.out x (List.mem_of_getElem? hxk)
    have HO := Lib.hid ho
    have hql : ((ls.take k).map numD).length = k := by rw [List.length_map, List.length_take]; omega
    by_cases hlast : k + 1 = ls.length
    case pos =>
      have g : ((k : Int) == (ls.length : Int) - 1) = true := by rw [beq_iff_eq]; omega
      have hlf := lineF_fin (bad := goneBad ls) hlast hxk
      have hdrop : ls.take k = ls.dropLast := by rw [List.dropLast_eq_take]; congr 1; omega
      have HDrop := Lib.hid hdrop
      clear hxk ho hdrop hql
      by_cases hxe : x = []
      case neg =>
        have gl : x.isEmpty = false := by simpa using hxe
        have HLf : Hid (lineF (goneBad ls) ls k = 1) := Lib.hid (by rw [hlf, if_neg hxe])
        clear hlf hxe
        generalize (ls.take k).map numD = q at *
        have HNe : Hid (goneE s = .loc 1 k) := Lib.hid (HE2.out (firstErr_hit (by omega) hj.out (by rw [HLf.out]; decide)) |>.trans (by rw [HLf.out]))
        have hg := HG.out _ (hb02)
        have c0' : wo.cell? ⟨w.heap.size, 0, none⟩ = some (.int .i64 0) := by simp [World.cell?, hg]
        have c1' : wo.cell? ⟨w.heap.size, 1, none⟩ = some (.int .i64 0) := by simp [World.cell?, hg]
        have f0' : wo.frozen? ⟨w.heap.size, 0, none⟩ = false := by simp [World.frozen?, hg]
        have f1' : wo.frozen? ⟨w.heap.size, 1, none⟩ = false := by simp [World.frozen?, hg]
        have HGg := Lib.hid hg; clear hg
        go_wp2_with fail
        exact rg_bad rfl rfl (by rw [HNe.out]; simp) (by rw [HNe.out]; rfl) (by rw [HNe.out]; rfl) HGg.out hbwo
      subst hxe
      have gl : ([] : Str).isEmpty = true := rfl
      rw [if_pos rfl] at hlf
      have he : eachEr (goneBad ls) ls = .nil := firstErr_all fun j hj' => (by
        rcases Nat.lt_or_ge j k with h | h
        · exact hj.out j h
        · obtain rfl : j = k := by omega
          exact hlf)
      have hGe := HEh2.out he
      rw [← HDrop.out] at hGe HL
      clear he hlf hlast
      generalize (ls.take k).map numD = q at *
      have HH := Lib.hid (headFault_any (.slice au 4 cu) m0 m1 m2 m3 _ q wo (HU.out _ hb1o) (HO.out.at encI_enc))
      have HHc := Lib.hid (@headEr_code [m0, m1, m2, m3] q)
      obtain ⟨aq, cq, rfl, -, -⟩ := (HO.out.at encI_enc).form'
      generalize headEr [m0, m1, m2, m3] q = he at *
      have HGe := Lib.hid hGe
      clear hGe
      go_wp2_with fail
      refine HH.out.mono ?_
      rintro e w3 ⟨rfl, hb3⟩
      have hb23 := hb.trans (hb3.mono hb.size)
      have hgT3 := TS.out _ hb23
      have t0 : w3.cell? ⟨T, 0, none⟩ = some (.int .i64 0) := by rw [cell_of_row w3 _ _ _ _ (0, 0) hgT3]; rfl
      have t1 : w3.cell? ⟨T, 1, none⟩ = some (.int .i64 pp) := by rw [cell_of_row w3 _ _ _ _ (0, 0) hgT3]; rfl
      have q0 : w3.frozen? ⟨T, 0, none⟩ = false := frozen_row hgT3
      have q1 : w3.frozen? ⟨T, 1, none⟩ = false := frozen_row hgT3
      rw [show faultOf he = .agg #[.int .i64 (he.code : Int), .int .i64 he.place] from rfl]
      obtain ⟨c2, hc2⟩ : ∃ c2 : Int, (he.code : Int) = c2 := ⟨_, rfl⟩
      obtain ⟨p2, hp2⟩ : ∃ p2 : Int, he.place = p2 := ⟨_, rfl⟩
      rw [hc2, hp2]
      have HC2 := Lib.hid hc2
      have HP2 := Lib.hid hp2
      clear hc2 hp2
      go_upto_region 22 with fail
      have hb03 := hb12.trans (hb23.mono hb12.size)
      have hT0 : w0.heap.size ≤ T := h01
      have hb04 : Below w0.heap.size w0 ((w3.setCell ⟨T, 0, none⟩ (.int .i64 c2)).setCell ⟨T, 1, none⟩ (.int .i64 p2)) := (hb03.setCell (p := ⟨T, 0, none⟩) hT0 _).setCell (p := ⟨T, 1, none⟩) hT0 _
      have hbw4 := hba.trans (hb04.mono hba.size)
      have hg4 := set_two hgT3 (.int .i64 c2) (.int .i64 p2)
      have hw4 : ((w3.setCell ⟨T, 0, none⟩ (.int .i64 c2)).setCell ⟨T, 1, none⟩ (.int .i64 p2)).heap.size = w3.heap.size := by simp
      have HK4 := Lib.hid (two_far (W := w3) h1z (.int .i64 c2) (.int .i64 p2))
      clear t0 t1 q0 q1 hgT3
      generalize (w3.setCell ⟨T, 0, none⟩ (.int .i64 c2)).setCell ⟨T, 1, none⟩ (.int .i64 p2) = w4 at *
      have u0 : w4.cell? ⟨T, 0, none⟩ = some (.int .i64 c2) := by rw [cell_of_row w4 _ _ _ _ (0, 0) hg4]; rfl
      have u1 : w4.cell? ⟨T, 1, none⟩ = some (.int .i64 p2) := by rw [cell_of_row w4 _ _ _ _ (0, 0) hg4]; rfl
      have HW4 := Lib.hid hw4
      clear hg4 hw4
      by_cases hh : he = .nil
      case neg =>
        have hpos : (0 : Int) < c2 := by have := HHc.out hh; have := HC2.out; omega
        have HN0 := Lib.hid hh
        clear hh
        have hg := HG.out _ (hb04)
        have c0' : w4.cell? ⟨w.heap.size, 0, none⟩ = some (.int .i64 0) := by simp [World.cell?, hg]
        have c1' : w4.cell? ⟨w.heap.size, 1, none⟩ = some (.int .i64 0) := by simp [World.cell?, hg]
        have f0' : w4.frozen? ⟨w.heap.size, 0, none⟩ = false := by simp [World.frozen?, hg]
        have f1' : w4.frozen? ⟨w.heap.size, 1, none⟩ = false := by simp [World.frozen?, hg]
        have HGg := Lib.hid hg; clear hg
        go_wp2_with fail
        go_region_law (fail)
        all_goals
          go_wp2_with fail
          exact rg_bad_drew rfl rfl (by rw [HGe.out]; exact HN0.out) (by rw [HGe.out]; exact HC2.out) (by rw [HGe.out]; exact HP2.out) HGg.out hbw4
      have hc20 : c2 = 0 := by rw [← HC2.out, hh]; rfl
      subst hc20
      have HE : Hid (goneE s = .nil) := Lib.hid (by rw [HGe.out, hh])
      have HLq : Hid (goneL s = q) := Lib.hid (by rw [HL.out, if_pos HE.out])
      clear hh
      go_wp2_with fail
      refine (refFine_any _).mono ?_
      rintro e wB ⟨rfl, hbB⟩
      have hb0B := (hb04).trans (hbB.mono (hb04).size)
      have hbwB := (hbw4).trans (hbB.mono (hbw4).size)
      have hg := HG.out _ (hb0B)
      have c0' : wB.cell? ⟨w.heap.size, 0, none⟩ = some (.int .i64 0) := by simp [World.cell?, hg]
      have c1' : wB.cell? ⟨w.heap.size, 1, none⟩ = some (.int .i64 0) := by simp [World.cell?, hg]
      have f0' : wB.frozen? ⟨w.heap.size, 0, none⟩ = false := by simp [World.frozen?, hg]
      have f1' : wB.frozen? ⟨w.heap.size, 1, none⟩ = false := by simp [World.frozen?, hg]
      have HGg := Lib.hid hg; clear hg
      unfold faultV
      go_wp2_with fail
      refine bodyPost_ret (fault_tc (g := w.heap.size) rfl rfl (set_two HGg.out _ _) rfl) rfl ⟨_, by rw [HE.out]; rfl, by rw [HLq.out]; exact fun W hW => Own.stays3 encI_enc (HO.out.below hb3) (fun p hp hp3 => (hW p (by omega) (by have h1 := hbB.size; rw [HW4.out] at h1; simp; omega)).trans ((two_far (B := w2.heap.size) (by omega) _ _ p hp).trans ((hbB.cell (by rw [HW4.out]; exact hp3)).trans (HK4.out p hp)))), ((hbwB).setCell (by simp) _).setCell (by simp) _⟩
    have g : ((k : Int) == (ls.length : Int) - 1) = false := by simp; omega
    have hlf := lineF_mid (bad := goneBad ls) hlast
    have HNu := Lib.hid (numberOf_any x wo (by omega))
    rw [numRef_eq] at HNu
    have hk1 : k + 1 < ls.length := by omega
    have hsn : (ls.take (k + 1)).map numD = (ls.take k).map numD ++ [numD x] := by rw [take_snoc' hxk, List.map_append]; rfl
    have hprev : ∀ y, 0 < k → ((ls.take k).map numD)[k - 1]? = some y → ((∃ t, ls[k - 1]? = some t ∧ numD x ≤ numD t) ↔ numD x ≤ y) := fun y h0 hy => by
      rw [List.getElem?_map, List.getElem?_take_of_lt (by omega)] at hy
      cases ht : ls[k - 1]? with
      | none => rw [ht] at hy; cases hy
      | some t =>
        rw [ht] at hy
        cases hy
        exact ⟨fun ⟨t', e, h⟩ => by cases e; exact h, fun h => ⟨t, rfl, h⟩⟩
    have HHx := Lib.hid hxk
    clear hxk
    cases hno : numOf x with
    | none =>
      have HLf : Hid (lineF (goneBad ls) ls k = 1) := Lib.hid (hlf.trans (goneBad_none HHx.out hno))
      simp only [hno, Option.isSome_none, Option.getD_none] at HNu
      clear hlf hno hprev hsn hql
      generalize (ls.take k).map numD = q at *
      have HNe : Hid (goneE s = .loc 1 k) := Lib.hid (HE2.out (firstErr_hit (by omega) hj.out (by rw [HLf.out]; decide)) |>.trans (by rw [HLf.out]))
      go_wp2_with fail
      refine HNu.out.mono ?_
      rintro e w' ⟨rfl, rfl⟩
      have hg := HG.out _ (hb02)
      have c0' : wo.cell? ⟨w.heap.size, 0, none⟩ = some (.int .i64 0) := by simp [World.cell?, hg]
      have c1' : wo.cell? ⟨w.heap.size, 1, none⟩ = some (.int .i64 0) := by simp [World.cell?, hg]
      have f0' : wo.frozen? ⟨w.heap.size, 0, none⟩ = false := by simp [World.frozen?, hg]
      have f1' : wo.frozen? ⟨w.heap.size, 1, none⟩ = false := by simp [World.frozen?, hg]
      have HGg := Lib.hid hg; clear hg
      go_wp2_with fail
      exact rg_bad rfl rfl (by rw [HNe.out]; simp) (by rw [HNe.out]; rfl) (by rw [HNe.out]; rfl) HGg.out hbwo
    | some n =>
      have hnd : numD x = n := by unfold numD; rw [hno]; rfl
      simp only [hno, Option.isSome_some, Option.getD_some] at HNu
      rw [hnd] at hsn hprev
      by_cases hf : farN n
      case pos =>
        have hd : decide (farN n) = true := decide_eq_true hf
        have HLf : Hid (lineF (goneBad ls) ls k = 2) := Lib.hid (hlf.trans (goneBad_far HHx.out hno hf))
        clear hlf hno hprev hsn hql hnd hf
        generalize (ls.take k).map numD = q at *
        have HNe : Hid (goneE s = .loc 2 k) := Lib.hid (HE2.out (firstErr_hit (by omega) hj.out (by rw [HLf.out]; decide)) |>.trans (by rw [HLf.out]))
        go_wp2_with fail
        refine HNu.out.mono ?_
        rintro e w' ⟨rfl, rfl⟩
        have hg := HG.out _ (hb02)
        have c0' : wo.cell? ⟨w.heap.size, 0, none⟩ = some (.int .i64 0) := by simp [World.cell?, hg]
        have c1' : wo.cell? ⟨w.heap.size, 1, none⟩ = some (.int .i64 0) := by simp [World.cell?, hg]
        have f0' : wo.frozen? ⟨w.heap.size, 0, none⟩ = false := by simp [World.frozen?, hg]
        have f1' : wo.frozen? ⟨w.heap.size, 1, none⟩ = false := by simp [World.frozen?, hg]
        have HGg := Lib.hid hg; clear hg
        go_wp2_with (first | (go_at_call 77; refine (isFar_any _ _).mono ?_; rintro e w' ⟨rfl, rfl⟩; try rw [hd]))
        exact rg_bad rfl rfl (by rw [HNe.out]; simp) (by rw [HNe.out]; rfl) (by rw [HNe.out]; rfl) HGg.out hbwo
      have hd : decide (farN n) = false := decide_eq_false hf
      have hlf2 := hlf.trans (goneBad_near HHx.out hno hf)
      have HLf2 := Lib.hid hlf2
      have HSn := Lib.hid hsn
      have HPrev := Lib.hid hprev
      have HQl := Lib.hid hql
      clear hlf hlf2 hno hprev hsn hql hnd hf
      obtain ⟨q, hq⟩ : ∃ q, (ls.take k).map numD = q := ⟨_, rfl⟩
      rw [hq] at HSn HPrev HQl HO ho
      clear hq
      by_cases h0 : 0 < k
      case' pos =>
        obtain ⟨g', cap, cur, rfl, -⟩ := ho.open (by rw [HQl.out]; exact h0)
        obtain ⟨y, hy⟩ := get_ex (l := q) (k := k - 1) (by rw [HQl.out]; omega)
        have hyc := ho.cells1 (f := Value.int .i64) encI_enc (fun _ => rfl) (k - 1) y hy
        have hpv := HPrev.out y h0 hy
        have i2 := idx_at (n := q.length) (c := cap) (b := g') (o := 0) 1 Tryz.underlying69 szInt (fun _ => rfl) (k - 1) (by rw [HQl.out]; omega)
        have hcast : ((k - 1 : Nat) : Int) = (k : Int) - 1 := by omega
        simp only [hcast, Nat.mul_one, Nat.zero_add] at i2
        have hp1 : (0 : Int) < (k : Int) := by omega
        have hs0 : (0 : Int) ≤ (k : Int) - 1 := by omega
        have hs1 : (k : Int) - 1 < (q.length : Int) := by rw [HQl.out]; omega
        clear hy hcast ho
        by_cases hle : n ≤ y
        case pos =>
          have HLf : Hid (lineF (goneBad ls) ls k = 9) := Lib.hid (by rw [HLf2.out, if_pos ⟨h0, hpv.2 hle⟩])
          clear hpv
          have HNe : Hid (goneE s = .loc 9 k) := Lib.hid (HE2.out (firstErr_hit (by omega) hj.out (by rw [HLf.out]; decide)) |>.trans (by rw [HLf.out]))
          go_wp2_with fail
          refine HNu.out.mono ?_
          rintro e w' ⟨rfl, rfl⟩
          have hg := HG.out _ (hb02)
          have c0' : wo.cell? ⟨w.heap.size, 0, none⟩ = some (.int .i64 0) := by simp [World.cell?, hg]
          have c1' : wo.cell? ⟨w.heap.size, 1, none⟩ = some (.int .i64 0) := by simp [World.cell?, hg]
          have f0' : wo.frozen? ⟨w.heap.size, 0, none⟩ = false := by simp [World.frozen?, hg]
          have f1' : wo.frozen? ⟨w.heap.size, 1, none⟩ = false := by simp [World.frozen?, hg]
          have HGg := Lib.hid hg; clear hg
          go_wp2_with (first | (go_at_call 77; refine (isFar_any _ _).mono ?_; rintro e w' ⟨rfl, rfl⟩; try rw [hd]))
          exact rg_bad rfl rfl (by rw [HNe.out]; simp) (by rw [HNe.out]; rfl) (by rw [HNe.out]; rfl) HGg.out hbwo
        have hle2 : decide (n ≤ y) = false := by simpa using hle
        have HLf0 : Hid (lineF (goneBad ls) ls k = 0) := Lib.hid (by rw [HLf2.out, if_neg (fun h => hle (hpv.1 h.2))])
        clear hpv hle
      case' neg =>
        have hp0 : decide ((0 : Int) < (k : Int)) = false := by simp; omega
        have HLf0 : Hid (lineF (goneBad ls) ls k = 0) := Lib.hid (by rw [HLf2.out, if_neg (fun h => h0 h.1)])
        clear ho
      all_goals
        go_wp2_with fail
        refine HNu.out.mono ?_
        rintro e w' ⟨rfl, rfl⟩
        go_wp2_with (first
          | (go_at_call 77; refine (isFar_any _ _).mono ?_; rintro e w' ⟨rfl, rfl⟩; try rw [hd])
          | (at_builtin; refine wpList_app rfl _ _ _ rfl w2.heap.size elInt _ q.length _ rfl (HO.out.alloc _) (.slice (some ⟨wo.heap.size, 0, none⟩) 1 1) 1 (encI n) rfl (src_one rfl rfl (by simp [Value.oneCell'])) (by rw [HQl.out]; unfold maxLen; omega) (by rw [HQl.out]; omega) (by have := hb.size; simp; omega) ?_; intro v' w5 hown5 hg5 _))
        go_roundw
        case rel => exact ⟨rfl, k + 1, hk1, by go_num, Lib.hid (fun j hj' => by
            rcases Nat.lt_or_ge j k with h | h
            · exact hj.out j h
            · obtain rfl : j = k := by omega
              exact HLf0.out), by rw [HSn.out]; exact Own.snoc hown5, Bapp (hb.alloc hb.size _) (HO.out.alloc _) hg5 (Nat.le_refl _) (by have := hb.size; simp; omega)⟩
        case measure => simp [intOf]; omega
end Go.Proofs.YtpfohfihkmjnaaaGreatDoor
