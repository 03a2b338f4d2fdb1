/- 'deedboxlaw3.ExpireTells' returns true at every input: what is kept of snaps, what they reach and what of a store is an orphan is as the document's answer has it, at every list of snaps, every numbers, every acts and every names. Condition: the package-level variables read as the program's text lays them; the card ties that. -/
import Derived.Test.YtikboodjfanjkaaGreatDoorBx16
import Derived.Test.YtikboodjfanjkaaGreatDoorRows
import Derived.Test.YtikboodjfanjkaaGreatDoorCards
import Derived.Test.YtikboodjfanjkaaGreatDoorTie
import Derived.Test.YtikboodjfanjkaaGreatDoorBx15
import Derived.Test.YtikboodjfanjkaaGreatDoorBx11
import Derived.LaidOnce
import Derived.SevenTiedAt
namespace Go.Proofs.YtikboodjfanjkaaGreatDoor
open Go.RowKit Go.Maps

theorem plain_mem {l m : List SnV} (h : plainS l = plainS m) {x : SnV} (hx : x ∈ l) : ∃ y ∈ m, y.s = x.s := by
  have : x.s ∈ plainS l := List.mem_map.2 ⟨x, hx, rfl⟩
  rw [h] at this
  exact List.mem_map.1 this
theorem FewSn.of_plain {l m : List SnV} (h : plainS l = plainS m) (hf : FewSn m) : FewSn l := by
  have hlen : l.length = m.length := by have := congrArg List.length h; simpa using this
  refine ⟨by rw [hlen]; exact hf.len, fun x hx => ?_, fun x hx => ?_⟩
  · obtain ⟨y, hy, e⟩ := plain_mem h hx
    rw [← e]; exact hf.fil y hy
  · obtain ⟨y, hy, e⟩ := plain_mem h hx
    rw [← e]; exact hf.num y hy
theorem take_ok {l : List SnV} {k : Nat} {x : SnV} {p : SnV → Prop} (h : ∀ y ∈ l.take k, p y) (hx : l[k]? = some x) (hp : p x) : ∀ y ∈ l.take (k + 1), p y := fun y hy => by
  rw [List.take_add_one, hx] at hy
  rcases List.mem_append.1 hy with h' | h'
  · exact h y h'
  · simp at h'; subst h'; exact hp
theorem plain_snoc {l out : List SnV} {k : Nat} {x y : SnV} (h : plainS out = plainS (l.take k)) (hx : l[k]? = some x) (hy : y.s = x.s) : plainS (out ++ [y]) = plainS (l.take (k + 1)) := by
  rw [List.take_add_one, hx]
  simp only [List.map_append, Option.toList_some, List.map_cons, List.map_nil, hy]
  rw [show out.map (·.s) = plainS (l.take k) from h]

set_option maxHeartbeats 4000000 in
set_option maxRecDepth 20000 in
theorem expireTells_any (E : Nat → Addr) (B : Nat) (v1 : Value) (l : List SnV) (day age count : Int) (v5 : Value) (acts : List Ac) (v6 : Value) (needed : List Str) (w : World) (hE : Errs allE E B w) (hA : AsVar w) (hgB : 12 < B) (hT : LTab B w) (_hM : LMax B w)
    (h1 : SnapsAt w v1 l) (b1 : ∀ x ∈ l, FilesAt w x.u x.s.files ∧ SnWf x.s) (h5 : ActsAt w v5 acts) (b5 : ∀ a ∈ acts, a.n ≤ 9223372036854775807) (h6 : StrsAt w v6 needed) :
    Calls Tryz.prog 3 #[v1, .int .i64 day, .int .i64 age, .int .i64 count, v5, v6] w fun e w' => e = .returned (.bool true) ∧ Below w.heap.size w w' := by
  have hBw := hE.le
  have HL := Lib.hid h1
  have HAc := Lib.hid h5
  have HNd := Lib.hid h6
  obtain ⟨a1, c1, bb1, o1, rfl, ha1, -, hm1, hx1⟩ := h1
  obtain ⟨a5, c5, bb5, o5, rfl, ha5, -, hm5, hx5⟩ := h5
  obtain ⟨a6, c6, bb6, o6, rfl, ha6, -, hm6, hx6⟩ := h6
  unfold maxLen at hm1 hm5 hm6
  go_enter Tryz.func3, Tryz.ntmps3
  go_wp2_with fail
  refine (expired_any B w hT).mono ?_
  rintro e w1 ⟨rfl, hb1⟩
  by_cases h10 : l.length ≤ 10
  case neg =>
    have g : (10 : Int) < (l.length : Int) := by omega
    go_wp2_with fail
    go_ret
    exact ⟨rfl, hb1⟩
  have g10 : decide ((10 : Int) < (l.length : Int)) = false := by simp; omega
  go_wp2_with fail
  refine (longActs_any _ acts _ (HAc.out.below hb1)).mono ?_
  rintro e w2 ⟨rfl | ⟨rfl, h80, hok⟩, hb2⟩
  · go_wp2_with fail
    go_ret
    exact ⟨rfl, hb1.trans (hb2.mono hb1.size)⟩
  have hb2' := hb1.trans (hb2.mono hb1.size)
  by_cases h20 : needed.length ≤ 20
  case neg =>
    have g : (20 : Int) < (needed.length : Int) := by omega
    go_wp2_with fail
    go_ret
    exact ⟨rfl, hb2'⟩
  have g20 : decide ((20 : Int) < (needed.length : Int)) = false := by simp; omega
  have HK := Lib.hid hok
  have HB1 := Lib.hid b1
  have HB5 := Lib.hid b5
  clear hb1 hb2 hok b1 b5
  go_wp2_with fail
  clear g10 g20
  go_loopw [14, 15] (fun u i wr => ∃ (k : Nat) (out : List SnV), i = .int .i64 k ∧ k ≤ l.length ∧ out.length = k ∧ Hid (plainS out = plainS (l.take k)) ∧ Own encSn 30 7 w.heap.size wr u out ∧ Hid (HeldO w.heap.size wr out) ∧ Hid (∀ y ∈ l.take k, y.s.files.length ≤ 61) ∧ Below w.heap.size w wr) (fun _ i _ => l.length - (intOf i).toNat)
  case atStart => exact ⟨0, [], rfl, by omega, rfl, Lib.hid rfl, Own.nil encSn _ 7 _ _, Lib.hid (fun x hx => by cases hx), Lib.hid (fun y hy => by simp at hy), hb2'⟩
  case round =>
    obtain ⟨k, out, rfl, hk, hol, HO, ho, HH, H61, hb⟩ := hrel
    clear hb2'
    by_cases hlt : k < l.length
    case pos =>
      obtain ⟨x, hxk⟩ := get_ex hlt
      have hxm := List.mem_of_getElem? hxk
      obtain ⟨q0, q1, q2, q3, q4, q5, q6⟩ := snAtCells hx1 hb hxk
      have i1 := idx_at (c := c1) 7 Tryz.underlying22 szSn ha1 k hlt
      have f : (k : Int) < (l.length : Int) := by omega
      have hfx := (HB1.out x hxm).1
      have HX := Lib.hid hxk
      have HFx := Lib.hid hfx
      clear hxk hxm hfx
      go_wp2_with fail
      refine (longSnap_any x.s x.u wr (HFx.out.below hb)).mono ?_
      rintro e w3 ⟨he, hb3⟩
      have hbw3 := hb.trans (hb3.mono hb.size)
      rcases he with rfl | ⟨rfl, -, h61, -⟩
      · go_wp2_with fail
        go_ret
        exact ⟨rfl, hbw3⟩
      have ho3 := ho.below hb3
      have HH3 := Lib.hid (HH.out.below hb3)
      have q0 := (hb3.cell (World.block_lt_of_cell? _ _ q0)).trans q0
      have q1 := (hb3.cell (World.block_lt_of_cell? _ _ q1)).trans q1
      have q2 := (hb3.cell (World.block_lt_of_cell? _ _ q2)).trans q2
      have q3 := (hb3.cell (World.block_lt_of_cell? _ _ q3)).trans q3
      have q4 := (hb3.cell (World.block_lt_of_cell? _ _ q4)).trans q4
      have q5 := (hb3.cell (World.block_lt_of_cell? _ _ q5)).trans q5
      have q6 := (hb3.cell (World.block_lt_of_cell? _ _ q6)).trans q6
      clear ho HH hb3 hb
      go_wp2_with fail
      refine (ownSnapO_any x.s x.u w3 (HFx.out.below hbw3) (by omega)).mono ?_
      rintro e w4 ⟨u, rfl, hou, hb4⟩
      obtain ⟨⟨ys, ya, yn, yc⟩, hys, hyu⟩ := snV_of (hou.at encF_enc)
      simp only at hys hyu
      subst hys
      simp only [SnV.u] at hyu
      subst hyu
      have hbw4 := hbw3.trans (hb4.mono hbw3.size)
      have ho4 := ho3.below hb4
      have HH4 := Lib.hid (HH3.out.below hb4)
      have hou4 := own_low hou hbw3.size
      have HOu := Lib.hid hou4
      clear q0 q1 q2 q3 q4 q5 q6 ho3 HH3 hb4 hou hou4
      obtain ⟨d0, d1, d2, d3, d4, d5, d6⟩ := snapCells (w := w4) (s := x.s) (v := .slice ya yn yc) (t := 30) (Below.refl _ _)
      have hbA : Below w4.heap.size w4 (w4.alloc (.cells #[.int .i64 x.s.id, .int .i64 x.s.parent, .int .i64 x.s.seq, .int .i64 x.s.day, .int .i64 x.s.index, S x.s.op, .slice ya yn yc] 30)) := (Below.refl _ _).alloc (Nat.le_refl _) _
      have hbwA := hbw4.trans (hbA.mono hbw4.size)
      have hoA := ho4.below hbA
      have HHA := Lib.hid (HH4.out.below hbA)
      have HOA := Lib.hid (HOu.out.below hbA)
      clear hbA ho4 HH4 HOu
      go_upto_region 11 with fail
      generalize w4.alloc (.cells #[.int .i64 x.s.id, .int .i64 x.s.parent, .int .i64 x.s.seq, .int .i64 x.s.day, .int .i64 x.s.index, S x.s.op, .slice ya yn yc] 30) = wA at *
      go_wp2_with (at_builtin; refine wpList_app rfl _ _ _ rfl w.heap.size elSn _ out.length _ rfl (hoA.alloc _) (.slice (some ⟨wA.heap.size, 0, none⟩) 1 1) 1 (encSn ⟨x.s, ya, yn, yc⟩) rfl (src_one rfl rfl (by simp [Value.oneCell'])) (by unfold maxLen; omega) (by omega) (by have := hbwA.size; simp; omega) ?_; intro v7 w7 hown hg _; have hb7 := Bapp (hbwA.alloc hbwA.size _) (hoA.alloc _) hg (Nat.le_refl _) (by have := hbwA.size; simp; omega); have HH7 := Lib.hid (((HHA.out.below ((Below.refl _ _).alloc (Nat.le_refl _) _)).snoc (x := ⟨x.s, ya, yn, yc⟩) (HOA.out.below ((Below.refl _ _).alloc (Nat.le_refl _) _))).app (hoA.alloc _) hg))
      go_roundw
      case rel => exact ⟨k + 1, out ++ [⟨x.s, ya, yn, yc⟩], by go_num, by omega, by simp [hol], Lib.hid (plain_snoc HO.out HX.out rfl), Own.snoc hown, HH7, Lib.hid (take_ok H61.out HX.out h61), hb7⟩
      case measure => simp [intOf]; omega
    obtain rfl : k = l.length := by omega
    have f : decide ((l.length : Int) < (l.length : Int)) = false := by simp
    have hpl : plainS out = plainS l := by rw [HO.out, List.take_length]
    have hfl : FewSn l := ⟨by omega, fun x hx => by have := H61.out x (by rw [List.take_length]; exact hx); omega, fun x hx => (HB1.out x hx).2.id⟩
    have hfo := FewSn.of_plain hpl hfl
    have HPl := Lib.hid hpl
    have HFl := Lib.hid hfl
    have HFo := Lib.hid hfo
    have HOw := Lib.hid (ho.at encSn_enc)
    clear hpl hfl hfo hx1 ha1 HO H61 ho
    go_wp2_with fail
    refine (keep_any _ out day age count _ HOw.out (by omega)).mono ?_
    rintro e w3 ⟨u3, rfl, hu3, hb3⟩
    have hbw3 := hb.trans (hb3.mono hb.size)
    rw [HPl.out] at hu3
    have HU3 := Lib.hid (hu3.at encI_enc)
    have HOw3 := Lib.hid (HOw.out.below hb3)
    have HH3 := Lib.hid (HH.out.below hb3)
    clear hu3 hb3 hb HOw HH
    go_wp2_with fail
    refine (keepOf_any _ l day age count _ (HL.out.below hbw3) (by omega)).mono ?_
    rintro e w4 ⟨u4, rfl, hu4, hb4⟩
    have hbw4 := hbw3.trans (hb4.mono hbw3.size)
    have HU4 := Lib.hid (hu4.at encI_enc)
    have HU3' := Lib.hid (HU3.out.below hb4)
    have HOw4 := Lib.hid (HOw3.out.below hb4)
    have HH4 := Lib.hid (HH3.out.below hb4)
    clear hu4 hb4 hbw3 HU3 HOw3 HH3
    go_wp2_with fail
    refine (sameInts_any _ _ _ _ _ HU3'.out HU4.out).mono ?_
    rintro e w5 ⟨rfl, hb5⟩
    rw [decide_eq_true rfl]
    have hbw5 := hbw4.trans (hb5.mono hbw4.size)
    have HOw5 := Lib.hid (HOw4.out.below hb5)
    have HH5 := Lib.hid (HH4.out.below hb5)
    clear hb5 hbw4 HU3' HU4 HOw4 HH4
    go_wp2_with fail
    refine (reach_any B _ out _ (hT.below' hbw5 hBw) HOw5.out HH5.out.held HFo.out).mono ?_
    rintro e w6 ⟨u6, rfl, hu6, hb6⟩
    have hbw6 := hbw5.trans (hb6.mono hbw5.size)
    rw [HPl.out, reach_same] at hu6
    have HU6 := Lib.hid (hu6.at encS_enc)
    clear hu6 hb6 hbw5 HOw5 HH5
    go_wp2_with fail
    refine (reachOf_any _ l _ (HL.out.below hbw6) (fun x hx => (HB1.out x hx).1.below hbw6) HFl.out).mono ?_
    rintro e w7 ⟨u7, rfl, hu7, hb7⟩
    have hbw7 := hbw6.trans (hb7.mono hbw6.size)
    have HU6' := Lib.hid (HU6.out.below hb7)
    have HU7 := Lib.hid hu7
    clear hu7 hb7 hbw6 HU6
    go_wp2_with fail
    refine (sameTexts_any _ _ _ _ _ HU6'.out HU7.out).mono ?_
    rintro e w8 ⟨rfl, hb8⟩
    rw [decide_eq_true rfl]
    have hbw8 := hbw7.trans (hb8.mono hbw7.size)
    clear hb8 hbw7 HU6' HU7 HFl HFo HPl
    go_wp2_with fail
    refine (new_any _).mono ?_
    rintro e w9 ⟨sb, mb, rfl, hst, hsb, hmb, hb9⟩
    have hE8 := hE.below' hbw8 hBw
    have hA8 := hA.below hbw8 (by omega)
    go_wp2_with fail
    refine (newMod_any _).mono ?_
    rintro e w10 ⟨xb, rfl, hxb, hmd, hb10⟩
    have hsl := hst.lt
    have hml := hst.ltm
    have hz := hb9.size
    have H10 : Both w8 sb mb xb (.slice none 0 0) St.new St.new w10 := { sto := hst.below hb10, mdl := ⟨hmd.blk, own_base hmd.own hz, hmd.ok⟩, bel := hb9.trans (hb10.mono hz), h1 := hsb, h2 := hmb, h3 := Nat.le_trans hz hxb, n1 := by omega, n2 := by omega }
    have H10 := Lib.hid H10
    clear hb10 hmd hst hb9 hz
    go_wp2_with fail
    go_loopw [19] (fun i wr => ∃ (k : Nat) (v : Value) (st : St), i = .int .i64 k ∧ k ≤ acts.length ∧ Both w8 sb mb xb v st st wr) (fun i _ => acts.length - (intOf i).toNat)
    case atStart => exact ⟨0, _, _, rfl, by omega, H10.out⟩
    case round =>
      obtain ⟨k, v, st, rfl, hk, h⟩ := hrel
      have H := Lib.hid h
      clear h H10
      by_cases hlt : k < acts.length
      case pos =>
        obtain ⟨x, hxk⟩ := get_ex hlt
        have q0 := hx5 k x hxk 0 _ rfl
        have q1 := hx5 k x hxk 1 _ rfl
        have q2 := hx5 k x hxk 2 _ rfl
        have q3 := hx5 k x hxk 3 _ rfl
        have hbq := hbw8.trans (H.out.bel.mono hbw8.size)
        have q0 := (hbq.cell (World.block_lt_of_cell? w _ q0)).trans q0
        have q1 := (hbq.cell (World.block_lt_of_cell? w _ q1)).trans q1
        have q2 := (hbq.cell (World.block_lt_of_cell? w _ q2)).trans q2
        have q3 := (hbq.cell (World.block_lt_of_cell? w _ q3)).trans q3
        have i1 := idx_at (c := c5) 4 Tryz.underlying23 szAct ha5 k hlt
        have f : (k : Int) < (acts.length : Int) := by omega
        have hxo := HK.out x (List.mem_of_getElem? hxk)
        have hxn := HB5.out x (List.mem_of_getElem? hxk)
        simp only [Nat.add_zero] at q0
        clear hxk
        go_wp2_with fail
        refine (do_any E B w8 hE8 hA8 hgB sb mb xb v st x hxo hxn _ H.out).mono ?_
        rintro e w11 ⟨rfl, v11, st11, h11⟩
        have H11 := Lib.hid h11
        clear h11
        go_wp2_with fail
        go_roundw
        case rel => exact ⟨k + 1, v11, st11, by go_num, by omega, H11.out⟩
        case measure => simp [intOf]; omega
      have f : decide ((k : Int) < (acts.length : Int)) = false := by simp; omega
      clear hx5 ha5 hm5
      go_wp2_with fail
      obtain ⟨wz, hwz⟩ : ∃ wz : World, wr = wz := ⟨_, rfl⟩
      rw [hwz] at H ⊢
      clear hwz
      have hbwz := hbw8.trans (H.out.bel.mono hbw8.size)
      go_loopw [20, 21] (fun u i wr => ∃ (k : Nat) (out : List Str), i = .int .i64 k ∧ k ≤ needed.length ∧ out.length = k ∧ Hid (out = needed.take k) ∧ Own encS 9 1 wz.heap.size wr u out ∧ Below wz.heap.size wz wr) (fun _ i _ => needed.length - (intOf i).toNat)
      case atStart => exact ⟨0, [], rfl, by omega, rfl, Lib.hid rfl, Own.nil encS _ 1 _ _, Below.refl _ _⟩
      case round =>
        obtain ⟨m, out, rfl, hm, hol, HO, ho, hb⟩ := hrel
        by_cases hlm : m < needed.length
        case pos =>
          obtain ⟨y, hym⟩ := get_ex hlm
          have hbq := hbwz.trans (hb.mono hbwz.size)
          have q0 := hx6 m y hym 0 _ rfl
          have q0 := (hbq.cell (World.block_lt_of_cell? w _ q0)).trans q0
          have i1 := idx_at (c := c6) 1 Tryz.underlying24 szStr ha6 m hlm
          have f : (m : Int) < (needed.length : Int) := by omega
          simp only [Nat.add_zero, Nat.mul_one] at q0 i1
          have HY := Lib.hid hym
          clear hym
          by_cases h40 : y.length ≤ 40
          case neg =>
            have g : (40 : Int) < (y.length : Int) := by omega
            go_wp2_with fail
            go_ret
            exact ⟨rfl, hbq⟩
          have g : decide ((40 : Int) < (y.length : Int)) = false := by simp; omega
          clear h40
          go_wp2_with (at_builtin; refine wpList_app rfl _ _ _ rfl wz.heap.size elStr _ out.length _ rfl (ho.alloc _) (.slice (some ⟨wr.heap.size, 0, none⟩) 1 1) 1 [S y] rfl (src_one rfl rfl (by simp [Value.oneCell'])) (by unfold maxLen; omega) (by omega) (by have := hb.size; simp; omega) ?_; intro v3 w3 hown hg _; have hb3 := Bapp (hb.alloc hb.size _) (ho.alloc _) hg (Nat.le_refl _) (by have := hb.size; simp; omega))
          go_roundw
          case rel => exact ⟨m + 1, out ++ [y], by go_num, by omega, by simp [hol], Lib.hid (by rw [List.take_add_one, HY.out, HO.out]; rfl), Own.snoc hown, hb3⟩
          case measure => simp [intOf]; omega
        obtain rfl : m = needed.length := by omega
        have f : decide ((needed.length : Int) < (needed.length : Int)) = false := by simp
        have hout : out = needed := by rw [HO.out, List.take_length]
        subst hout
        have HS := Lib.hid (ho.at encS_enc)
        have HR := Lib.hid (H.out.below hb)
        have hbwr := hbwz.trans (hb.mono hbwz.size)
        clear hx6 ha6 hm6 ho hb HO
        go_wp2_with fail
        refine (orphans_any sb mb st _ out age _ HR.out.sto HS.out (by omega)).mono ?_
        rintro e w11 ⟨u11, rfl, hu11, hb11⟩
        have HR11 := Lib.hid (HR.out.below hb11)
        have HS11 := Lib.hid (HS.out.below hb11)
        have hbw11 := hbwr.trans (hb11.mono hbwr.size)
        have HU11 := Lib.hid hu11
        clear hu11 hb11 hbwr HR HS
        go_wp2_with fail
        refine (orphansOf_any w8.heap.size xb v st _ out age _ HR11.out.mdl (HNd.out.below hbw11)).mono ?_
        rintro e w12 ⟨u12, rfl, hu12, hb12⟩
        have hbw12 := hbw11.trans (hb12.mono hbw11.size)
        have HS12 := Lib.hid (HS11.out.below hb12)
        have HU12 := Lib.hid hu12
        have HU11' := Lib.hid (HU11.out.below hb12)
        clear hu12 hb12 hbw11 HR11 HS11 HU11
        go_wp2_with fail
        refine (sameTexts_any _ _ _ _ _ HU11'.out HU12.out).mono ?_
        rintro e w13 ⟨rfl, hb13⟩
        rw [decide_eq_true rfl]
        have hbw13 := hbw12.trans (hb13.mono hbw12.size)
        have HS13 := Lib.hid (HS12.out.below hb13)
        clear hb13 hbw12 HS12 HU11' HU12
        go_wp2_with fail
        refine (orphansNil_any _ out age _ HS13.out).mono ?_
        rintro e w14 ⟨rfl, hb14⟩
        go_wp2_with fail
        go_ret
        exact ⟨rfl, hbw13.trans (hb14.mono hbw13.size)⟩
end Go.Proofs.YtikboodjfanjkaaGreatDoor
namespace Go.Proofs.YtikboodjfanjkaaGreatDoor
open Go.ChangeShapes Go.WideShapes Go.ChangeAt Go.WideMaps Go.WideElems Go.RowKit

theorem own : ownKnob Tryz.prog.godebug = none := by kernel_rfl

theorem expireTells_met (os : Os) (args : Array Value) : laidMetH Tryz.prog Rows.expireTellsRow.laid ((witW os Rows.expireTellsRow.laid).forCall (fun _ _ => 0) ⟨#[], args, []⟩).memory := by
  exact witW_met os Rows.expireTellsRow.laid args (by kernel_rfl) (by kernel_rfl) (by kernel_rfl)

def expireTellsIdx : Nat → Nat
  | 1 => 4
  | 2 => 5
  | 3 => 6
  | 4 => 7
  | 5 => 8
  | 6 => 9
  | 7 => 10
  | 8 => 11
  | 9 => 12
  | 10 => 13
  | 11 => 14
  | _ => 15

theorem expireTells_errs {W : World} (h : laidMet Tryz.prog (Rows.expireTellsRow.laid.filter fun x => x.2.handleName?.isNone) W) : Errs allE (addrOf W) W.heap.size W := by
  refine errs_of_laid h allE expireTellsIdx (by decide) ?_ ?_ ?_
  · intro c hc
    simp only [allE, List.mem_cons, List.mem_nil_iff, or_false] at hc
    rcases hc with rfl | rfl | rfl | rfl | rfl | rfl | rfl | rfl | rfl | rfl | rfl | rfl
    · exact gn1
    · exact gn2
    · exact gn3
    · exact gn4
    · exact gn5
    · exact gn6
    · exact gn7
    · exact gn8
    · exact gn9
    · exact gn10
    · exact gn11
    · exact gn12
  · intro c hc
    simp only [allE, List.mem_cons, List.mem_nil_iff, or_false] at hc
    rcases hc with rfl | rfl | rfl | rfl | rfl | rfl | rfl | rfl | rfl | rfl | rfl | rfl
    · exact gt1
    · exact gt2
    · exact gt3
    · exact gt4
    · exact gt5
    · exact gt6
    · exact gt7
    · exact gt8
    · exact gt9
    · exact gt10
    · exact gt11
    · exact gt12
  · intro c hc
    simp only [allE, List.mem_cons, List.mem_nil_iff, or_false] at hc
    rcases hc with rfl | rfl | rfl | rfl | rfl | rfl | rfl | rfl | rfl | rfl | rfl | rfl <;> exact ⟨_, rfl⟩

theorem expireTells_tab {W : World} (h : laidMet Tryz.prog (Rows.expireTellsRow.laid.filter fun x => x.2.handleName?.isNone) W) (hsh : W.ShapedOpen Tryz.prog) : LTab W.heap.size W :=
  ltab_of (i := 2) h hsh (by kernel_rfl)

set_option maxRecDepth 100000 in
theorem expireTells_lifted (os : Os) (started : os.Started) (H : Type) (enc : TypeId × Value → H) :
    ReturnsInHanded {} Tryz.checked os 3 .any (fun w args => (Rows.expireTellsSpec.pre enc Tryz.prog Tryz.f3 [] false w args ∧ laidMetH Tryz.prog Rows.expireTellsRow.laid w) ∧ sizedMet enc Tryz.prog Tryz.f3 (OpenSpec.ofChange Rows.expireTellsSpec) false w args)
      (Rows.expireTellsSpec.post enc Tryz.prog Tryz.f3 false true false false) := by
  refine handed_both (C := Tryz.checked) (X := fun w _ => laidMetH Tryz.prog Rows.expireTellsRow.laid w) (fun _ _ _ hh h => h.of_heap hh) own started (by kernel_rfl) Tryz.func3
    (ChangeSpec.witness_shaped (enc := enc) (C := Tryz.checked) (os := os) (X := fun w _ => laidMetH Tryz.prog Rows.expireTellsRow.laid w) false (witW os Rows.expireTellsRow.laid) #[.slice none 0 0, .int .i64 0, .int .i64 0, .int .i64 0, .slice none 0 0, .slice none 0 0] 8 (witW_os _ _)
      (World.shaped_of_ZipB (by kernel_rfl) (by kernel_rfl)) (by kernel_rfl) (by kernel_rfl) (by kernel_rfl) (expireTells_met os _)) ?_
  intro W base args ds gs before hval0 hW hL hsh
  have hval : ∀ (j : Nat) t v, Tryz.f3.params[j]? = some t → args[j]? = some v → Value.okWide Tryz.prog W .any base t v := hval0
  have hW' := hW
  obtain ⟨p, q, hA0, hV, rfl, _, _⟩ := hW
  have hA : DataW.TrodAll enc Tryz.prog W 0 (fun _ => true) true Tryz.f3.params.toList args.toList ds p := hA0
  rw [Tryz.params3] at hA hval
  obtain ⟨v1, v2, v3, v4, v5, v6, d1, d2, d3, d4, d5, d6, p1, p2, p3, p4, p5, p6, rfl, rfl, rfl, h1, h2, h3, h4, h5, h6⟩ := trodAll_six hA
  obtain ⟨rfl, rfl⟩ := trodVars_none hV
  simp only [List.append_nil] at hW'
  clear hA0 hval0
  have hlt : ∀ x ∈ p1 ++ p2 ++ p3 ++ p4 ++ p5 ++ p6, x.block < W.heap.size := fun x hx => by simpa using hW'.lt x (by simpa using hx)
  have h' : laidMet Tryz.prog (Rows.expireTellsRow.laid.filter fun x => x.2.handleName?.isNone) W ∧ handlesMet Tryz.prog (Rows.expireTellsRow.laid.filter fun x => x.2.handleName?.isSome) W := hL
  have hL' := h'.1
  have hAs : AsVar W := asVar_of_laid h'.2 (List.mem_filter.2 ⟨by simp [Rows.expireTellsRow, Rows.laid_errors_errorType], rfl⟩)
  have hgB : 12 < W.heap.size := World.block_lt_of_cell? W ⟨12, 0, none⟩ hAs
  obtain ⟨l1, a1, b1⟩ := snaps_came (hval 0 22 v1 rfl rfl) h1
  obtain ⟨l2, rfl, b2⟩ := int_came (hval 1 3 v2 rfl rfl) h2
  obtain ⟨l3, rfl, b3⟩ := int_came (hval 2 3 v3 rfl rfl) h3
  obtain ⟨l4, rfl, b4⟩ := int_came (hval 3 3 v4 rfl rfl) h4
  obtain ⟨l5, a5, b5⟩ := acts_came (hval 4 23 v5 rfl rfl) h5
  obtain ⟨l6, a6, b6⟩ := strs_came (hval 5 24 v6 rfl rfl) h6
  refine (expireTells_any (addrOf W) _ v1 l1 l2 l3 l4 v5 l5 v6 l6 W (expireTells_errs hL') hAs hgB (expireTells_tab hL' hsh) (lmax_of hsh) a1 b1 a5 b5 a6).mono fun e W' ⟨he, hb⟩ => ?_
  subst he
  refine ⟨_, rfl, _, _, _, [], p1 ++ (p2 ++ (p3 ++ (p4 ++ (p5 ++ p6)))), [], hW', ?_, ?_, ?_, hb.frame _, fun h => by cases h⟩
  · exact trodAll_mk1 (shut_bool Tryz.underlying4 true)
  · exact (trodAll_cons_mk (Below.trod laidOut (by kernel_rfl) (of_decide_eq_true (by kernel_rfl)) h1 hb (fun x hx => hlt x (by simp [hx]))) (trodAll_cons_mk (Below.trod laidOut (by kernel_rfl) (of_decide_eq_true (by kernel_rfl)) h2 hb (fun x hx => hlt x (by simp [hx]))) (trodAll_mk4 (Below.trod laidOut (by kernel_rfl) (of_decide_eq_true (by kernel_rfl)) h3 hb (fun x hx => hlt x (by simp [hx]))) (Below.trod laidOut (by kernel_rfl) (of_decide_eq_true (by kernel_rfl)) h4 hb (fun x hx => hlt x (by simp [hx]))) (Below.trod laidOut (by kernel_rfl) (of_decide_eq_true (by kernel_rfl)) h5 hb (fun x hx => hlt x (by simp [hx]))) (Below.trod laidOut (by kernel_rfl) (of_decide_eq_true (by kernel_rfl)) h6 hb (fun x hx => hlt x (by simp [hx]))))))
  · rfl

theorem expireTells_holds : Rows.ExpireTellsSaid :=
  OpenClaim.holds_of_wide 3 Tryz.f3 rfl rfl rfl rfl rfl rfl rfl ⟨rfl, rfl, rfl, rfl, rfl⟩ rfl rfl rfl rfl rfl (by kernel_rfl) Tryz.func3 (by kernel_rfl)
    (of_decide_eq_true (by kernel_rfl)) (by unfold Func.isWrapper; first | (rw [if_pos (by decide +kernel)]; kernel_rfl) | (rw [if_neg (by decide +kernel)]; exact ⟨rfl, rfl⟩))
    (fun os started H enc _ => expireTells_lifted os started H enc)

theorem expireTells_card_holds : Rows.ExpireTellsCardSaid :=
  Claim7.holds_tied_plain_at .later [] Rows.expireTellsCard.laidKinds true Rows.expireTellsCard.stood.harness true
    expireTells_holds (fun _ h => by cases h) (by kernel_rfl) (fun _ h => by cases h) expireTells_row_tie rfl ⟨rfl, rfl⟩ (by kernel_rfl) rfl
    (fun f fn hf hfn => by
      obtain rfl : f = 3 := Option.some.inj ((show Tryz.prog.funcNamed "deedbox/deedboxlaw3.ExpireTells" = some 3 by kernel_rfl).symm.trans hf) |>.symm
      obtain rfl : fn = Tryz.f3 := (Option.some.inj (Tryz.func3.symm.trans hfn)).symm
      exact ⟨by kernel_rfl, fun j t ht => by
        rw [Tryz.params3] at ht
        have hm : t ∈ [22, 3, 3, 3, 23, 24] := by simpa using Array.mem_of_getElem? ht
        have hall : ([22, 3, 3, 3, 23, 24].all fun u => !Tryz.prog.wantsStandIn u) = true := by kernel_rfl
        exact (show Tryz.prog.wantsStandIn t = false by simpa using List.all_eq_true.1 hall t hm)⟩)
    (by kernel_rfl)
#print axioms expireTells_card_holds
end Go.Proofs.YtikboodjfanjkaaGreatDoor
