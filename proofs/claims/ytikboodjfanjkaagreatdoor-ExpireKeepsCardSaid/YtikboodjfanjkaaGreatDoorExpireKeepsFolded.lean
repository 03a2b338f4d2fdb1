/- 'deedboxlaw3.ExpireKeeps' returns true at every input: the last snap is kept; more age, or more count, keep no fewer; what is needed is no orphan, and what is no orphan is needed, or young. Condition: the package-level variables read as the program's text lays them; the card ties that. -/
import Derived.Test.YtikboodjfanjkaaGreatDoorBx16
import Derived.Test.YtikboodjfanjkaaGreatDoorRows
import Derived.Test.YtikboodjfanjkaaGreatDoorCards
import Derived.Test.YtikboodjfanjkaaGreatDoorTie
import Derived.Test.YtikboodjfanjkaaGreatDoorBx15
import Derived.Test.YtikboodjfanjkaaGreatDoorBx11
import Derived.LaidOnce
import Derived.SevenTiedAt
namespace Go.Proofs.YtikboodjfanjkaaGreatDoor
open Go.RowKit Go.Maps

theorem keepB_iff {l : List Sn} {day age count : Int} {i : Nat} {x : Sn} (h : l[i]? = some x) (hf : farB day age = false) : keepB l day age count i = true ↔ i + 1 = l.length ∨ (l.length : Int) - 1 - (i : Int) < count ∨ day - age ≤ x.day := by
  unfold keepB
  rw [h]
  simp only
  rw [show (decide (farN day) || decide (farN age)) = farB day age from rfl, hf]
  simp
theorem keep_last {l : List Sn} {day age count : Int} {x : Sn} (h : l[l.length - 1]? = some x) : x.id ∈ keepL l day age count := by
  have hl := (List.getElem?_eq_some_iff.1 h).1
  refine mem_keepUpTo.2 ⟨l.length - 1, by omega, ?_, by rw [h]; rfl⟩
  unfold keepB
  rw [h]
  simp only
  rw [decide_eq_true (by omega : l.length - 1 + 1 = l.length)]
  rfl
theorem far_no {day age : Int} (h0 : 0 ≤ day) (h1 : day ≤ 100000) (h2 : 0 ≤ age) (h3 : age ≤ 1073741824) : farB day age = false := by
  unfold farB
  rw [decide_eq_false (by unfold farN; omega : ¬ farN day), decide_eq_false (by unfold farN; omega : ¬ farN age)]
  rfl
theorem keep_more {l : List Sn} {day age age' count count' : Int} (hf : farB day age = false) (hf' : farB day age' = false) (ha : age ≤ age') (hc : count ≤ count') : ∀ n ∈ keepL l day age count, n ∈ keepL l day age' count' := fun n hn => by
  obtain ⟨i, hi, hk, he⟩ := mem_keepUpTo.1 hn
  obtain ⟨x, hx⟩ : ∃ x, l[i]? = some x := get_ex hi
  refine mem_keepUpTo.2 ⟨i, hi, ?_, he⟩
  rw [keepB_iff hx hf] at hk
  rw [keepB_iff hx hf']
  omega
theorem path_reached {l : List Sn} {s : Sn} {f : Fl} (hs : s ∈ l) (hf : f ∈ s.files) : f.path ∈ reachL l := by
  rw [mem_reachL]
  unfold reachAll reachT
  exact List.mem_flatMap.2 ⟨s, hs, List.mem_cons_of_mem _ (List.mem_map.2 ⟨f, hf, rfl⟩)⟩
theorem take_ok' {l : List SnV} {k : Nat} {x : SnV} {p : SnV → Prop} (h : ∀ y ∈ l.take k, p y) (hx : l[k]? = some x) (hp : p x) : ∀ y ∈ l.take (k + 1), p y := fun y hy => by
  rw [List.take_add_one, hx] at hy
  rcases List.mem_append.1 hy with h' | h'
  · exact h y h'
  · simp at h'; subst h'; exact hp
theorem mem_orphN {l : List Ob} {needed : List Str} {day age : Int} {n : Str} (h : n ∈ l.map (·.name)) : n ∈ orphN l needed day age ↔ ¬ n ∈ needed ∧ age ≤ wrap64 (day - bornOf l n) := by
  unfold orphN keptN
  rw [List.mem_filter, wrapEq64]
  simp only [Bool.not_eq_true', Bool.or_eq_false_iff, decide_eq_false_iff_not]
  constructor
  · rintro ⟨_, h1, h2⟩; exact ⟨h1, by omega⟩
  · rintro ⟨h1, h2⟩; exact ⟨h, h1, by omega⟩

set_option maxHeartbeats 4000000 in
set_option maxRecDepth 20000 in
theorem expireKeeps_any (E : Nat → Addr) (B : Nat) (v1 : Value) (l : List SnV) (day age count : Int) (v5 : Value) (acts : List Ac) (w : World) (hE : Errs allE E B w) (hA : AsVar w) (hgB : 12 < B) (hT : LTab B w) (_hM : LMax B w)
    (h1 : SnapsAt w v1 l) (b1 : ∀ x ∈ l, FilesAt w x.u x.s.files ∧ SnWf x.s) (h5 : ActsAt w v5 acts) (b5 : ∀ a ∈ acts, a.n ≤ 9223372036854775807) :
    Calls Tryz.prog 4 #[v1, .int .i64 day, .int .i64 age, .int .i64 count, v5] w fun e w' => e = .returned (.bool true) ∧ Below w.heap.size w w' := by
  have hBw := hE.le
  have HL := Lib.hid h1
  have HAc := Lib.hid h5
  obtain ⟨a1, c1, bb1, o1, rfl, ha1, -, hm1, hx1⟩ := h1
  obtain ⟨a5, c5, bb5, o5, rfl, ha5, -, hm5, hx5⟩ := h5
  unfold maxLen at hm1 hm5
  go_enter Tryz.func4, Tryz.ntmps4
  go_wp2_with fail
  refine (expired_any B w hT).mono ?_
  rintro e w1 ⟨rfl, hb1⟩
  by_cases h10 : l.length ≤ 10
  case neg =>
    have g : (10 : Int) < (l.length : Int) := by omega
    go_wp2_with fail
    go_ret
    exact ⟨rfl, hb1⟩
  have g10 : decide ((10 : Int) < (l.length : Int)) = false := by simp; omega
  go_wp2_with fail
  refine (longActs_any _ acts _ (HAc.out.below hb1)).mono ?_
  rintro e w2 ⟨rfl | ⟨rfl, h80, hok⟩, hb2⟩
  · go_wp2_with fail
    go_ret
    exact ⟨rfl, hb1.trans (hb2.mono hb1.size)⟩
  have hb2' := hb1.trans (hb2.mono hb1.size)
  have HK := Lib.hid hok
  have HB1 := Lib.hid b1
  have HB5 := Lib.hid b5
  clear hb1 hb2 hok b1 b5
  go_wp2_with fail
  clear g10
  go_loopw [12] (fun i wr => ∃ (k : Nat), i = .int .i64 k ∧ k ≤ l.length ∧ Hid (∀ y ∈ l.take k, y.s.files.length ≤ 61) ∧ Below w.heap.size w wr) (fun i _ => l.length - (intOf i).toNat)
  case atStart => exact ⟨0, rfl, by omega, Lib.hid (fun y hy => by simp at hy), hb2'⟩
  case round =>
    obtain ⟨k, rfl, hk, H61, hb⟩ := hrel
    clear hb2'
    by_cases hlt : k < l.length
    case pos =>
      obtain ⟨x, hxk⟩ := get_ex hlt
      have hxm := List.mem_of_getElem? hxk
      obtain ⟨q0, q1, q2, q3, q4, q5, q6⟩ := snAtCells hx1 hb hxk
      have i1 := idx_at (c := c1) 7 Tryz.underlying22 szSn ha1 k hlt
      have f : (k : Int) < (l.length : Int) := by omega
      have hfx := (HB1.out x hxm).1
      have HX := Lib.hid hxk
      have HFx := Lib.hid hfx
      clear hxk hxm hfx
      go_wp2_with fail
      refine (longSnap_any x.s x.u wr (HFx.out.below hb)).mono ?_
      rintro e w3 ⟨he, hb3⟩
      have hbw3 := hb.trans (hb3.mono hb.size)
      clear q0 q1 q2 q3 q4 q5 q6
      rcases he with rfl | ⟨rfl, -, h61, -⟩
      · go_wp2_with fail
        go_ret
        exact ⟨rfl, hbw3⟩
      go_wp2_with fail
      go_roundw
      case rel => exact ⟨k + 1, by go_num, by omega, Lib.hid (take_ok' H61.out HX.out h61), hbw3⟩
      case measure => simp [intOf]; omega
    obtain rfl : k = l.length := by omega
    have f : decide ((l.length : Int) < (l.length : Int)) = false := by simp
    have hfl : FewSn l := ⟨by omega, fun x hx => by have := H61.out x (by rw [List.take_length]; exact hx); omega, fun x hx => (HB1.out x hx).2.id⟩
    have HFl := Lib.hid hfl
    clear hfl H61
    by_cases p1 : age < 0
    · go_wp2_with fail
      go_ret
      exact ⟨rfl, hb⟩
    have p1 : decide (age < 0) = false := decide_eq_false p1
    by_cases p2 : 1073741824 ≤ age
    · go_wp2_with fail
      go_ret
      exact ⟨rfl, hb⟩
    have p2 : decide (1073741824 ≤ age) = false := decide_eq_false p2
    by_cases p3 : count < 0
    · go_wp2_with fail
      go_ret
      exact ⟨rfl, hb⟩
    have p3 : decide (count < 0) = false := decide_eq_false p3
    by_cases p4 : 100 < count
    · go_wp2_with fail
      go_ret
      exact ⟨rfl, hb⟩
    have p4 : decide (100 < count) = false := decide_eq_false p4
    by_cases p5 : day < 0
    · go_wp2_with fail
      go_ret
      exact ⟨rfl, hb⟩
    have p5 : decide (day < 0) = false := decide_eq_false p5
    by_cases p6 : 100000 < day
    · go_wp2_with fail
      go_ret
      exact ⟨rfl, hb⟩
    have p6 : decide (100000 < day) = false := decide_eq_false p6
    go_wp2_with fail
    have n1 : 0 ≤ age := by first | omega | (have := of_decide_eq_false p1; omega)
    have n2 : age < 1073741824 := by first | omega | (have := of_decide_eq_false p2; omega)
    have n3 : 0 ≤ count := by first | omega | (have := of_decide_eq_false p3; omega)
    have n4 : count ≤ 100 := by first | omega | (have := of_decide_eq_false p4; omega)
    have n5 : 0 ≤ day := by first | omega | (have := of_decide_eq_false p5; omega)
    have n6 : day ≤ 100000 := by first | omega | (have := of_decide_eq_false p6; omega)
    have HXY := Lib.hid (keep_more (l := plainS l) (count := count) (far_no n5 n6 n1 (by omega)) (far_no n5 n6 (by omega : 0 ≤ age + 1) (by omega)) (by omega : age ≤ age + 1) (Int.le_refl count))
    have HXZ := Lib.hid (keep_more (l := plainS l) (count := count) (far_no n5 n6 n1 (by omega)) (far_no n5 n6 n1 (by omega)) (Int.le_refl age) (by omega : count ≤ count + 1))
    clear p1 p2 p3 p4 p5 p6
    refine (keep_any _ l day age count _ (HL.out.below hb) (by omega)).mono ?_
    rintro e w3 ⟨u3, rfl, hu3, hb3⟩
    have hbw3 := hb.trans (hb3.mono hb.size)
    have HU3 := Lib.hid (hu3.at encI_enc)
    clear hu3 hb3 hb
    go_wp2_with fail
    refine (keep_any _ l day (age + 1) count _ (HL.out.below hbw3) (by omega)).mono ?_
    rintro e w4 ⟨u4, rfl, hu4, hb4⟩
    have hbw4 := hbw3.trans (hb4.mono hbw3.size)
    have HU3' := Lib.hid (HU3.out.below hb4)
    have HU4 := Lib.hid (hu4.at encI_enc)
    clear hu4 hb4 hbw3 HU3
    go_wp2_with fail
    refine (keep_any _ l day age (count + 1) _ (HL.out.below hbw4) (by omega)).mono ?_
    rintro e w5 ⟨u5, rfl, hu5, hb5⟩
    have hbw5 := hbw4.trans (hb5.mono hbw4.size)
    have HXs := Lib.hid (HU3'.out.below hb5)
    have HYs := Lib.hid (HU4.out.below hb5)
    have HZs := Lib.hid (hu5.at encI_enc)
    clear hu5 hb5 hbw4 HU3' HU4
    obtain ⟨xs, hxs⟩ : ∃ xs, keepL (plainS l) day age count = xs := ⟨_, rfl⟩
    obtain ⟨ys, hys⟩ : ∃ ys, keepL (plainS l) day (age + 1) count = ys := ⟨_, rfl⟩
    obtain ⟨zs, hzs⟩ : ∃ zs, keepL (plainS l) day age (count + 1) = zs := ⟨_, rfl⟩
    have HKs : Hid (keepL (plainS l) day age count = xs) := Lib.hid hxs
    rw [hxs, hys] at HXY
    rw [hxs, hzs] at HXZ
    rw [hxs] at HXs
    rw [hys] at HYs
    rw [hzs] at HZs
    clear hxs hys hzs
    obtain ⟨ax, cx, bx, ox, rfl, hax, -, hcx, hxx⟩ := HXs.out
    unfold maxLen at hcx
    have hxl : xs.length ≤ l.length := by
      have := keepUpTo_len (plainS l) day age count (plainS l).length
      rw [show keepUpTo (plainS l) day age count (plainS l).length = xs from HKs.out] at this
      simpa using this
    go_upto_region 14 with fail
    go_cut [119] (fun t wx => t = .bool false ∧ Below w5.heap.size w5 wx)
    case first =>
      by_cases h0 : l.length = 0
      · have hx0 : xs.length = 0 := by omega
        clear ha1 hax
        have e0 : ((l.length : Int) == 0) = true := by rw [beq_iff_eq]; omega
        have e1 : decide ((0 : Int) < (l.length : Int)) = false := decide_eq_false (by omega)
        have e2 : decide ((0 : Int) < (xs.length : Int)) = false := decide_eq_false (by omega)
        go_wp2_with fail
        go_meet
        exact ⟨rfl, Below.refl _ _⟩
      · have e0 : ((l.length : Int) == 0) = false := beq_eq_false_iff_ne.2 (by omega)
        have e1 : (0 : Int) < (l.length : Int) := by omega
        obtain ⟨x, hxk⟩ := get_ex (l := l) (k := l.length - 1) (by omega)
        have hin : x.s.id ∈ xs := by
          rw [← HKs.out]
          refine keep_last ?_
          rw [show (plainS l).length = l.length by simp]
          exact plain_at hxk
        obtain ⟨q0, -⟩ := snAtCells hx1 hbw5 hxk
        have i1 := idx_at (c := c1) 7 Tryz.underlying22 szSn ha1 (l.length - 1) (by omega)
        rw [show ((l.length - 1 : Nat) : Int) = (l.length : Int) - 1 by omega] at i1
        have HIn := Lib.hid hin
        clear hxk hin ha1 hax
        go_wp2_with fail
        refine (inInts_any x.s.id _ xs w5 HXs.out).mono ?_
        rintro e w6 ⟨rfl, hb6⟩
        rw [decide_eq_true HIn.out]
        go_wp2_with fail
        go_meet
        exact ⟨rfl, hb6⟩
    case rest =>
      obtain ⟨rfl, hb56⟩ := hcut
      have hbwc := hbw5.trans (hb56.mono hbw5.size)
      have HXc := Lib.hid (HXs.out.below hb56)
      have HYc := Lib.hid (HYs.out.below hb56)
      have HZc := Lib.hid (HZs.out.below hb56)
      have HCx := Lib.hid (fun (W : World) (hW : Below w5.heap.size w5 W) (k : Nat) (y : Int) (hy : xs[k]? = some y) => by
        have h1 := hxx k y hy 0 _ rfl
        exact (hW.cell (World.block_lt_of_cell? w5 _ h1)).trans h1)
      have H56 := Lib.hid hb56
      clear hb56 HXs HYs HZs hxx
      go_wp2_with fail
      go_loopw [16] (fun i wr => ∃ (k : Nat), i = .int .i64 k ∧ k ≤ xs.length ∧ Below wc.heap.size wc wr) (fun i _ => xs.length - (intOf i).toNat)
      case atStart => exact ⟨0, rfl, by omega, Below.refl _ _⟩
      case round =>
        obtain ⟨k, rfl, hk, hb⟩ := hrel
        by_cases hlt : k < xs.length
        case pos =>
          obtain ⟨y, hyk⟩ := get_ex hlt
          have hym := List.mem_of_getElem? hyk
          have hby := H56.out.trans (hb.mono H56.out.size)
          have q0 := HCx.out wr hby k y hyk
          have i1 := idx_at (c := cx) 1 Tryz.underlying33 szInt hax k hlt
          have f : (k : Int) < (xs.length : Int) := by omega
          simp only [Nat.add_zero, Nat.mul_one] at q0 i1
          have HY1 := Lib.hid (HXY.out y hym)
          have HZ1 := Lib.hid (HXZ.out y hym)
          clear hyk hym
          go_wp2_with fail
          refine (inInts_any y _ ys wr (HYc.out.below hb)).mono ?_
          rintro e w7 ⟨rfl, hb7⟩
          rw [decide_eq_true HY1.out]
          have q0 := (hb7.cell (World.block_lt_of_cell? _ _ q0)).trans q0
          have hb77 := hb.trans (hb7.mono hb.size)
          go_wp2_with fail
          refine (inInts_any y _ zs w7 (HZc.out.below hb77)).mono ?_
          rintro e w8 ⟨rfl, hb8⟩
          rw [decide_eq_true HZ1.out]
          clear q0
          go_wp2_with fail
          go_roundw
          case rel => exact ⟨k + 1, by go_num, by omega, hb77.trans (hb8.mono hb77.size)⟩
          case measure => simp [intOf]; omega
        obtain rfl : k = xs.length := by omega
        have f : decide ((xs.length : Int) < (xs.length : Int)) = false := by simp
        have hbx := hbwc.trans (hb.mono hbwc.size)
        clear hax hcx hb HXc HYc HZc HCx HXY HXZ HKs H56
        go_wp2_with fail
        refine (reach_any B _ l _ (hT.below' hbx hBw) (HL.out.below hbx) (fun x hx => (HB1.out x hx).1.below hbx) HFl.out).mono ?_
        rintro e w7 ⟨u7, rfl, hu7, hb7⟩
        have hbw7 := hbx.trans (hb7.mono hbx.size)
        have HN := Lib.hid (hu7.at encS_enc)
        have hrl : (reachL (plainS l)).length ≤ 100000 := by
          have h2 : (reachAll (plainS l)).length ≤ 100 * (100 + 1) := reachAll_len (by simpa using HFl.out.len) (fun s hs => by
            obtain ⟨x, hx, rfl⟩ := List.mem_map.1 hs
            exact HFl.out.fil x hx)
          have h3 : (reachR (plainS l)).length ≤ ([] : List Str).length + (reachAll (plainS l)).length := foldW_len _ _
          rw [reach_same]
          simp at h3
          omega
        have HRm : Hid (∀ x ∈ l, ∀ f ∈ x.s.files, f.path ∈ reachL (plainS l)) := Lib.hid fun x hx f hf => path_reached (List.mem_map.2 ⟨x, hx, rfl⟩) hf
        obtain ⟨rs, hrs⟩ : ∃ rs, reachL (plainS l) = rs := ⟨_, rfl⟩
        rw [hrs] at HN HRm hrl
        clear hu7 hb7 hbx hrs
        go_wp2_with fail
        go_loopw [18] (fun i wr => ∃ (k : Nat), i = .int .i64 k ∧ k ≤ l.length ∧ Below w7.heap.size w7 wr) (fun i _ => l.length - (intOf i).toNat)
        case atStart => exact ⟨0, rfl, by omega, Below.refl _ _⟩
        case round =>
          obtain ⟨k, rfl, hk, hb⟩ := hrel
          by_cases hlt : k < l.length
          case pos =>
            obtain ⟨x, hxk⟩ := get_ex hlt
            have hxm := List.mem_of_getElem? hxk
            have hbx := hbw7.trans (hb.mono hbw7.size)
            obtain ⟨-, -, -, -, -, -, q6⟩ := snAtCells hx1 hbx hxk
            have i1 := idx_at (c := c1) 7 Tryz.underlying22 szSn ha1 k hlt
            have f : (k : Int) < (l.length : Int) := by omega
            obtain ⟨fa, fc, fb, fo, hv, hfa, hfc, hfcm, hfx⟩ := (HB1.out x hxm).1
            simp only [SnV.u, Value.slice.injEq] at hv
            obtain ⟨z1, z2, z3⟩ := hv
            rw [z1, z2, z3] at q6
            unfold maxLen at hfcm
            have hRx := HRm.out x hxm
            have HRx := Lib.hid hRx
            obtain ⟨fl, hfe⟩ : ∃ fl, x.s.files = fl := ⟨_, rfl⟩
            rw [hfe] at hfa hfc hfx q6 HRx
            have HQ6 := Lib.hid (fun (W : World) (hW : Below wr.heap.size wr W) => (hW.cell (World.block_lt_of_cell? wr _ q6)).trans q6)
            clear hxk hxm z1 z2 z3 hfe hRx
            go_wp2_with fail
            obtain ⟨wo, hwo⟩ : ∃ wo : World, wr = wo := ⟨_, rfl⟩
            rw [hwo] at q6 HQ6 hb hbx ⊢
            clear hwo
            go_loopw [19] (fun i wr => ∃ (m : Nat), i = .int .i64 m ∧ m ≤ fl.length ∧ Below wo.heap.size wo wr) (fun i _ => fl.length - (intOf i).toNat)
            case atStart => exact ⟨0, rfl, by omega, Below.refl _ _⟩
            case round =>
              obtain ⟨m, rfl, hm, hbm⟩ := hrel
              clear q6
              have q6 := HQ6.out wr hbm
              have hbwr := hb.trans (hbm.mono hb.size)
              by_cases hlm : m < fl.length
              case pos =>
                obtain ⟨y, hym⟩ := get_ex hlm
                have hbq := hbx.trans (hbm.mono hbx.size)
                obtain ⟨r0, -⟩ := flCells hfx hbq hym
                have i2 := idx_at (c := fc) 6 Tryz.underlying28 szFl hfa m hlm
                have f2 : (m : Int) < (fl.length : Int) := by omega
                have HIn := Lib.hid (HRx.out y (List.mem_of_getElem? hym))
                clear hym
                go_wp2_with fail
                refine (inTexts_any y.path _ rs wr (HN.out.below hbwr)).mono ?_
                rintro e w9 ⟨rfl, hb9⟩
                rw [decide_eq_true HIn.out]
                clear q6 r0
                go_wp2_with fail
                go_roundw
                case rel => exact ⟨m + 1, by go_num, by omega, hbm.trans (hb9.mono hbm.size)⟩
                case measure => simp [intOf]; omega
              obtain rfl : m = fl.length := by omega
              have f2 : decide ((fl.length : Int) < (fl.length : Int)) = false := by simp
              go_wp2_with fail
              go_roundw
              case rel => exact ⟨k + 1, by go_num, by omega, hbwr⟩
              case measure => simp [intOf]; omega
          obtain rfl : k = l.length := by omega
          have f : decide ((l.length : Int) < (l.length : Int)) = false := by simp
          have hbw8 := hbw7.trans (hb.mono hbw7.size)
          have HN8 := Lib.hid (HN.out.below hb)
          obtain ⟨w8, hw8⟩ : ∃ w8 : World, wr = w8 := ⟨_, rfl⟩
          rw [hw8] at hbw8 HN8 ⊢
          clear hb hbw7 hx1 ha1 HRm HN hw8
          go_wp2_with fail
          refine (new_any _).mono ?_
          rintro e w9 ⟨sb, mb, rfl, hst, hsb, hmb, hb9⟩
          have hE8 := hE.below' hbw8 hBw
          have hA8 := hA.below hbw8 (by omega)
          go_wp2_with fail
          refine (newMod_any _).mono ?_
          rintro e w10 ⟨xb, rfl, hxb, hmd, hb10⟩
          have hsl := hst.lt
          have hml := hst.ltm
          have hz := hb9.size
          have H10 : Both w8 sb mb xb (.slice none 0 0) St.new St.new w10 := { sto := hst.below hb10, mdl := ⟨hmd.blk, own_base hmd.own hz, hmd.ok⟩, bel := hb9.trans (hb10.mono hz), h1 := hsb, h2 := hmb, h3 := Nat.le_trans hz hxb, n1 := by omega, n2 := by omega }
          have H10 := Lib.hid H10
          clear hb10 hmd hst hb9 hz
          go_wp2_with fail
          go_loopw [22] (fun i wr => ∃ (k : Nat) (v : Value) (st : St), i = .int .i64 k ∧ k ≤ acts.length ∧ Both w8 sb mb xb v st st wr) (fun i _ => acts.length - (intOf i).toNat)
          case atStart => exact ⟨0, _, _, rfl, by omega, H10.out⟩
          case round =>
            obtain ⟨k, v, st, rfl, hk, h⟩ := hrel
            have H := Lib.hid h
            clear h H10
            by_cases hlt : k < acts.length
            case pos =>
              obtain ⟨x, hxk⟩ := get_ex hlt
              have q0 := hx5 k x hxk 0 _ rfl
              have q1 := hx5 k x hxk 1 _ rfl
              have q2 := hx5 k x hxk 2 _ rfl
              have q3 := hx5 k x hxk 3 _ rfl
              have hbq := hbw8.trans (H.out.bel.mono hbw8.size)
              have q0 := (hbq.cell (World.block_lt_of_cell? w _ q0)).trans q0
              have q1 := (hbq.cell (World.block_lt_of_cell? w _ q1)).trans q1
              have q2 := (hbq.cell (World.block_lt_of_cell? w _ q2)).trans q2
              have q3 := (hbq.cell (World.block_lt_of_cell? w _ q3)).trans q3
              have i1 := idx_at (c := c5) 4 Tryz.underlying23 szAct ha5 k hlt
              have f : (k : Int) < (acts.length : Int) := by omega
              have hxo := HK.out x (List.mem_of_getElem? hxk)
              have hxn := HB5.out x (List.mem_of_getElem? hxk)
              simp only [Nat.add_zero] at q0
              clear hxk
              go_wp2_with fail
              refine (do_any E B w8 hE8 hA8 hgB sb mb xb v st x hxo hxn _ H.out).mono ?_
              rintro e w11 ⟨rfl, v11, st11, h11⟩
              have H11 := Lib.hid h11
              clear h11
              go_wp2_with fail
              go_roundw
              case rel => exact ⟨k + 1, v11, st11, by go_num, by omega, H11.out⟩
              case measure => simp [intOf]; omega
            have f : decide ((k : Int) < (acts.length : Int)) = false := by simp; omega
            have HNz := Lib.hid (HN8.out.below H.out.bel)
            have hbwz := hbw8.trans (H.out.bel.mono hbw8.size)
            clear hx5 ha5 hm5 HN8
            go_wp2_with fail
            refine (orphans_any sb mb st _ rs age _ H.out.sto HNz.out hrl).mono ?_
            rintro e w11 ⟨u11, rfl, hu11, hb11⟩
            have H11 := Lib.hid (H.out.below hb11)
            have HN11 := Lib.hid (HNz.out.below hb11)
            have hbw11 := hbwz.trans (hb11.mono hbwz.size)
            have HO11 := Lib.hid hu11
            clear hu11 hb11 hbwz HNz H
            go_wp2_with fail
            refine (namesSt_any sb mb st _ H11.out.sto).mono ?_
            rintro e w12 ⟨u12, rfl, hu12, hb12⟩
            have H12 := Lib.hid (H11.out.below hb12)
            have HN12 := Lib.hid (HN11.out.below hb12)
            have HO12 := Lib.hid (HO11.out.below hb12)
            have hbw12 := hbw11.trans (hb12.mono hbw11.size)
            obtain ⟨an, cn, bn, on, rfl, han, -, hcn, hxn⟩ := hu12.at encS_enc
            unfold maxLen at hcn
            clear hu12 hb12 hbw11 HN11 HO11 H11
            obtain ⟨ns, hns⟩ : ∃ ns, st.objs.map (·.name) = ns := ⟨_, rfl⟩
            have HNs := Lib.hid hns
            rw [hns] at han hxn ⊢
            have hnl : ns.length ≤ 200 := by rw [← hns]; simpa using H12.out.sto.ok.num
            clear hns
            go_wp2_with fail
            go_loopw [25] (fun i wr => ∃ (k : Nat), i = .int .i64 k ∧ k ≤ ns.length ∧ Below w12.heap.size w12 wr) (fun i _ => ns.length - (intOf i).toNat)
            case atStart => exact ⟨0, rfl, by omega, Below.refl _ _⟩
            case round =>
              obtain ⟨k, rfl, hk, hb⟩ := hrel
              by_cases hlt : k < ns.length
              case neg =>
                have f : decide ((k : Int) < (ns.length : Int)) = false := by simp; omega
                go_wp2_with fail
                go_ret
                exact ⟨rfl, hbw12.trans (hb.mono hbw12.size)⟩
              obtain ⟨n, hnk⟩ := get_ex hlt
              have q0 := hxn k n hnk 0 _ rfl
              have Q := Lib.hid (fun (W : World) (hW : Below w12.heap.size w12 W) => (hW.cell (World.block_lt_of_cell? w12 _ q0)).trans q0)
              simp only [Nat.add_zero, Nat.mul_one] at Q
              have q0 := Q.out wr hb
              have i1 := idx_at (c := cn) 1 Tryz.underlying24 szStr han k hlt
              have f : (k : Int) < (ns.length : Int) := by omega
              simp only [Nat.mul_one] at i1
              have hnm : n ∈ st.objs.map (·.name) := by rw [HNs.out]; exact List.mem_of_getElem? hnk
              have hnlen : n.length ≤ 20000 := by
                obtain ⟨o, ho, rfl⟩ := List.mem_map.1 hnm
                exact H12.out.sto.ok.nam o ho
              have hor := mem_orphN (needed := rs) (day := st.day) (age := age) hnm
              have HOr := Lib.hid hor
              clear hnk hnm hor
              go_wp2_with fail
              refine (inTexts_any n _ _ wr (HO12.out.below hb)).mono ?_
              rintro e w13 ⟨rfl, hb13⟩
              have hb13' := hb.trans (hb13.mono hb.size)
              clear q0 hb hb13
              have H13 := Lib.hid (H12.out.below hb13')
              have hbD : Below w12.heap.size w12 w13.drew := Bdn hb13' 1
              have HD := Lib.hid (H12.out.below hbD)
              have q0 := Q.out _ hbD
              go_upto_region 45 with fail
              go_cut [27] (fun t wx => t = .bool (decide (age ≤ wrap64 (st.day - bornOf st.objs n))) ∧ Below w12.heap.size w12 wx)
              case first =>
                go_region_held3 (fun w' => w'.cell? ⟨bn, on + k, none⟩ = some (S n)) (exact q0) (first
                  | (go_at_call 25; refine (daySt_any sb mb st _ HD.out.sto).mono ?_; rintro e w5 ⟨rfl, rfl⟩)
                  | (go_at_call 26; refine (born_any sb mb st n _ HD.out.sto (by omega)).mono ?_; rintro e w5 ⟨rfl, hb5⟩; have hb15 := hbD.trans (hb5.mono hbD.size); clear q0; have q0 := Q.out _ hb15; clear hb5))
                all_goals
                  go_wp2_with fail
                  go_meet
                  exact ⟨by rw [← wrapEq64]; rfl, hb15⟩
              case rest =>
                obtain ⟨rfl, hb14⟩ := hcut
                clear q0 hbD HD H13 hb13'
                have q0 := Q.out _ hb14
                go_wp2_with fail
                refine (inTexts_any n _ rs _ (HN12.out.below hb14)).mono ?_
                rintro e w15 ⟨rfl, hb15⟩
                have hb15' := hb14.trans (hb15.mono hb14.size)
                clear q0
                by_cases y1 : n ∈ rs
                · have y2 : ¬ n ∈ orphN st.objs rs st.day age := fun h => (HOr.out.1 h).1 y1
                  rw [decide_eq_true y1, decide_eq_false y2]
                  cases decide (age ≤ wrap64 (st.day - bornOf st.objs n))
                  all_goals
                    clear y1 y2
                    go_wp2_with fail
                    go_roundw
                    case rel => exact ⟨k + 1, by go_num, by omega, hb15'⟩
                    case measure => simp [intOf]; omega
                · by_cases y3 : age ≤ wrap64 (st.day - bornOf st.objs n)
                  · have y2 : n ∈ orphN st.objs rs st.day age := HOr.out.2 ⟨y1, y3⟩
                    rw [decide_eq_false y1, decide_eq_true y2, decide_eq_true y3]
                    clear y1 y2 y3
                    go_wp2_with fail
                    go_roundw
                    case rel => exact ⟨k + 1, by go_num, by omega, hb15'⟩
                    case measure => simp [intOf]; omega
                  · have y2 : ¬ n ∈ orphN st.objs rs st.day age := fun h => y3 (HOr.out.1 h).2
                    rw [decide_eq_false y1, decide_eq_false y2, decide_eq_false y3]
                    clear y1 y2 y3
                    go_wp2_with fail
                    go_roundw
                    case rel => exact ⟨k + 1, by go_num, by omega, hb15'⟩
                    case measure => simp [intOf]; omega
end Go.Proofs.YtikboodjfanjkaaGreatDoor
namespace Go.Proofs.YtikboodjfanjkaaGreatDoor
open Go.ChangeShapes Go.WideShapes Go.ChangeAt Go.WideMaps Go.WideElems Go.RowKit

theorem own : ownKnob Tryz.prog.godebug = none := by kernel_rfl

theorem expireKeeps_met (os : Os) (args : Array Value) : laidMetH Tryz.prog Rows.expireKeepsRow.laid ((witW os Rows.expireKeepsRow.laid).forCall (fun _ _ => 0) ⟨#[], args, []⟩).memory := by
  exact witW_met os Rows.expireKeepsRow.laid args (by kernel_rfl) (by kernel_rfl) (by kernel_rfl)

def expireKeepsIdx : Nat → Nat
  | 1 => 4
  | 2 => 5
  | 3 => 6
  | 4 => 7
  | 5 => 8
  | 6 => 9
  | 7 => 10
  | 8 => 11
  | 9 => 12
  | 10 => 13
  | 11 => 14
  | _ => 15

theorem expireKeeps_errs {W : World} (h : laidMet Tryz.prog (Rows.expireKeepsRow.laid.filter fun x => x.2.handleName?.isNone) W) : Errs allE (addrOf W) W.heap.size W := by
  refine errs_of_laid h allE expireKeepsIdx (by decide) ?_ ?_ ?_
  · intro c hc
    simp only [allE, List.mem_cons, List.mem_nil_iff, or_false] at hc
    rcases hc with rfl | rfl | rfl | rfl | rfl | rfl | rfl | rfl | rfl | rfl | rfl | rfl
    · exact gn1
    · exact gn2
    · exact gn3
    · exact gn4
    · exact gn5
    · exact gn6
    · exact gn7
    · exact gn8
    · exact gn9
    · exact gn10
    · exact gn11
    · exact gn12
  · intro c hc
    simp only [allE, List.mem_cons, List.mem_nil_iff, or_false] at hc
    rcases hc with rfl | rfl | rfl | rfl | rfl | rfl | rfl | rfl | rfl | rfl | rfl | rfl
    · exact gt1
    · exact gt2
    · exact gt3
    · exact gt4
    · exact gt5
    · exact gt6
    · exact gt7
    · exact gt8
    · exact gt9
    · exact gt10
    · exact gt11
    · exact gt12
  · intro c hc
    simp only [allE, List.mem_cons, List.mem_nil_iff, or_false] at hc
    rcases hc with rfl | rfl | rfl | rfl | rfl | rfl | rfl | rfl | rfl | rfl | rfl | rfl <;> exact ⟨_, rfl⟩

theorem expireKeeps_tab {W : World} (h : laidMet Tryz.prog (Rows.expireKeepsRow.laid.filter fun x => x.2.handleName?.isNone) W) (hsh : W.ShapedOpen Tryz.prog) : LTab W.heap.size W :=
  ltab_of (i := 2) h hsh (by kernel_rfl)

set_option maxRecDepth 100000 in
theorem expireKeeps_lifted (os : Os) (started : os.Started) (H : Type) (enc : TypeId × Value → H) :
    ReturnsInHanded {} Tryz.checked os 4 .any (fun w args => (Rows.expireKeepsSpec.pre enc Tryz.prog Tryz.f4 [] false w args ∧ laidMetH Tryz.prog Rows.expireKeepsRow.laid w) ∧ sizedMet enc Tryz.prog Tryz.f4 (OpenSpec.ofChange Rows.expireKeepsSpec) false w args)
      (Rows.expireKeepsSpec.post enc Tryz.prog Tryz.f4 false true false false) := by
  refine handed_both (C := Tryz.checked) (X := fun w _ => laidMetH Tryz.prog Rows.expireKeepsRow.laid w) (fun _ _ _ hh h => h.of_heap hh) own started (by kernel_rfl) Tryz.func4
    (ChangeSpec.witness_shaped (enc := enc) (C := Tryz.checked) (os := os) (X := fun w _ => laidMetH Tryz.prog Rows.expireKeepsRow.laid w) false (witW os Rows.expireKeepsRow.laid) #[.slice none 0 0, .int .i64 0, .int .i64 0, .int .i64 0, .slice none 0 0] 8 (witW_os _ _)
      (World.shaped_of_ZipB (by kernel_rfl) (by kernel_rfl)) (by kernel_rfl) (by kernel_rfl) (by kernel_rfl) (expireKeeps_met os _)) ?_
  intro W base args ds gs before hval0 hW hL hsh
  have hval : ∀ (j : Nat) t v, Tryz.f4.params[j]? = some t → args[j]? = some v → Value.okWide Tryz.prog W .any base t v := hval0
  have hW' := hW
  obtain ⟨p, q, hA0, hV, rfl, _, _⟩ := hW
  have hA : DataW.TrodAll enc Tryz.prog W 0 (fun _ => true) true Tryz.f4.params.toList args.toList ds p := hA0
  rw [Tryz.params4] at hA hval
  obtain ⟨v1, v2, v3, v4, v5, d1, d2, d3, d4, d5, p1, p2, p3, p4, p5, rfl, rfl, rfl, h1, h2, h3, h4, h5⟩ := trodAll_five hA
  obtain ⟨rfl, rfl⟩ := trodVars_none hV
  simp only [List.append_nil] at hW'
  clear hA0 hval0
  have hlt : ∀ x ∈ p1 ++ p2 ++ p3 ++ p4 ++ p5, x.block < W.heap.size := fun x hx => by simpa using hW'.lt x (by simpa using hx)
  have h' : laidMet Tryz.prog (Rows.expireKeepsRow.laid.filter fun x => x.2.handleName?.isNone) W ∧ handlesMet Tryz.prog (Rows.expireKeepsRow.laid.filter fun x => x.2.handleName?.isSome) W := hL
  have hL' := h'.1
  have hAs : AsVar W := asVar_of_laid h'.2 (List.mem_filter.2 ⟨by simp [Rows.expireKeepsRow, Rows.laid_errors_errorType], rfl⟩)
  have hgB : 12 < W.heap.size := World.block_lt_of_cell? W ⟨12, 0, none⟩ hAs
  obtain ⟨l1, a1, b1⟩ := snaps_came (hval 0 22 v1 rfl rfl) h1
  obtain ⟨l2, rfl, b2⟩ := int_came (hval 1 3 v2 rfl rfl) h2
  obtain ⟨l3, rfl, b3⟩ := int_came (hval 2 3 v3 rfl rfl) h3
  obtain ⟨l4, rfl, b4⟩ := int_came (hval 3 3 v4 rfl rfl) h4
  obtain ⟨l5, a5, b5⟩ := acts_came (hval 4 23 v5 rfl rfl) h5
  refine (expireKeeps_any (addrOf W) _ v1 l1 l2 l3 l4 v5 l5 W (expireKeeps_errs hL') hAs hgB (expireKeeps_tab hL' hsh) (lmax_of hsh) a1 b1 a5 b5).mono fun e W' ⟨he, hb⟩ => ?_
  subst he
  refine ⟨_, rfl, _, _, _, [], p1 ++ (p2 ++ (p3 ++ (p4 ++ p5))), [], hW', ?_, ?_, ?_, hb.frame _, fun h => by cases h⟩
  · exact trodAll_mk1 (shut_bool Tryz.underlying4 true)
  · exact (trodAll_cons_mk (Below.trod laidOut (by kernel_rfl) (of_decide_eq_true (by kernel_rfl)) h1 hb (fun x hx => hlt x (by simp [hx]))) (trodAll_mk4 (Below.trod laidOut (by kernel_rfl) (of_decide_eq_true (by kernel_rfl)) h2 hb (fun x hx => hlt x (by simp [hx]))) (Below.trod laidOut (by kernel_rfl) (of_decide_eq_true (by kernel_rfl)) h3 hb (fun x hx => hlt x (by simp [hx]))) (Below.trod laidOut (by kernel_rfl) (of_decide_eq_true (by kernel_rfl)) h4 hb (fun x hx => hlt x (by simp [hx]))) (Below.trod laidOut (by kernel_rfl) (of_decide_eq_true (by kernel_rfl)) h5 hb (fun x hx => hlt x (by simp [hx])))))
  · rfl

theorem expireKeeps_holds : Rows.ExpireKeepsSaid :=
  OpenClaim.holds_of_wide 4 Tryz.f4 rfl rfl rfl rfl rfl rfl rfl ⟨rfl, rfl, rfl, rfl, rfl⟩ rfl rfl rfl rfl rfl (by kernel_rfl) Tryz.func4 (by kernel_rfl)
    (of_decide_eq_true (by kernel_rfl)) (by unfold Func.isWrapper; first | (rw [if_pos (by decide +kernel)]; kernel_rfl) | (rw [if_neg (by decide +kernel)]; exact ⟨rfl, rfl⟩))
    (fun os started H enc _ => expireKeeps_lifted os started H enc)

theorem expireKeeps_card_holds : Rows.ExpireKeepsCardSaid :=
  Claim7.holds_tied_plain_at .later [] Rows.expireKeepsCard.laidKinds true Rows.expireKeepsCard.stood.harness true
    expireKeeps_holds (fun _ h => by cases h) (by kernel_rfl) (fun _ h => by cases h) expireKeeps_row_tie rfl ⟨rfl, rfl⟩ (by kernel_rfl) rfl
    (fun f fn hf hfn => by
      obtain rfl : f = 4 := Option.some.inj ((show Tryz.prog.funcNamed "deedbox/deedboxlaw3.ExpireKeeps" = some 4 by kernel_rfl).symm.trans hf) |>.symm
      obtain rfl : fn = Tryz.f4 := (Option.some.inj (Tryz.func4.symm.trans hfn)).symm
      exact ⟨by kernel_rfl, fun j t ht => by
        rw [Tryz.params4] at ht
        have hm : t ∈ [22, 3, 3, 3, 23] := by simpa using Array.mem_of_getElem? ht
        have hall : ([22, 3, 3, 3, 23].all fun u => !Tryz.prog.wantsStandIn u) = true := by kernel_rfl
        exact (show Tryz.prog.wantsStandIn t = false by simpa using List.all_eq_true.1 hall t hm)⟩)
    (by kernel_rfl)
#print axioms expireKeeps_card_holds
end Go.Proofs.YtikboodjfanjkaaGreatDoor
