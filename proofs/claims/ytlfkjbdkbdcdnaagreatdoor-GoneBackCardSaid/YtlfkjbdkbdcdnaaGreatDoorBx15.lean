/- data.Head, data.Whole, data.Fits: the walks; slices.Min, slices.Max, strings.Join as they use them. data.Split, data.Each, data.Fits: the walks. data.Fits: the walk. slices.Values, AppendSeq, Collect, Sorted, Sort, Compact at []int; gone.Keys. -/
import Derived.Test.YtlfkjbdkbdcdnaaGreatDoorBx14
import Derived.Test.YtlfkjbdkbdcdnaaGreatDoorBx6
import Derived.Test.YtlfkjbdkbdcdnaaGreatDoorBx2
import Derived.Test.YtlfkjbdkbdcdnaaGreatDoorBx5
import Derived.Deep.RegionHeld3
import Derived.Test.YtlfkjbdkbdcdnaaGreatDoorBx8
import Derived.BigQuiet
import Derived.Test.YtlfkjbdkbdcdnaaGreatDoorBx7
import Derived.Test.YtlfkjbdkbdcdnaaGreatDoorBx13
import Derived.Test.YtlfkjbdkbdcdnaaGreatDoorBx4
import Derived.Lib.OwnBridge
namespace Go.Proofs.YtlfkjbdkbdcdnaaGreatDoor
open Go.RowKit

theorem getD_of {l : List Int} {j : Nat} (hj : j < l.length) : l[j]? = some (l.getD j 0) := by
  rw [List.getD_eq_getElem?_getD, List.getElem?_eq_getElem hj]; rfl
theorem minI_any (v : Value) (l : List Int) (w : World) (hl : IntsAt w v l) (hn : l ≠ []) (hb : l.length ≤ 100000) :
    Calls Tryz.prog 104 #[v] w fun e w' => e = .returned (.int .i64 (endsI l).1) ∧ w = w' := by
  obtain ⟨a, c, b, o, rfl, ha, hc, hcm, hx⟩ := hl
  have hpos : 0 < l.length := List.length_pos_iff.2 hn
  obtain rfl := ha hpos
  refine (Tryz.slices_Min_int b o l.length c l w hpos (Nat.le_refl _) (by omega) (fun j hj => ?_)).mono ?_
  · have := hx j _ (getD_of hj) 0 _ rfl
    simpa using this
  · rintro e w' ⟨rfl, rfl⟩
    refine ⟨?_, rfl⟩
    rw [List.take_length]
    unfold endsI
    rw [if_neg hn]
theorem maxI_any (v : Value) (l : List Int) (w : World) (hl : IntsAt w v l) (hn : l ≠ []) (hb : l.length ≤ 100000) :
    Calls Tryz.prog 105 #[v] w fun e w' => e = .returned (.int .i64 (endsI l).2) ∧ w = w' := by
  obtain ⟨a, c, b, o, rfl, ha, hc, hcm, hx⟩ := hl
  have hpos : 0 < l.length := List.length_pos_iff.2 hn
  obtain rfl := ha hpos
  refine (Tryz.slices_Max_int b o l.length c l w hpos (Nat.le_refl _) (by omega) (fun j hj => ?_)).mono ?_
  · have := hx j _ (getD_of hj) 0 _ rfl
    simpa using this
  · rintro e w' ⟨rfl, rfl⟩
    refine ⟨?_, rfl⟩
    rw [List.take_length]
    unfold endsI
    rw [if_neg hn]
theorem join_plain (c : UInt8) : ∀ l : List Str, Lib.join l [c] = joinC c l
  | [] => by simp [Lib.join, joinC]
  | [x] => by simp [Lib.join, joinC]
  | x :: y :: r => by
    have ih := join_plain c (y :: r)
    rw [joinC_two, ← ih]
    simp [Lib.join]
theorem join_any (c : UInt8) (v : Value) (l : List Str) (w : World) (hl : StrsAt w v l) (hn : l.length ≤ 100000) (hlen : (joinC c l).length ≤ 1000000) :
    Calls Tryz.prog 117 #[v, .string ⟨#[c]⟩] w fun e w' => e = .returned (S (joinC c l)) ∧ Below w.heap.size w w' := by
  obtain ⟨a, cp, b, o, rfl, ha, hc, hcm, hx⟩ := hl
  rcases Nat.eq_zero_or_pos l.length with h0 | hpos
  · obtain rfl := List.eq_nil_of_length_eq_zero h0
    refine (Tryz.strings_Join_none a cp ⟨#[c]⟩ w).mono ?_
    rintro e w' ⟨rfl, rfl⟩
    exact ⟨rfl, Below.refl _ _⟩
  · obtain rfl := ha hpos
    have hm : (l.map fun s => (⟨s.toArray⟩ : ByteArray)).map (·.data.toList) = l := by simp [List.map_map, Function.comp_def]
    have hblk : b < w.heap.size := by
      obtain ⟨x, hxk⟩ := get_ex hpos
      exact World.block_lt_of_cell? w ⟨b, o + 0 * 1 + 0, none⟩ (hx 0 x hxk 0 _ rfl)
    have h := Tryz.strings_Join b o cp (l.map fun s => (⟨s.toArray⟩ : ByteArray)) ⟨#[c]⟩ w (fun j x hj => by
      rw [List.getElem?_map] at hj
      cases hs : l[j]? with
      | none => rw [hs] at hj; cases hj
      | some s =>
        rw [hs] at hj
        cases hj
        have := hx j s hs 0 _ rfl
        simpa using this) hblk (by simp; omega) (by simpa using hc) (by
        rw [hm]
        show (Lib.join l [c]).length ≤ _
        rw [join_plain]; omega)
    rw [hm] at h
    rw [List.length_map] at h
    refine h.mono ?_
    rintro e w' ⟨rfl, hb⟩
    refine ⟨?_, hb⟩
    show Ending.returned (.string ⟨(Lib.join l [c]).toArray⟩) = _
    rw [join_plain]
theorem strs_new (w : World) (t : TypeId) (l : List Str) (n : Nat) (hl : l.length = n) (hn : n ≤ 100000) {H : Nat} (hH : w.heap.size = H) : StrsAt (w.alloc (.cells (l.map S).toArray t)) (.slice (some ⟨H, 0, none⟩) n n) l := by
  subst hl
  subst hH
  refine ⟨_, l.length, w.heap.size, 0, rfl, fun _ => rfl, Nat.le_refl _, by unfold maxLen; omega, fun k x hk j u hu => ?_⟩
  have hj : j = 0 := by
    have := (List.getElem?_eq_some_iff.1 hu).1
    simpa using this
  subst hj
  have hu' : u = S x := by simpa using hu.symm
  rw [cell_of_row (w.alloc _) w.heap.size _ (l.map S).toArray t (0, 0) (heap_alloc_new w _)]
  simp [hk, hu']
theorem S_app (a b : Str) : (⟨a.toArray⟩ : ByteArray) ++ ⟨b.toArray⟩ = ⟨(a ++ b).toArray⟩ := bapp a b
set_option maxHeartbeats 1000000 in
theorem dataHead_any (B : Nat) (word : Str) (n lo hi : Int) (body : Str) (w : World) (hT : LNum B w) (hw : word.length ≤ 10) (hn : -9223372036854775808 ≤ n ∧ n ≤ 9223372036854775807) (hlo : -9223372036854775808 ≤ lo ∧ lo ≤ 9223372036854775807) (hhi : -9223372036854775808 ≤ hi ∧ hi ≤ 9223372036854775807) (hb : body.length ≤ 100000) :
    Calls Tryz.prog 118 #[S word, .int .i64 n, .int .i64 lo, .int .i64 hi, S body] w fun e w' => e = .returned (S (headT word n lo hi (sumOf body) ++ [10])) ∧ Below w.heap.size w w' := by
  have X := Lib.hid (fun W (h : Below w.heap.size w W) => hT.below' h hT.le)
  have hsl := sumOf_lt body
  have hhl := head_len (word := word) n lo hi (sumOf body) hw hn hlo hhi (by omega)
  have hj : joinC 32 [word, Lib.itoa n, Lib.itoa lo, Lib.itoa hi, Lib.itoa (sumOf body)] = headT word n lo hi (sumOf body) := joinC_itoa word [n, lo, hi, (sumOf body : Int)]
  have hu : (((sumOf body : Nat) : Int) % 18446744073709551616) = ((sumOf body : Nat) : Int) := by omega
  have HI := Lib.hid (fun m (h0 : -9223372036854775808 ≤ m) (h1 : m ≤ 9223372036854775807) W (h : Below w.heap.size w W) => itoa_any B m h0 h1 W (X.out W h))
  have HSm := Lib.hid (fun W => sum_any body W hb)
  have HFm := Lib.hid (fun W (h : Below w.heap.size w W) => formatUint_any B (sumOf body) (by omega) W (X.out W h))
  have HJn := Lib.hid (fun v W (h : StrsAt W v [word, Lib.itoa n, Lib.itoa lo, Lib.itoa hi, Lib.itoa (sumOf body)]) => join_any 32 v _ W h (by simp) (by rw [hj]; omega))
  have hcat := cat_run ⟨(headT word n lo hi (sumOf body)).toArray⟩ ⟨#[10]⟩ (headT word n lo hi (sumOf body)).length 1 rfl rfl (by omega)
  rw [hj] at HJn
  have hca : (⟨(headT word n lo hi (sumOf body)).toArray⟩ : ByteArray) ++ ⟨#[10]⟩ = ⟨(headT word n lo hi (sumOf body) ++ [10]).toArray⟩ := S_app _ [10]
  rw [hca] at hcat
  clear hca
  have Hsl := Lib.hid hsl
  clear hj hhl hT hsl
  generalize headT word n lo hi (sumOf body) = hd at *
  generalize sumOf body = sm at *
  go_enter Tryz.func118, Tryz.ntmps118
  go_wp2_with fail
  refine (HI.out n hn.1 hn.2 _ (Below.refl _ _)).mono ?_
  rintro e w1 ⟨rfl, hb1⟩
  go_wp2_with fail
  refine (HI.out lo hlo.1 hlo.2 _ hb1).mono ?_
  rintro e w2 ⟨rfl, hb2⟩
  have hb2' := hb1.trans (hb2.mono hb1.size)
  go_wp2_with fail
  refine (HI.out hi hhi.1 hhi.2 _ hb2').mono ?_
  rintro e w3 ⟨rfl, hb3⟩
  have hb3' := hb2'.trans (hb3.mono hb2'.size)
  go_wp2_with fail
  refine (HSm.out _).mono ?_
  rintro e w4 ⟨rfl, hb4⟩
  have hb4' := hb3'.trans (hb4.mono hb3'.size)
  go_wp2_with fail
  refine (HFm.out _ hb4').mono ?_
  rintro e w5 ⟨rfl, hb5⟩
  have hb5' := hb4'.trans (hb5.mono hb4'.size)
  go_wp2_with fail
  refine (HJn.out _ _ (strs_new w5 9 [word, Lib.itoa n, Lib.itoa lo, Lib.itoa hi, Lib.itoa sm] 5 rfl (by decide) rfl)).mono ?_
  rintro e w6 ⟨rfl, hb6⟩
  have hba := hb5'.alloc hb5'.size (.cells ([word, Lib.itoa n, Lib.itoa lo, Lib.itoa hi, Lib.itoa sm].map S).toArray 9)
  go_wp2_with fail
  go_ret
  exact ⟨rfl, hba.trans (hb6.mono hba.size)⟩
theorem bodyT_join : ∀ {ls : List Str}, ls ≠ [] → bodyT ls = joinC 10 ls ++ [10]
  | [], h => absurd rfl h
  | [x], _ => by simp [bodyT, joinC]
  | x :: y :: r, _ => by
    have ih := bodyT_join (ls := y :: r) (by simp)
    have : bodyT (x :: y :: r) = x ++ 10 :: bodyT (y :: r) := by simp [bodyT]
    rw [this, ih, joinC_two]
    simp
set_option maxHeartbeats 1000000 in
theorem dataWhole_any (B : Nat) (word : Str) (v : Value) (keys : List Int) (u : Value) (ls : List Str) (w : World) (hT : LNum B w) (hw : word.length ≤ 10) (hk : IntsAt w v keys) (hl : StrsAt w u ls) (hkn : keys.length ≤ 1000) (hln : ls.length ≤ 1000) (hend : (-9223372036854775808 ≤ (endsI keys).1 ∧ (endsI keys).1 ≤ 9223372036854775807) ∧ (-9223372036854775808 ≤ (endsI keys).2 ∧ (endsI keys).2 ≤ 9223372036854775807)) (hb : (bodyT ls).length ≤ 100000) :
    Calls Tryz.prog 66 #[S word, v, u] w fun e w' => e = .returned (S (wholeT word keys (bodyT ls))) ∧ Below w.heap.size w w' := by
  have X := Lib.hid (fun W (h : Below w.heap.size w W) => (⟨hT.below' h hT.le, hk.below h, hl.below h⟩ : LNum B W ∧ IntsAt W v keys ∧ StrsAt W u ls))
  obtain ⟨a, c, rfl, -, -⟩ := hk.form'
  obtain ⟨a2, c2, rfl, -, -⟩ := hl.form'
  have hsl := sumOf_lt (bodyT ls)
  have hhl := head_len (word := word) keys.length (endsI keys).1 (endsI keys).2 (sumOf (bodyT ls)) hw (by omega) hend.1 hend.2 (by omega)
  have HHd := Lib.hid (fun W (h : Below w.heap.size w W) => dataHead_any B word keys.length (endsI keys).1 (endsI keys).2 (bodyT ls) W (X.out W h).1 hw (by omega) hend.1 hend.2 hb)
  have HMin := Lib.hid (fun (h0 : keys ≠ []) W (h : Below w.heap.size w W) => minI_any _ keys W (X.out W h).2.1 h0 (by omega))
  have HMax := Lib.hid (fun (h0 : keys ≠ []) W (h : Below w.heap.size w W) => maxI_any _ keys W (X.out W h).2.1 h0 (by omega))
  have HWh : Hid (wholeT word keys (bodyT ls) = (headT word keys.length (endsI keys).1 (endsI keys).2 (sumOf (bodyT ls)) ++ [10]) ++ bodyT ls) := Lib.hid (by unfold wholeT; simp)
  have hcat := cat_run ⟨(headT word keys.length (endsI keys).1 (endsI keys).2 (sumOf (bodyT ls)) ++ [10]).toArray⟩ ⟨(bodyT ls).toArray⟩ (headT word keys.length (endsI keys).1 (endsI keys).2 (sumOf (bodyT ls)) ++ [10]).length (bodyT ls).length rfl rfl (by rw [List.length_append]; simp only [List.length_cons, List.length_nil]; omega)
  rw [S_app] at hcat
  rw [HWh.out]
  have HE0 : Hid (keys = [] → (endsI keys).1 = 0 ∧ (endsI keys).2 = 0) := Lib.hid fun h => by rw [h]; exact ⟨rfl, rfl⟩
  have HB0 : Hid (ls = [] → bodyT ls = []) := Lib.hid fun h => by rw [h]; rfl
  have HBj : Hid (ls ≠ [] → bodyT ls = joinC 10 ls ++ [10]) := Lib.hid bodyT_join
  clear HWh hsl hhl
  generalize headT word keys.length (endsI keys).1 (endsI keys).2 (sumOf (bodyT ls)) ++ [10] = hd at *
  obtain ⟨lo, hlo⟩ : ∃ lo, (endsI keys).1 = lo := ⟨_, rfl⟩
  obtain ⟨hi, hhi⟩ : ∃ hi, (endsI keys).2 = hi := ⟨_, rfl⟩
  simp only [hlo, hhi] at HHd HMin HMax HE0
  clear hlo hhi hend hk hl
  obtain ⟨body, hbody⟩ : ∃ body, bodyT ls = body := ⟨_, rfl⟩
  rw [hbody] at HHd HB0 HBj hcat hb ⊢
  clear hbody
  have hlens : Hid (ls ≠ [] → (joinC 10 ls).length ≤ 1000000) := Lib.hid fun h => by
    have := congrArg List.length (HBj.out h)
    rw [List.length_append] at this
    omega
  have HJn := Lib.hid (fun (h0 : ls ≠ []) W (h : Below w.heap.size w W) => join_any 10 _ ls W (X.out W h).2.2 (by omega) (hlens.out h0))
  have hj : ls ≠ [] → ∀ w, (Op.stringOp .add ⟨(joinC 10 ls).toArray⟩ ⟨#[10]⟩).run Tryz.prog w = .ok (S body) w := fun h0 => by
    have := cat_run ⟨(joinC 10 ls).toArray⟩ ⟨#[10]⟩ (joinC 10 ls).length 1 rfl rfl (by have := congrArg List.length (HBj.out h0); rw [List.length_append] at this; simp only [List.length_cons, List.length_nil] at this; omega)
    have e := S_app (joinC 10 ls) [10]
    rw [← HBj.out h0] at e
    have e' : (⟨(joinC 10 ls).toArray⟩ : ByteArray) ++ ⟨#[10]⟩ = ⟨body.toArray⟩ := e
    rwa [e'] at this
  have HJ := Lib.hid hj
  clear hj HBj hlens
  generalize joinC 10 ls = js at *
  by_cases hk0 : keys = []
  case' pos =>
    obtain ⟨rfl, rfl⟩ := HE0.out hk0
    have f1 : decide ((0 : Int) < (keys.length : Int)) = false := by rw [hk0]; rfl
    have f1' : decide (0 < keys.length) = false := by rw [hk0]; rfl
    clear hk0
    go_enter Tryz.func66, Tryz.ntmps66
    go_upto_region 4 with fail
  case' neg =>
    have hkp : 0 < keys.length := List.length_pos_iff.2 hk0
    have f1 : (0 : Int) < (keys.length : Int) := by omega
    have HMi := Lib.hid (HMin.out hk0 w (Below.refl _ _))
    have HMa := Lib.hid (HMax.out hk0 w (Below.refl _ _))
    clear hk0
    go_enter Tryz.func66, Tryz.ntmps66
    go_wp2_with fail
    refine HMi.out.mono ?_
    rintro e w1 ⟨rfl, rfl⟩
    go_wp2_with fail
    refine HMa.out.mono ?_
    rintro e w1 ⟨rfl, rfl⟩
    go_upto_region 4 with fail
  all_goals
    by_cases hl0 : ls = []
    case' pos =>
      have f2 : decide ((0 : Int) < (ls.length : Int)) = false := by rw [hl0]; rfl
      have f2' : decide (0 < ls.length) = false := by rw [hl0]; rfl
      obtain rfl := HB0.out hl0
      have hbw : Below w.heap.size w w := Below.refl _ _
      clear hl0
      go_wp2_with fail
    case' neg =>
      have hlp : 0 < ls.length := List.length_pos_iff.2 hl0
      have f2 : (0 : Int) < (ls.length : Int) := by omega
      have HJo := Lib.hid (HJn.out hl0 w (Below.refl _ _))
      have hjr := HJ.out hl0
      clear hl0
      go_wp2_with fail
      refine HJo.out.mono ?_
      rintro e w2 ⟨rfl, hbw⟩
      go_wp2_with fail
    all_goals
      refine (HHd.out _ hbw).mono ?_
      rintro e w3 ⟨rfl, hb3⟩
      go_wp2_with fail
      go_ret
      exact ⟨by first | rfl | (rw [List.append_nil]; rfl), hbw.trans (hb3.mono hbw.size)⟩
end Go.Proofs.YtlfkjbdkbdcdnaaGreatDoor
namespace Go.Proofs.YtlfkjbdkbdcdnaaGreatDoor
open Go.RowKit

theorem headN_no {word s : Str} (h : (Lib.cut s [10]).2.2 = false) : headN word s = none := by unfold headN; rw [if_neg (by rw [h]; decide)]
theorem headN_len {word s : Str} (h : (cutAt 32 (Lib.cut s [10]).1).length ≠ 5) : headN word s = none := by
  unfold headN
  split
  · split
    · rename_i hc; rw [hc] at h; exact absurd rfl h
    · rfl
  · rfl
theorem headN_five {word s t a b c d : Str} (hi : (Lib.cut s [10]).2.2 = true) (h : cutAt 32 (Lib.cut s [10]).1 = [t, a, b, c, d]) : headN word s = if t = word then numsOf [a, b, c, d] else none := by
  unfold headN
  rw [if_pos hi, h]
theorem splitE_none {word s : Str} (h : ¬ 20000 < s.length) (hn : headN word s = none) : splitE word s = .bare 1 := by unfold splitE; rw [if_neg h, hn]
theorem splitE_some {word s : Str} {n : List Int} (h : ¬ 20000 < s.length) (hn : headN word s = some n) : splitE word s = if n.getD 3 0 = (sumOf (Lib.cut s [10]).2.1 : Int) then .nil else .bare 10 := by unfold splitE; rw [if_neg h, hn]
theorem splitE_long {word s : Str} (h : 20000 < s.length) : splitE word s = .bare 2 := if_pos h
theorem five_strs {l : List Str} (h : l.length = 5) : ∃ t a b c d, l = [t, a, b, c, d] := by
  match l, h with
  | [t, a, b, c, d], _ => exact ⟨t, a, b, c, d, rfl⟩

set_option maxHeartbeats 2000000 in
set_option maxRecDepth 20000 in
theorem dataSplit_any (E : Nat → Addr) (B : Nat) (word s : Str) (w : World) (hE : Errs [1, 2, 10] E B w) (hT : LNum B w) (hM : LMax B w) (hs : s.length ≤ 100000) :
    Calls Tryz.prog 67 #[S word, S s] w fun e w' => ∃ vn vl ev, e = .returned (.tuple #[vn, vl, ev]) ∧ ErV E w' ev (splitE word s) ∧ (splitE word s = .nil → Own encI 3 1 w.heap.size w' vn (splitN word s) ∧ Own encS 9 1 w.heap.size w' vl (splitL s)) ∧ Below w.heap.size w w' := by
  have hBw := hE.le
  have hE1 := fun w1 (hb : Below w.heap.size w w1) => (⟨(hE.below' hb hBw).var 1 (by decide), (hE.below' hb hBw).var 2 (by decide), (hE.below' hb hBw).var 10 (by decide)⟩ : _ ∧ _ ∧ _)
  simp only [errG] at hE1
  have HE1 := Lib.hid hE1
  have X := Lib.hid (fun W (h : Below w.heap.size w W) => (⟨hT.below' h hBw, hM.below' h hBw⟩ : LNum B W ∧ LMax B W))
  clear hE1
  by_cases h20 : 20000 < s.length
  · have HSp := Lib.hid (splitE_long (word := word) h20)
    have g : (20000 : Int) < (s.length : Int) := by omega
    obtain ⟨v1, v2, v3⟩ := HE1.out _ (Below.refl _ _)
    clear h20
    go_enter Tryz.func67, Tryz.ntmps67
    go_wp2_with fail
    go_quiet (fail)
    go_wp2_with fail
    go_ret3
    exact ⟨_, _, _, rfl, by rw [HSp.out]; exact ⟨by decide, rfl⟩, fun h => (by rw [HSp.out] at h; cases h), Bdn (Below.refl _ _) _⟩
  have g20 : decide ((20000 : Int) < (s.length : Int)) = false := by simp; omega
  have H20 := Lib.hid h20
  have hcl := cut_len s [10]
  have HC := Lib.hid (cut1_any 10 B s w hM hs)
  have HNo := Lib.hid (@headN_no word s)
  have HLe := Lib.hid (@headN_len word s)
  have HFv := Lib.hid (fun t a b c d => @headN_five word s t a b c d)
  have HSo := Lib.hid (fun n => @splitE_some word s n h20)
  have HSn := Lib.hid (@splitE_none word s h20)
  have HLs : Hid (splitL s = cutAt 10 (Lib.cut s [10]).2.1) := Lib.hid rfl
  generalize (Lib.cut s [10]).1 = hd at *
  generalize (Lib.cut s [10]).2.1 = bd at *
  generalize (Lib.cut s [10]).2.2 = is at *
  have hhd : hd.length ≤ 20000 := by omega
  have hbd : bd.length ≤ 20000 := by omega
  have HHd := Lib.hid hhd
  clear h20 hcl
  go_enter Tryz.func67, Tryz.ntmps67
  go_wp2_with fail
  refine HC.out.mono ?_
  rintro e w1 ⟨rfl, hb1⟩
  have HSt := Lib.hid (split1_any B hd 32 w1 (X.out _ hb1).2 (by omega))
  go_wp2_with fail
  refine HSt.out.mono ?_
  rintro e w2 ⟨rfl, hown, hb2⟩
  have hb2' := hb1.trans (hb2.mono hb1.size)
  obtain ⟨v1, v2, v3⟩ := HE1.out _ hb2'
  have hwl : (cutAt 32 hd).length ≤ 20001 := by
    have := cutAt_length 32 hd
    have h2 : hd.count 32 ≤ hd.length := List.count_le_length
    omega
  have hws : ∀ p ∈ cutAt 32 hd, p.length ≤ 20000 := fun p hp => by
    have := cutAt_mem_len (c := 32) hp; omega
  clear HSt HC hhd
  cases is with
  | false =>
    have HSp := Lib.hid (HSn.out (HNo.out rfl))
    clear hown hwl hws
    generalize cutAt 32 hd = W at *
    go_wp2_with fail
    go_quiet (fail)
    go_wp2_with fail
    go_ret3
    exact ⟨_, _, _, rfl, by rw [HSp.out]; exact ⟨by decide, rfl⟩, fun h => (by rw [HSp.out] at h; cases h), Bdn hb2' _⟩
  | true =>
  by_cases h5 : (cutAt 32 hd).length = 5
  case neg =>
    have HSp := Lib.hid (HSn.out (HLe.out h5))
    have g5 : (((cutAt 32 hd).length : Int) != 5) = true := by simp; omega
    clear hown hws h5 HLe HFv
    generalize cutAt 32 hd = W at *
    go_wp2_with fail
    go_quiet (fail)
    go_wp2_with fail
    go_ret3
    exact ⟨_, _, _, rfl, by rw [HSp.out]; exact ⟨by decide, rfl⟩, fun h => (by rw [HSp.out] at h; cases h), Bdn hb2' _⟩
  obtain ⟨t, n1, n2, n3, n4, hW⟩ := five_strs h5
  have HHe := Lib.hid (HFv.out t n1 n2 n3 n4 rfl hW)
  rw [hW] at hown hws ⊢
  have HWS := Lib.hid hws
  clear hws hW h5 hwl HLe HNo HFv
  obtain ⟨a', c', b', o', hv', ha', hc', hcm', hx'⟩ := hown.at encS_enc
  obtain ⟨rfl, rfl⟩ : a' = some ⟨w1.heap.size, 0, none⟩ ∧ c' = 5 := by cases hv'; exact ⟨rfl, rfl⟩
  obtain ⟨rfl, rfl⟩ : b' = w1.heap.size ∧ o' = 0 := by have := ha' (by simp); cases this; exact ⟨rfl, rfl⟩
  obtain ⟨b3, o3, c3, hrun, hat3⟩ := slice_from (enc := encS) (sz := 1) Tryz.underlying107 szStr ha' hc' hcm' hx' 1 (by simp) (by simp)
  have x0 := hx' 0 _ rfl 0 _ rfl
  simp only [List.length_cons, List.length_nil, Nat.zero_add, Nat.reduceAdd, Nat.reduceSub, Nat.mul_one, Nat.add_zero, List.drop_succ_cons, List.drop_zero] at hrun hat3 x0
  have e2 : ((1 : Nat) : Int) = 1 := rfl
  rw [e2] at hrun
  have hl6 : [t, n1, n2, n3, n4].length = 5 := rfl
  rw [hl6]
  clear hv' ha' hx' hown hcm' hc' e2 hl6
  by_cases hw : t = word
  case neg =>
    have gw : (t == word) = false := by simpa using hw
    have HSp := Lib.hid (HSn.out (by rw [HHe.out, if_neg hw]))
    clear hw hat3 hrun
    go_wp2_with fail
    go_quiet (fail)
    go_wp2_with fail
    go_ret3
    exact ⟨_, _, _, rfl, by rw [HSp.out]; exact ⟨by decide, rfl⟩, fun h => (by rw [HSp.out] at h; cases h), Bdn hb2' _⟩
  subst hw
  have HHe2 : Hid (headN t s = numsOf [n1, n2, n3, n4]) := Lib.hid (by rw [HHe.out, if_pos rfl])
  clear HHe
  go_wp2_with fail
  refine (numbers_any B _ [n1, n2, n3, n4] _ (X.out _ hb2').1 hat3 (by simp) (fun x hx => by have := HWS.out x (List.mem_cons_of_mem _ hx); omega)).mono ?_
  rintro e w3 ⟨v', rfl, hv1, hv2, hb3⟩
  have hb3' := hb2'.trans (hb3.mono hb2'.size)
  clear v1 v2 v3 hrun hat3 x0
  obtain ⟨v1, v2, v3⟩ := HE1.out _ hb3'
  cases hn : numsOf [n1, n2, n3, n4] with
  | none =>
    rw [hn] at hv2
    obtain rfl := hv2 rfl
    have HSp := Lib.hid (HSn.out (by rw [HHe2.out, hn]))
    clear hn hv1 hv2
    simp only [Option.isSome_none]
    go_wp2_with fail
    go_quiet (fail)
    go_wp2_with fail
    go_ret3
    exact ⟨_, _, _, rfl, by rw [HSp.out]; exact ⟨by decide, rfl⟩, fun h => (by rw [HSp.out] at h; cases h), Bdn hb3' _⟩
  | some ns =>
    have hown := hv1 ns hn
    have hnl := mapM_len _ hn
    obtain ⟨m0, m1, m2, m3, rfl⟩ := four_ints (l := ns) (by simpa using hnl)
    have HSp := Lib.hid (HSo.out _ (HHe2.out.trans hn))
    have HNs : Hid (splitN t s = [m0, m1, m2, m3]) := Lib.hid (by unfold splitN; rw [HHe2.out, hn]; rfl)
    clear hn hv1 hv2 hnl HSo HSn HHe2
    simp only [Option.isSome_some]
    have hownB := hown.base hb2'.size
    obtain ⟨a4, c4, b4, o4, hv4, ha4, hc4, hcm4, hx4⟩ := hown.at encI_enc
    subst hv4
    obtain rfl := ha4 (by simp)
    have z3 := hx4 3 _ rfl 0 _ rfl
    simp only [Nat.mul_one, Nat.add_zero] at z3
    have hl4 : [m0, m1, m2, m3].length = 4 := rfl
    rw [hl4] at hownB ⊢
    have HOwn := Lib.hid hownB
    have HSum := Lib.hid (fun W => sum_any bd W (by omega))
    have hsl := sumOf_lt bd
    simp only [List.getD_cons_zero, List.getD_cons_succ] at HSp
    obtain ⟨sm, hsm⟩ : ∃ sm, sumOf bd = sm := ⟨_, rfl⟩
    rw [hsm] at HSum HSp hsl
    have hwr : IntKind.i64.wrap (sm : Int) = (sm : Int) := by rw [IntKind.wrap_i64]; omega
    have Z3 := Lib.hid (fun W (h : Below w3.heap.size w3 W) => (h.cell (World.block_lt_of_cell? w3 _ z3)).trans z3)
    clear hx4 hown ha4 hc4 hcm4 hl4 hownB hsm z3
    have z3 := Z3.out _ (Below.refl w3.heap.size w3).drew
    go_wp2_with fail
    go_region_held3 (fun w' => w'.cell? ⟨b4, o4 + 3, none⟩ = some (.int .i64 m3)) (exact z3) ((go_at_call 39; (with_reducible refine (HSum.out _).mono ?_); rintro e w4 ⟨rfl, hb4⟩; have hb34 := (Below.refl w3.heap.size w3).drew.trans (hb4.mono (Below.refl w3.heap.size w3).drew.size); clear z3; have z3 := Z3.out _ hb34))
    all_goals
      have hb4' := hb3'.trans (hb34.mono hb3'.size)
      clear z3 v1 v2 v3
      obtain ⟨v1, v2, v3⟩ := HE1.out _ hb4'
      by_cases hq : m3 = (sm : Int)
      case neg =>
        have gq : (m3 != (sm : Int)) = true := by simpa using hq
        have HSp2 : Hid (splitE t s = .bare 10) := Lib.hid (by rw [HSp.out, if_neg hq])
        clear hq
        go_wp2_with fail
        go_quiet (fail)
        go_wp2_with fail
        go_ret3
        exact ⟨_, _, _, rfl, by rw [HSp2.out]; exact ⟨by decide, rfl⟩, fun h => (by rw [HSp2.out] at h; cases h), Bdn hb4' _⟩
      have gq : (m3 != (sm : Int)) = false := by simpa using hq
      have HSp2 : Hid (splitE t s = .nil) := Lib.hid (by rw [HSp.out, if_pos hq])
      have HSt := Lib.hid (fun W (h : Below w.heap.size w W) => split1_any B bd 10 W (X.out _ h).2 (by omega))
      clear hq
      go_wp2_with fail
      refine (HSt.out _ hb4').mono ?_
      rintro e w5 ⟨rfl, hown5, hb5⟩
      go_wp2_with fail
      go_ret3
      exact ⟨_, _, _, rfl, by rw [HSp2.out]; rfl, fun _ => ⟨by rw [HNs.out]; exact (HOwn.out.below hb34).below hb5, by rw [HLs.out]; exact hown5.base hb4'.size⟩, hb4'.trans (hb5.mono hb4'.size)⟩
/-- What data.Each answers. -/
theorem lineF_last {bad : Nat → Nat} {ls : List Str} {k : Nat} (h : k + 1 = ls.length) {x : Str} (hx : ls[k]? = some x) (hn : x ≠ []) : lineF bad ls k = 1 := by
  unfold lineF; rw [if_pos h, if_neg (by rw [hx]; simpa using hn)]
theorem lineF_end {bad : Nat → Nat} {ls : List Str} {k : Nat} (h : k + 1 = ls.length) (hx : ls[k]? = some []) : lineF bad ls k = 0 := by
  unfold lineF; rw [if_pos h, if_pos hx]
theorem lineF_mid {bad : Nat → Nat} {ls : List Str} {k : Nat} (h : k + 1 ≠ ls.length) : lineF bad ls k = bad k := by unfold lineF; rw [if_neg h]
set_option maxHeartbeats 2000000 in
set_option maxRecDepth 20000 in
theorem dataEach_any (E : Nat → Addr) (B : Nat) (v : Value) (ls : List Str) (f : FuncId) (caps : Array Value) (bad : Nat → Nat) (J : Nat → World → Prop) (n₀ : Nat) (w : World) (hE : Errs [1] E B w) (hBn : B ≤ n₀) (hn₀ : n₀ ≤ w.heap.size) (hf : Clo Tryz.prog f) (w0 : World) (hl : StrsAt w0 v ls) (h0n : w0.heap.size ≤ n₀) (hb0 : Below w0.heap.size w0 w) (hn : ls.length ≤ 100000) (hJ0 : J 0 w)
    (hdo : ∀ (i : Nat) (s : Str) W, ls[i]? = some s → J i W → Below n₀ w W → Calls Tryz.prog f (#[.int .i64 i, S s] ++ caps) W fun e W' => ∃ ev, e = .returned ev ∧ ErV E W' ev (erOf (bad i)) ∧ (bad i = 0 → J (i + 1) W') ∧ Below n₀ W W') :
    Calls Tryz.prog 68 #[v, .func (.func f) #[] caps] w fun e w' => ∃ ev, e = .returned ev ∧ ErV E w' ev (eachEr bad ls) ∧ (eachEr bad ls = .nil → J (ls.length - 1) w') ∧ Below n₀ w w' := by
  have hif := isIfaceE
  obtain ⟨a, c, b, o, rfl, ha, hc, hcm, hx⟩ := hl
  unfold maxLen at hcm
  have HX := Lib.hid hx
  have HDo := Lib.hid hdo
  have hf' := hf
  unfold Clo at hf'
  clear hx hdo
  have hV := fun W (h : Below n₀ w W) => (hE.below' h hBn).var 1 (by decide)
  simp only [errG] at hV
  have HV := Lib.hid hV
  clear hV
  go_enter Tryz.func68, Tryz.ntmps68
  go_wp2_with fail
  go_loopw [11] (fun i wr => ∃ k : Nat, k ≤ ls.length ∧ k + 1 ≤ ls.length + 1 ∧ i = .int .i64 k ∧ Hid (k < ls.length ∨ ls.length = 0) ∧ Hid (∀ j < k, lineF bad ls j = 0) ∧ Hid (J k wr) ∧ Below n₀ w wr) (fun i _ => ls.length - (intOf i).toNat)
  case atStart => exact ⟨0, by omega, by omega, rfl, Lib.hid (by omega), Lib.hid fun j hj => absurd hj (by omega), Lib.hid hJ0, Below.refl _ _⟩
  case round =>
    obtain ⟨k, hk, -, rfl, hkk, hj, hJk, hb⟩ := hrel
    obtain ⟨wo, rfl⟩ : ∃ wo, wo = wr := ⟨wr, rfl⟩
    by_cases hlt : k < ls.length
    case neg =>
      have h0 : ls.length = 0 := by have := hkk.out; omega
      have hk0 : k = 0 := by omega
      have HE0 : Hid (eachEr bad ls = .nil) := Lib.hid (firstErr_all fun j hj' => by omega)
      have HJ : Hid (J (ls.length - 1) wo) := Lib.hid (by rw [h0]; have := hJk.out; rwa [hk0] at this)
      have f : decide ((k : Int) < (ls.length : Int)) = false := by simp; omega
      clear h0 hk0
      go_wp2_with fail
      go_ret
      exact ⟨_, rfl, by rw [HE0.out]; rfl, fun _ => HJ.out, hb⟩
    obtain ⟨x, hxk⟩ := get_ex hlt
    have hbW := hb0.trans (hb.mono h0n)
    have c1 := HX.out k x hxk 0 _ rfl
    have c1 := (hbW.cell (World.block_lt_of_cell? w0 _ c1)).trans c1
    have i1 := idx_at (c := c) 1 Tryz.underlying107 szStr ha k hlt
    have hk1 : (k : Int) < (ls.length : Int) := by omega
    simp only [Nat.mul_one, Nat.add_zero] at c1 i1
    have HDk := Lib.hid (HDo.out k x wo hxk hJk.out hb)
    have HXk := Lib.hid hxk
    have hs0 : (0 : Int) ≤ (ls.length : Int) - 1 := by omega
    have hs1 : (ls.length : Int) - 1 < (ls.length : Int) := by omega
    clear hxk hbW
    by_cases hlast : k + 1 = ls.length
    case pos =>
      have gk : ((k : Int) == (ls.length : Int) - 1) = true := by simp; omega
      by_cases hx0 : x = []
      case pos =>
        subst hx0
        have HE0 : Hid (eachEr bad ls = .nil) := Lib.hid (firstErr_all fun j hj' => by
          rcases Nat.lt_or_ge j k with h | h
          · exact hj.out j h
          · obtain rfl : j = k := by omega
            exact lineF_end hlast HXk.out)
        have HJ : Hid (J (ls.length - 1) wo) := Lib.hid (by rw [← hlast]; exact hJk.out)
        clear hlast
        go_wp2_with fail
        go_ret
        exact ⟨_, rfl, by rw [HE0.out]; rfl, fun _ => HJ.out, hb⟩
      have gx : (x == []) = false := by simpa using hx0
      have gx2 : x.isEmpty = false := by cases x with | nil => exact absurd rfl hx0 | cons _ _ => rfl
      have HE0 : Hid (eachEr bad ls = .loc 1 k) := Lib.hid (by
        have hf1 := lineF_last (bad := bad) hlast HXk.out hx0
        unfold eachEr
        rw [firstErr_hit hlt hj.out (by rw [hf1]; decide), hf1])
      clear hlast hx0
      go_wp2_with fail
      refine HDk.out.mono ?_
      rintro e w2 ⟨ev, rfl, hev, -, hb2⟩
      have hb2' := hb.trans hb2
      have v1 := HV.out _ hb2'
      clear c1 hev
      go_wp2_with fail
      go_ret
      have hsz : n₀ ≤ w2.heap.size := Nat.le_trans hn₀ hb2'.size
      exact ⟨_, rfl, by rw [HE0.out]; exact ErV.fresh (by decide) _ _ _ _ rfl, fun h => (by rw [HE0.out] at h; cases h), hb2'.alloc hsz _⟩
    have gk : ((k : Int) == (ls.length : Int) - 1) = false := by simp; omega
    have hmid := lineF_mid (bad := bad) hlast
    by_cases hbk : bad k = 0
    case pos =>
      have HJ1 : Hid (∀ j < k + 1, lineF bad ls j = 0) := Lib.hid fun j hj' => (by
        rcases Nat.lt_or_ge j k with h | h
        · exact hj.out j h
        · obtain rfl : j = k := by omega
          exact hmid.trans hbk)
      have HK1 : Hid (k + 1 < ls.length ∨ ls.length = 0) := Lib.hid (by omega)
      have HBk := Lib.hid hbk
      clear hmid hbk hlast
      go_wp2_with fail
      refine HDk.out.mono ?_
      rintro e w2 ⟨ev, rfl, hev, hjj, hb2⟩
      rw [HBk.out] at hev
      obtain rfl : ev = .nilIface := hev
      have hb2' := hb.trans hb2
      have HJn := Lib.hid (hjj HBk.out)
      clear c1 hjj
      go_wp2_with fail
      go_roundw
      case rel => exact ⟨k + 1, by omega, by omega, by go_num, HK1, HJ1, HJn, hb2'⟩
      case measure => simp [intOf]; omega
    have HE0 : Hid (eachEr bad ls = .loc (bad k) k) := Lib.hid (by
      unfold eachEr
      rw [firstErr_hit hlt hj.out (by rw [hmid]; exact hbk), hmid])
    have HBk := Lib.hid hbk
    clear hmid hbk hlast
    go_wp2_with fail
    refine HDk.out.mono ?_
    rintro e w2 ⟨ev, rfl, hev, -, hb2⟩
    rw [show erOf (bad k) = .bare (bad k) from if_neg HBk.out] at hev
    obtain ⟨hcr, rfl⟩ := hev
    have hb2' := hb.trans hb2
    have HCr := Lib.hid hcr
    clear c1 hcr
    go_wp2_with fail
    go_ret
    have hsz : n₀ ≤ w2.heap.size := Nat.le_trans hn₀ hb2'.size
    exact ⟨_, rfl, by rw [HE0.out]; exact ErV.fresh HCr.out _ _ _ _ rfl, fun h => (by rw [HE0.out] at h; cases h), hb2'.alloc hsz _⟩
end Go.Proofs.YtlfkjbdkbdcdnaaGreatDoor
namespace Go.Proofs.YtlfkjbdkbdcdnaaGreatDoor
open Go.RowKit

set_option maxHeartbeats 2000000 in
set_option maxRecDepth 20000 in
theorem dataFits_any (v : Value) (n0 n1 n2 n3 : Int) (u : Value) (keys : List Int) (w : World) (hl : IntsAt w v [n0, n1, n2, n3]) (hk : IntsAt w u keys) (hn : keys.length ≤ 100000) :
    Calls Tryz.prog 71 #[v, u] w fun e w' => e = .returned (.bool (decide (fitsI [n0, n1, n2, n3] keys))) ∧ Below w.heap.size w w' := by
  obtain ⟨a4, c4, b4, o4, hv4, ha4, hc4, hcm4, hx4⟩ := hl
  subst hv4
  obtain rfl := ha4 (by simp)
  have z0 := hx4 0 _ rfl 0 _ rfl
  have z1 := hx4 1 _ rfl 0 _ rfl
  have z2 := hx4 2 _ rfl 0 _ rfl
  simp only [Nat.mul_one, Nat.add_zero] at z0 z1 z2
  have hl4 : [n0, n1, n2, n3].length = 4 := rfl
  rw [hl4]
  clear hx4 ha4 hc4 hcm4 hl4
  have hf : fitsI [n0, n1, n2, n3] keys ↔ n0 = keys.length ∧ n1 = (endsI keys).1 ∧ n2 = (endsI keys).2 := Iff.rfl
  by_cases h0 : keys = []
  · subst h0
    obtain ⟨a, c, rfl, -, -⟩ := hk.form'
    have e0 : endsI [] = (0, 0) := rfl
    rw [e0] at hf
    simp only [List.length_nil] at hf ⊢
    have HF := Lib.hid hf
    clear hf hk e0
    by_cases h1 : n0 = 0
    case neg =>
      have g1 : (n0 == 0) = false := by simpa using h1
      have hd : decide (fitsI [n0, n1, n2, n3] []) = false := decide_eq_false fun h => h1 (HF.out.1 h).1
      rw [hd]
      clear hd h1
      go_enter Tryz.func71, Tryz.ntmps71
      go_wp2_with fail
      go_ret
      exact ⟨rfl, Below.refl _ _⟩
    have g1 : (n0 == 0) = true := by simpa using h1
    by_cases h2 : n1 = 0
    case neg =>
      have g2 : (n1 == 0) = false := by simpa using h2
      have hd : decide (fitsI [n0, n1, n2, n3] []) = false := decide_eq_false fun h => h2 (HF.out.1 h).2.1
      rw [hd]
      clear hd h1 h2
      go_enter Tryz.func71, Tryz.ntmps71
      go_wp2_with fail
      go_ret
      exact ⟨rfl, Below.refl _ _⟩
    have g2 : (n1 == 0) = true := by simpa using h2
    by_cases h3 : n2 = 0
    case neg =>
      have g3 : (n2 == 0) = false := by simpa using h3
      have hd : decide (fitsI [n0, n1, n2, n3] []) = false := decide_eq_false fun h => h3 (HF.out.1 h).2.2
      rw [hd]
      clear hd h1 h2 h3
      go_enter Tryz.func71, Tryz.ntmps71
      go_wp2_with fail
      go_ret
      exact ⟨rfl, Below.refl _ _⟩
    have g3 : (n2 == 0) = true := by simpa using h3
    have hd : decide (fitsI [n0, n1, n2, n3] []) = true := decide_eq_true (HF.out.2 ⟨h1, h2, h3⟩)
    rw [hd]
    clear hd h1 h2 h3
    go_enter Tryz.func71, Tryz.ntmps71
    go_wp2_with fail
    go_ret
    exact ⟨rfl, Below.refl _ _⟩
  · have HMin := Lib.hid (fun q => (minI_any u keys (w.drewN q) (hk.below (Bdn (Below.refl _ _) q)) h0 hn).mono fun e w' (h : _ ∧ w.drewN q = w') => (⟨h.1, h.2.symm⟩ : _ ∧ w' = w.drewN q))
    have HMax := Lib.hid (fun q => (maxI_any u keys (w.drewN q) (hk.below (Bdn (Below.refl _ _) q)) h0 hn).mono fun e w' (h : _ ∧ w.drewN q = w') => (⟨h.1, h.2.symm⟩ : _ ∧ w' = w.drewN q))
    obtain ⟨a, c, rfl, -, -⟩ := hk.form'
    have hpos : 0 < keys.length := List.length_pos_iff.2 h0
    have gk : ((keys.length : Int) == 0) = false := by simp; omega
    obtain ⟨lo, hlo⟩ : ∃ lo, (endsI keys).1 = lo := ⟨_, rfl⟩
    obtain ⟨hi, hhi⟩ : ∃ hi, (endsI keys).2 = hi := ⟨_, rfl⟩
    rw [hlo, hhi] at hf
    simp only [hlo, hhi] at HMin HMax
    have HF := Lib.hid hf
    clear hf hk h0 hlo hhi hpos
    by_cases h1 : n0 = keys.length
    case neg =>
      have g1 : (n0 == (keys.length : Int)) = false := by simpa using h1
      have hd : decide (fitsI [n0, n1, n2, n3] keys) = false := decide_eq_false fun h => h1 (HF.out.1 h).1
      rw [hd]
      clear hd h1
      go_enter Tryz.func71, Tryz.ntmps71
      go_wp2_with fail
      go_quiet (first | (go_at_call 104; refine Calls.quiet_of_same (HMin.out _)) | (go_at_call 105; refine Calls.quiet_of_same (HMax.out _)))
      go_wp2_with fail
      go_ret
      exact ⟨rfl, Bdn (Below.refl _ _) _⟩
    have g1 : (n0 == (keys.length : Int)) = true := by simpa using h1
    by_cases h2 : n1 = lo
    case neg =>
      have g2 : (n1 == lo) = false := by simpa using h2
      have hd : decide (fitsI [n0, n1, n2, n3] keys) = false := decide_eq_false fun h => h2 (HF.out.1 h).2.1
      rw [hd]
      clear hd h1 h2
      go_enter Tryz.func71, Tryz.ntmps71
      go_wp2_with fail
      go_quiet (first | (go_at_call 104; refine Calls.quiet_of_same (HMin.out _)) | (go_at_call 105; refine Calls.quiet_of_same (HMax.out _)))
      go_wp2_with fail
      go_ret
      exact ⟨rfl, Bdn (Below.refl _ _) _⟩
    have g2 : (n1 == lo) = true := by simpa using h2
    by_cases h3 : n2 = hi
    case neg =>
      have g3 : (n2 == hi) = false := by simpa using h3
      have hd : decide (fitsI [n0, n1, n2, n3] keys) = false := decide_eq_false fun h => h3 (HF.out.1 h).2.2
      rw [hd]
      clear hd h1 h2 h3
      go_enter Tryz.func71, Tryz.ntmps71
      go_wp2_with fail
      go_quiet (first | (go_at_call 104; refine Calls.quiet_of_same (HMin.out _)) | (go_at_call 105; refine Calls.quiet_of_same (HMax.out _)))
      go_wp2_with fail
      go_ret
      exact ⟨rfl, Bdn (Below.refl _ _) _⟩
    have g3 : (n2 == hi) = true := by simpa using h3
    have hd : decide (fitsI [n0, n1, n2, n3] keys) = true := decide_eq_true (HF.out.2 ⟨h1, h2, h3⟩)
    rw [hd]
    clear hd h1 h2 h3
    go_enter Tryz.func71, Tryz.ntmps71
    go_wp2_with fail
    go_quiet (first | (go_at_call 104; refine Calls.quiet_of_same (HMin.out _)) | (go_at_call 105; refine Calls.quiet_of_same (HMax.out _)))
    go_wp2_with fail
    go_ret
    exact ⟨rfl, Bdn (Below.refl _ _) _⟩
end Go.Proofs.YtlfkjbdkbdcdnaaGreatDoor
namespace Go.Proofs.YtlfkjbdkbdcdnaaGreatDoor
open Go.RowKit Go.Shelf Go.Sort

attribute [local go_sem] Oper.semAt_some in
set_option maxRecDepth 100000 in
set_option maxHeartbeats 2000000 in
/-- slices.Values's closure, for every loop body that keeps what lay below n₀. -/
theorem values1I_in (F : Fence) (n : Nat) (h7 : F.fn 148) (hro : F.round = none) (hn : 1 ≤ n) (l Bs n₀ : Nat) (a : Option Addr) (c b o : Nat) (zs : List Int) (ha : 0 < zs.length → a = some ⟨b, o, none⟩) (hb : 0 < zs.length → b < n₀) (J Jx : List Int → World → Prop)
    (W : World) (hcm : zs.length ≤ 9223372036854775807)
    (hY : ∀ pre x W1, J pre W1 → pre.length < zs.length → YieldAt F (n - 1) Tryz.prog l #[.int .i64 x] W1 fun e W' =>
      (e = .returned (.bool true) ∧ J (pre ++ [x]) W' ∧ Below n₀ W1 W') ∨ (e = .returned (.bool false) ∧ Jx (pre ++ [x]) W'))
    (hBs : W.cell? ⟨Bs, 0, none⟩ = some (.slice a zs.length c)) (hx : ∀ (k : Nat) (x : Int), zs[k]? = some x → ∀ (j : Nat) (u : Value), (encI x)[j]? = some u → W.cell? ⟨b, o + k * 1 + j, none⟩ = some u) (h0 : J [] W) :
    CallsIn F n Tryz.prog 148 #[.func (.yield l) #[] #[], .pointer (some ⟨Bs, 0, none⟩)] W fun e W' => (∃ v, e = .returned v) ∧ ((∃ ys, ys = zs ∧ J ys W') ∨ (∃ pre, pre <+: zs ∧ Jx pre W')) := by
  refine callsIn_of_wp Tryz.func148 rfl h7 ?_ hro
  simp only [Tryz.ntmps148, List.size_toArray, List.length_cons, List.length_nil, Nat.reduceAdd, Nat.reduceSub, Array.replicate_succ, Array.replicate_zero, List.push_toArray, List.append_toArray, List.nil_append, List.cons_append]
  gi_wp2
  gi_loopw [7] (fun i wr => ∃ k : Nat, k ≤ zs.length ∧ i = .int .i64 k ∧ J (zs.take k) wr ∧ Below n₀ W wr) (fun i _ => zs.length - (intOf i).toNat)
  case atStart => exact ⟨0, Nat.zero_le _, rfl, h0, Below.refl _ _⟩
  case round =>
    obtain ⟨k, hk, rfl, hJs, hnx⟩ := hrel
    by_cases hlt : k < zs.length
    case neg =>
      obtain rfl : k = zs.length := by omega
      rw [List.take_length] at hJs
      gi_wp2
      go_end0
      exact ⟨⟨_, rfl⟩, .inl ⟨_, rfl, hJs⟩⟩
    obtain ⟨x, hxk⟩ := get_ex hlt
    have hbn := hb (by omega)
    have c0 := (hnx.cell (p := ⟨b, o + k * 1 + 0, none⟩) hbn).trans (hx k x hxk 0 _ rfl)
    have i1 := idx_at (c := c) 1 Tryz.underlying39 szInt ha k hlt
    have hk1 : (k : Int) < (zs.length : Int) := by omega
    simp only [Nat.add_zero, Nat.mul_one] at c0 i1
    obtain ⟨fn, tmps, assign, body, hy, hR⟩ := hY _ x wr hJs (by rw [List.length_take]; omega)
    have HSn := Lib.hid (take_snoc' hxk)
    clear hxk
    gi_wp2
    refine hR.mono ?_
    rintro e W3 (⟨rfl, hJ3, hk3⟩ | ⟨rfl, hJx3⟩)
    · gi_wp2
      go_roundw
      case rel => exact ⟨k + 1, by omega, by simp, by rw [HSn.out]; exact hJ3, hnx.trans hk3⟩
      case measure => simp [intOf]; omega
    · gi_wp2
      refine bodyPost_ret (results_none rfl _ _ _) rfl ?_
      exact ⟨⟨_, rfl⟩, .inr ⟨_, by rw [← HSn.out]; exact List.take_prefix _ _, hJx3⟩⟩
theorem valuesI_any (a : Option Addr) (len cap : Nat) (w : World) :
    Calls Tryz.prog 114 #[.slice a len cap] w fun e w' => e = .returned (.func (.func 148) #[] #[.pointer (some ⟨w.heap.size, 0, none⟩)]) ∧ w' = w.alloc (.cells #[.slice a len cap] 39) := by
  go_enter Tryz.func114, Tryz.ntmps114
  go_wp2_with fail
  go_ret
  exact ⟨rfl, rfl⟩
/-- slices.Values(l) hands back a value that yields all of l, in order. -/
theorem valuesI_stops (F : Fence) (n : Nat) (h7 : F.fn 148) (hro : F.round = none) (hn : 1 ≤ n) (Bs n₀ : Nat) (v : Value) (zs : List Int) (w0 w : World) (hBs : Bs < w.heap.size) (_hn₀ : n₀ ≤ w.heap.size)
    (hc : w.cell? ⟨Bs, 0, none⟩ = some v) (hl : IntsAt w0 v zs) (hlow : w0.heap.size ≤ n₀) (hb0 : Below w0.heap.size w0 w) :
    SeqStopsK F n Tryz.prog 148 #[.pointer (some ⟨Bs, 0, none⟩)] (fun x : Int => #[.int .i64 x]) (Below n₀) (fun ys => ys = zs) (fun pre => pre <+: zs) zs.length w := fun l J Jx W hW hJ _ hY h0 => by
  obtain ⟨a, c, b, o, rfl, ha, hcc, hcm, hx⟩ := hl
  have hbn : 0 < zs.length → b < w0.heap.size := fun h => by
    obtain ⟨x, hxk⟩ := get_ex (l := zs) (k := 0) h
    exact World.block_lt_of_cell? w0 ⟨b, o + 0 * 1 + 0, none⟩ (hx 0 x hxk 0 _ rfl)
  have hbW := hb0.trans (hW.mono hb0.size)
  refine values1I_in F n h7 hro hn l Bs n₀ a c b o zs ha (fun h => Nat.lt_of_lt_of_le (hbn h) hlow) J Jx W (by unfold maxLen at hcm; omega) hY ((hW.cell (p := ⟨Bs, 0, none⟩) hBs).trans hc) (fun k x hk j u hu => ?_) h0
  have h1 := hx k x hk j u hu
  exact (hbW.cell (World.block_lt_of_cell? w0 _ h1)).trans h1
theorem infoInt : (Tryz.prog.info? 3).map (fun i => (i.zero, i.size, i.bytes)) = some (some (.int .i64 0), 1, 8) := by kernel_rfl
attribute [local go_sem] Oper.semAt_some in
set_option maxRecDepth 100000 in
set_option maxHeartbeats 2000000 in
/-- slices.AppendSeq(nil, seq): all that seq yields. -/
theorem appendSeqI_in (F : Fence) (n : Nat) (h3 : F.fn 183) (hro : F.round = none) (hn : 3 ≤ n) (gf : Nat) (lb : Array Value) (hFg : F.fn gf) (eg : ∀ args w, (callFunc gf args).run Tryz.prog w = .ok (.enter gf args) w) (zs : List Int) (hz : zs.length ≤ 100000) (n₀ : Nat) (w : World) (hn₀ : n₀ ≤ w.heap.size)
    (hseq : SeqStopsK F (n - 1) Tryz.prog gf lb (fun x : Int => #[.int .i64 x]) (Below n₀) (fun ys => ys = zs) (fun pre => pre <+: zs) zs.length w) :
    CallsIn F n Tryz.prog 183 #[.slice none 0 0, .func (.func gf) #[] lb] w fun e w' => ∃ v, e = .returned v ∧ Own encI 3 1 w.heap.size w' v zs ∧ Below w.heap.size w w' := by
  have h1 : 1 ≤ n := by omega
  obtain ⟨i0, hi, hz0, hz1, hz2⟩ := info_parts infoInt
  refine callsIn_of_wp_marks Tryz.func183 rfl h3 ?_ hro
  simp only [Tryz.ntmps183, List.size_toArray, List.length_cons, List.length_nil, Nat.reduceAdd, Nat.reduceSub, Array.replicate_succ, Array.replicate_zero, List.push_toArray, List.append_toArray, List.nil_append, List.cons_append]
  gi_wp2
  have bO := Boxed.new w 39 (.slice none 0 0)
  have hB0 : Below w.heap.size w (w.alloc (.cells #[.slice none 0 0] 39)) := (Below.refl _ w).alloc (Nat.le_refl _) _
  have hsz : (w.alloc (.cells #[.slice none 0 0] 39)).heap.size = w.heap.size + 1 := by simp
  have hseq' : SeqStopsK F (n - 1) Tryz.prog gf lb (fun x : Int => #[.int .i64 x]) (Below n₀) (fun ys => ys = zs) (fun pre => pre <+: zs) zs.length (w.alloc (.cells #[.slice none 0 0] 39)) := fun l J Jx W hW => hseq l J Jx W (hB0.trans (hW.mono hB0.size))
  obtain ⟨W0, hW0⟩ : ∃ W0, w.alloc (.cells #[.slice none 0 0] 39) = W0 := ⟨_, rfl⟩
  rw [hW0] at bO hB0 hsz hseq' ⊢
  clear hW0
  refine wpIn_rangeFunc_ownF hro h1 (gf := gf) (lb := lb) rfl hFg eg hseq' belowK_t (belowK_b (by omega)) (Below.refl _ _) (fun _ => rfl)
    (fun pre W => (∃ v, Boxed W w.heap.size 39 v ∧ W.ownsRow w.heap.size 3 1 v pre.length (pre.flatMap encI) ∧ True) ∧ Below w.heap.size w W)
    (fun _ _ _ => False)
    (OwnFrom.and (Go.Own.from (holdsRow_own w.heap.size w.heap.size 39 3 1 (fun pre : List Int => pre.length) (fun pre => pre.flatMap encI) (fun _ _ => True)) _) (ownFrom_below (Nat.le_refl _) (by omega)))
    (fun _ _ _ _ _ hs _ _ => hs)
    ⟨⟨_, bO, World.ownsRow_nil _ _ _ _, trivial⟩, hB0⟩ ?a1 ?assign ?body ?done ?stop
  case assign =>
    intro l x W K hK
    gi_wp2
    exact hK
  case body =>
    rintro l pre x W ⟨⟨v, hv, hrow, -⟩, hB⟩ hlt
    have hc := hv.cell
    gi_wp2_with (gi_at_builtin; refine wpListIn_append_own _ rfl _ _ 39 rfl w.heap.size 3 i0 _ 1 8 Tryz.underlying39 hi hz0 hz1 hz2 rfl (by decide) _ _ _ rfl (hrow.alloc _) ⟨W.heap.size, 0, none⟩ 1 1 (encI x) rfl rfl (cells_new3 _ _ _) (by simp [Value.oneCell']) (by unfold maxLen; omega) (by omega) (by have := hB.size; simp; omega) ?_; intro v' w1 hown' hgrow _; obtain ⟨g', cap', rfl⟩ := ownsRow_succ hown'; obtain ⟨hv1, hv2, hr2, hk2, hb2⟩ := hv.appended (by decide) hrow hB.size (Nat.le_refl _) hown' hgrow; have hc1 := hv1.cell; have hf1 := hv1.frozen)
    exact ⟨hk2, hb2.mono hn₀, ⟨_, hv2, by simpa using hr2, trivial⟩, hB.trans hb2⟩
  case done =>
    rintro D ys W hD rfl ⟨⟨v, hv, hrow, -⟩, hB⟩ hK
    have hc := hv.cell
    gi_wp2
    refine ⟨by simp, .inl ⟨_, _, rfl, run_takeDeferred hK, ?_⟩⟩
    exact ⟨_, results_tmp rfl _ _ _, v, rfl, ownsRow_putObj hrow _ hK rfl, hB.trans (belowK_b (w := w) (Nat.le_refl _) W D _ _ (by omega) hK rfl rfl)⟩
  case stop =>
    rintro D c pre W _ _ h _
    exact h.elim
theorem collectI_any (Bs : Nat) (v : Value) (l : List Int) (w0 w : World) (hBs : Bs < w.heap.size) (hc : w.cell? ⟨Bs, 0, none⟩ = some v) (hl : IntsAt w0 v l) (hb0 : Below w0.heap.size w0 w) (hn : l.length ≤ 100000) :
    Calls Tryz.prog 146 #[.func (.func 148) #[] #[.pointer (some ⟨Bs, 0, none⟩)]] w fun e w' => ∃ u, e = .returned u ∧ Own encI 3 1 w.heap.size w' u l ∧ Below w.heap.size w w' := by
  have HA := Lib.hid ((callsIn_wide (n := 5)).1 (appendSeqI_in Fence.wide 5 trivial rfl (by omega) 148 #[.pointer (some ⟨Bs, 0, none⟩)] trivial (enters_of Tryz.func148 (by kernel_rfl) rfl) l hn w.heap.size w (Nat.le_refl _)
    (valuesI_stops Fence.wide 4 trivial rfl (by omega) Bs w.heap.size v l w0 w hBs (Nat.le_refl _) hc hl hb0.size hb0)))
  clear hc
  go_enter Tryz.func146, Tryz.ntmps146
  go_wp2_with fail
  refine HA.out.mono ?_
  rintro e w1 ⟨u, rfl, hown, hb1⟩
  go_wp2_with fail
  go_ret
  exact ⟨_, rfl, hown, hb1⟩
theorem flat_encI (l : List Int) : l.flatMap encI = l.map (.int .i64) := flat_one _ _
theorem grownBy_grow (w : World) (os : Array Obj) : w.grownBy (grow w os) none := ⟨rfl, rfl, rfl, by simp, fun k hk _ => heap_grow_old _ _ hk⟩
theorem sortI_any (B : Nat) (v : Value) (l : List Int) (w : World) (ho : Own encI 3 1 B w v l) (hB : B ≤ w.heap.size) (hn : l.length ≤ 100000) :
    Calls Tryz.prog 147 #[v] w fun e w' => e = .returned (.tuple #[]) ∧ Own encI 3 1 B w' v (sortI l) ∧ Below B w w' := by
  have ho' : w.ownsRow B 3 1 v l.length (l.map (.int .i64)) := by rw [← flat_encI]; exact ho
  by_cases hv : v = .slice none 0 0
  · subst hv
    have h0 : l = [] := by
      rcases ho'.2 with ⟨_, h0⟩ | ⟨g, cap, cur, e, _⟩
      · exact List.eq_nil_of_length_eq_zero h0
      · cases e
    subst h0
    refine (Tryz.slices_Sort_int_none none 0 w).mono ?_
    rintro e w' ⟨rfl, rfl⟩
    exact ⟨rfl, by simpa [sortI] using ho, Below.refl _ _⟩
  · obtain ⟨g, cap, rfl, hBg, hgl, hc, hcm, -, hH⟩ := Lib.holds_of_ownsRow ho' hv
    refine (Tryz.slices_Sort_int g 0 cap l w hH hgl (by omega)).mono ?_
    rintro e w' ⟨rfl, q, os, rfl⟩
    have h1 := Lib.ownsRow_putRow (q := q) (k := l.length) (ys := sortI l) ho' (by simp) (Nat.le_refl _)
    rw [List.take_of_length_le (by simp)] at h1
    refine ⟨rfl, ?_, (Lib.below_putRow (Below.refl _ _) hBg).grown (grownBy_grow _ os) (by simpa using hB) (fun j e => by cases e)⟩
    unfold Own
    rw [flat_encI, List.length_mergeSort]
    exact World.ownsRow.kept h1 (grownBy_grow _ os) (.inr (by simp [Value.ownBlock]))
theorem compactI_any (B : Nat) (v : Value) (l : List Int) (w : World) (ho : Own encI 3 1 B w v l) (hn : l.length ≤ 100000) :
    Calls Tryz.prog 115 #[v] w fun e w' => ∃ v', e = .returned v' ∧ Own encI 3 1 B w' v' (Lib.compact l) ∧ Below B w w' := by
  have ho' : w.ownsRow B 3 1 v l.length (l.map (.int .i64)) := by rw [← flat_encI]; exact ho
  by_cases hv : v = .slice none 0 0
  · subst hv
    have h0 : l = [] := by
      rcases ho'.2 with ⟨_, h0⟩ | ⟨g, cap, cur, e, _⟩
      · exact List.eq_nil_of_length_eq_zero h0
      · cases e
    subst h0
    refine (Tryz.slices_Compact_int_empty none 0 w).mono ?_
    rintro e w' ⟨rfl, rfl⟩
    exact ⟨_, rfl, by simpa [Lib.compact, Lib.compactUpTo] using ho, Below.refl _ _⟩
  · obtain ⟨g, cap, rfl, hBg, hgl, hc, hcm, -, hH⟩ := Lib.holds_of_ownsRow ho' hv
    have hle := Lib.compact_length_le l
    refine (Tryz.slices_Compact_int g 0 cap l w hH (by omega) hc).mono ?_
    rintro e w' ⟨rfl, q, rfl⟩
    refine ⟨_, rfl, ?_, Lib.below_putRow (Below.refl _ _) hBg⟩
    have hc := Lib.ownsRow_putRow (q := q) (k := (Lib.compact l).length) (ys := Lib.compact l ++ List.replicate (l.length - (Lib.compact l).length) 0) ho' (by simp; omega) (by omega)
    rw [List.take_left] at hc
    unfold Own
    rw [flat_encI]
    exact hc
theorem sortedI_any (Bs : Nat) (v : Value) (l : List Int) (w0 w : World) (hBs : Bs < w.heap.size) (hc : w.cell? ⟨Bs, 0, none⟩ = some v) (hl : IntsAt w0 v l) (hb0 : Below w0.heap.size w0 w) (hn : l.length ≤ 100000) :
    Calls Tryz.prog 113 #[.func (.func 148) #[] #[.pointer (some ⟨Bs, 0, none⟩)]] w fun e w' => ∃ u, e = .returned u ∧ Own encI 3 1 w.heap.size w' u (sortI l) ∧ Below w.heap.size w w' := by
  have HC := Lib.hid (collectI_any Bs v l w0 w hBs hc hl hb0 hn)
  clear hc
  go_enter Tryz.func113, Tryz.ntmps113
  go_wp2_with fail
  refine HC.out.mono ?_
  rintro e w1 ⟨u, rfl, hown, hb1⟩
  have HS := Lib.hid (sortI_any w.heap.size u l w1 hown hb1.size hn)
  go_wp2_with fail
  refine HS.out.mono ?_
  rintro e w2 ⟨rfl, hown2, hb2⟩
  go_wp2_with fail
  go_ret
  exact ⟨_, rfl, hown2, hb1.trans hb2⟩
theorem goneKeys_any (v : Value) (l : List Int) (w : World) (hl : IntsAt w v l) (hn : l.length ≤ 100000) :
    Calls Tryz.prog 62 #[v] w fun e w' => ∃ u, e = .returned u ∧ Own encI 3 1 w.heap.size w' u (risOf l) ∧ Below w.heap.size w w' := by
  obtain ⟨a, c, rfl, -, -⟩ := hl.form'
  have hba : Below w.heap.size w (w.alloc (.cells #[.slice a l.length c] 39)) := (Below.refl _ _).alloc (Nat.le_refl _) _
  have c0 : (w.alloc (.cells #[.slice a l.length c] 39)).cell? ⟨w.heap.size, 0, none⟩ = some (.slice a l.length c) := by simp
  have HS := Lib.hid (sortedI_any w.heap.size _ l w _ (by simp) c0 hl hba hn)
  clear c0
  go_enter Tryz.func62, Tryz.ntmps62
  go_wp2_with fail
  refine (valuesI_any a l.length c w).mono ?_
  rintro e w1 ⟨rfl, rfl⟩
  go_wp2_with fail
  refine HS.out.mono ?_
  rintro e w2 ⟨u, rfl, hown, hb2⟩
  have HC := Lib.hid (compactI_any w.heap.size u (sortI l) w2 (hown.base (by simp)) (by simpa using hn))
  rw [compact_sort] at HC
  go_wp2_with fail
  refine HC.out.mono ?_
  rintro e w3 ⟨u3, rfl, hown3, hb3⟩
  go_wp2_with fail
  go_ret
  exact ⟨_, rfl, hown3, (hba.trans (hb2.mono hba.size)).trans hb3⟩
end Go.Proofs.YtlfkjbdkbdcdnaaGreatDoor
