/- The document's answer on lists: ReadList: the walk. deedboxref1.SumOf: the walk: the sum, bit by bit. deedboxref1's Ends, wholeText, headFault, GoneOf: the walks. deedboxref1's GoneOf, headFault: the walks. Printed by gen_refgone.py. -/
import Derived.Test.YtpiflhhppigdfaaGreatDoorBx17
import Derived.Test.YtpiflhhppigdfaaGreatDoorBx4
import Derived.Laws.BitsAll
import Derived.Outline
import Derived.Test.YtpiflhhppigdfaaGreatDoorBx16
import Derived.Test.YtpiflhhppigdfaaGreatDoorBx10
namespace Go.Proofs.YtpiflhhppigdfaaGreatDoor
open Go.RowKit

theorem Own.stays {α : Type} {enc : α → List Value} {sz : Nat} {w w' : World} {v : Value} {l : List α} {e : TypeId} {B : Nat} (hen : Enc enc sz) (h : Own enc e sz B w v l) (hw : ∀ p : Addr, B ≤ p.block → w'.cell? p = w.cell? p) : At enc sz w' v l := by
  rcases Nat.eq_zero_or_pos l.length with h0 | h0
  · obtain ⟨a, c, b, o, hv, ha, hc, hm, hx⟩ := h.at hen
    exact ⟨a, c, b, o, hv, ha, hc, hm, fun k x hk => absurd (List.getElem?_eq_some_iff.1 hk).1 (by omega)⟩
  · obtain ⟨g', cap, cur, rfl, hB, _, hc, hm, _, _⟩ := h.open h0
    refine ⟨_, cap, g', 0, rfl, fun _ => rfl, hc, hm, fun k x hk j u hu => ?_⟩
    have h1 := h.cells hen k x hk j u hu
    rw [Nat.zero_add]
    exact (hw ⟨g', k * sz + j, none⟩ hB).trans h1

theorem fault_tc {fn : Func} {u p : Tmp} (h : fn.results = #[.tmp u, .cell p 71]) {tmps : Array Value} {w : World} {g : Nat} {c q : Int} {v : Value} (hp : tmps.getD p undef = .pointer (some ⟨g, 0, none⟩)) (hg : w.heap[g]? = some (.cells #[.int .i64 c, .int .i64 q] 71 (0, 0))) (hv : tmps.getD u undef = v) :
    (results fn tmps).run Tryz.prog w = .ok (.tuple #[v, faultV c q]) w :=
  results_tmp_cell h tmps w g 71 #[.int .i64 c, .int .i64 q] (0, 0) _ hp hg Tryz.underlying71 rfl (by kernel_rfl) hv
end Go.Proofs.YtpiflhhppigdfaaGreatDoor
namespace Go.Proofs.YtpiflhhppigdfaaGreatDoor
open Go.RowKit

theorem i64_xor_nat (a b : Nat) (ha : a < 4294967296) (hb : b < 4294967296) : bits .xor .i64 (a : Int) (b : Int) = ((a ^^^ b : Nat) : Int) := by
  have hx : a ^^^ b < 2 ^ 32 := Nat.xor_lt_two_pow (by omega) (by omega)
  show IntKind.i64.wrap ((BitVec.ofInt 64 (a : Int) ^^^ BitVec.ofInt 64 (b : Int)).toNat : Int) = _
  rw [BitVec.toNat_xor, ofInt_u64 a (by omega), ofInt_u64 b (by omega), IntKind.wrap_i64]
  omega
set_option maxRecDepth 400000 in
set_option maxHeartbeats 1000000 in
theorem refSum_any (s : Str) (w : World) (hs : s.length ≤ 100000) :
    Calls Tryz.prog 233 #[S s] w fun e w' => e = .returned (.int .i64 (sumOf s : Nat)) ∧ w = w' := by
  go_enter Tryz.func233, Tryz.ntmps233
  go_wp2_with fail
  go_loop [3, 4] (fun c i => ∃ k : Nat, k ≤ s.length ∧ i = .int .i64 k ∧ c = .int .i64 (crcFold 4294967295 (s.take k) : Nat)) (fun _ i => s.length - (intOf i).toNat)
  case atStart => exact ⟨0, by omega, rfl, rfl⟩
  case round =>
    obtain ⟨k, hk, rfl, rfl⟩ := hrel
    have hc : crcFold 4294967295 (s.take k) < 4294967296 := crcFold_lt _ (by omega)
    by_cases hlt : k < s.length
    case neg =>
      obtain rfl : k = s.length := by omega
      have f : decide ((s.length : Int) < (s.length : Int)) = false := by simp
      have hf := i64_xor_nat _ 4294967295 hc (by omega)
      rw [List.take_length] at hf hc ⊢
      have HF : Hid (bits .xor .i64 ((crcFold 4294967295 s : Nat) : Int) 4294967295 = (sumOf s : Nat)) := Lib.hid hf
      generalize crcFold 4294967295 s = c at *
      clear hf hc
      go_wp2_with fail
      go_ret
      exact ⟨show Ending.returned (.int .i64 (bits .xor .i64 (c : Int) 4294967295)) = _ by rw [HF.out], rfl⟩
    have hk1 : (k : Int) < s.length := by omega
    have hsn : crcFold 4294967295 (s.take (k + 1)) = crcStep (crcFold 4294967295 (s.take k)) s[k] := by
      rw [take_snoc' (x := s[k]) (by simp [hlt]), crcFold_snoc]
    have HSn := Lib.hid hsn; clear hsn
    generalize crcFold 4294967295 (s.take k) = c at *
    have hbk : (({ data := s.toArray } : ByteArray)[k]'(by simpa [ByteArray.size] using hlt)) = s[k] := rfl
    have hr1 := i64_xor_nat c s[k].toNat hc (by have := byte_lt s[k]; omega)
    have hx := xor_byte hc s[k]
    have hy0 : (0 : Int) ≤ (s[k].toNat : Int) := by omega
    have hy1 : (s[k].toNat : Int) < 256 := by have := byte_lt s[k]; omega
    have hst : crcStep c s[k] = crcIter 8 (c ^^^ s[k].toNat) := rfl
    rw [hst] at HSn
    clear hst
    have HSl := Lib.hid hlt
    generalize c ^^^ s[k].toNat = x at *
    go_wp2_with fail
    go_loop [3, 5] (fun d j => ∃ m : Nat, m ≤ 8 ∧ j = .int .i64 m ∧ d = .int .i64 (crcIter m x : Nat)) (fun _ j => 8 - (intOf j).toNat)
    case atStart => exact ⟨0, by omega, rfl, rfl⟩
    case round =>
      obtain ⟨m, hm, rfl, rfl⟩ := hrel
      by_cases hm8 : m < 8
      case neg =>
        obtain rfl : m = 8 := by omega
        go_wp2_with fail
        refine ⟨⟨k + 1, by omega, by go_num, by rw [HSn.out]⟩, ?_⟩
        simp [intOf]; omega
      have hm8' : (m : Int) < 8 := by omega
      have hd : crcIter m x < 4294967296 := crcIter_lt m hx
      have hsu : crcIter (m + 1) x = crcBit (crcIter m x) := crcIter_succ m x
      have HSu := Lib.hid hsu; clear hsu
      generalize crcIter m x = d at *
      have h1 : (0 : Int) ≤ d := by omega
      have h2 : (d : Int) < 4294967296 := by omega
      rcases Nat.mod_two_eq_zero_or_one d with hp | hp
      · have t1 : ((d : Int) % 2 == 1) = false := beq_eq_false_iff_ne.2 (by omega)
        have t2 : ((d : Int).tmod 2 == 1) = false := by rw [Int.tmod_eq_emod_of_nonneg h1]; exact t1
        have q0 : ((crcBit d : Nat) : Int) = (d : Int) / 2 := by unfold crcBit; rw [if_neg (by omega)]; omega
        have Q0 := Lib.hid q0
        clear hd hp q0
        go_wp2_with fail
        refine ⟨⟨m + 1, by omega, by go_num, by rw [HSu.out, Q0.out]⟩, ?_⟩
        simp [intOf]; omega
      · have t1 : ((d : Int) % 2 == 1) = true := by rw [beq_iff_eq]; omega
        have t2 : ((d : Int).tmod 2 == 1) = true := by rw [Int.tmod_eq_emod_of_nonneg h1]; exact t1
        have q1 : bits .xor .i64 ((d : Int) / 2) 3988292384 = ((crcBit d : Nat) : Int) := by
          have := i64_xor_nat (d / 2) 3988292384 (by omega) (by omega)
          rw [show ((d / 2 : Nat) : Int) = (d : Int) / 2 by omega] at this
          unfold crcBit crcP
          rw [if_pos hp]
          exact this
        have q2 : bits .xor .i64 ((d : Int).tdiv 2) 3988292384 = ((crcBit d : Nat) : Int) := by rw [Int.tdiv_eq_ediv_of_nonneg h1]; exact q1
        clear hd hp
        go_wp2_with fail
        refine ⟨⟨m + 1, by omega, by go_num, by rw [HSu.out]⟩, ?_⟩
        simp [intOf]; omega
end Go.Proofs.YtpiflhhppigdfaaGreatDoor
namespace Go.Proofs.YtpiflhhppigdfaaGreatDoor
open Go.RowKit

theorem ends_snoc {q : List Int} (h : q ≠ []) (x : Int) : endsI (q ++ [x]) = (if x < (endsI q).1 then x else (endsI q).1, if (endsI q).2 < x then x else (endsI q).2) := by
  match q, h with
  | a :: r, _ =>
    have h1 : Lib.minOf (a :: r ++ [x]) = min (Lib.minOf (a :: r)) x := by
      show ((a :: r) ++ [x]).foldl min a = min ((a :: r).foldl min a) x
      rw [List.foldl_append]; rfl
    have h2 : Lib.maxOf (a :: r ++ [x]) = max (Lib.maxOf (a :: r)) x := by
      show ((a :: r) ++ [x]).foldl max a = max ((a :: r).foldl max a) x
      rw [List.foldl_append]; rfl
    have e1 : endsI (a :: r) = (Lib.minOf (a :: r), Lib.maxOf (a :: r)) := if_neg (by simp)
    have e2 : endsI (a :: r ++ [x]) = (Lib.minOf (a :: r ++ [x]), Lib.maxOf (a :: r ++ [x])) := if_neg (by simp)
    rw [e2, e1, h1, h2]
    refine Prod.ext ?_ ?_
    · show min (Lib.minOf (a :: r)) x = if x < Lib.minOf (a :: r) then x else Lib.minOf (a :: r)
      split <;> omega
    · show max (Lib.maxOf (a :: r)) x = if Lib.maxOf (a :: r) < x then x else Lib.maxOf (a :: r)
      split <;> omega
theorem ends_one (x : Int) : endsI [x] = (x, x) := by
  unfold endsI
  rw [if_neg (by simp)]
  show (min x x, max x x) = (x, x)
  rw [Int.min_self, Int.max_self]
set_option maxHeartbeats 1000000 in
theorem refEnds_any (v : Value) (l : List Int) (w : World) (hl : IntsAt w v l) :
    Calls Tryz.prog 96 #[v] w fun e w' => e = .returned (.tuple #[.int .i64 (endsI l).1, .int .i64 (endsI l).2]) ∧ w = w' := by
  obtain ⟨a, c, b, o, rfl, ha, hc, hcm, hx⟩ := hl
  unfold maxLen at hcm
  rcases Nat.eq_zero_or_pos l.length with h0 | hpos
  · obtain rfl := List.eq_nil_of_length_eq_zero h0
    go_enter Tryz.func96, Tryz.ntmps96
    go_wp2_with fail
    go_ret2
    exact ⟨rfl, rfl⟩
  obtain rfl := ha hpos
  obtain ⟨x0, hx0⟩ := get_ex hpos
  have c0 := hx 0 x0 hx0 0 _ rfl
  have i0 := idx_at (c := c) (b := b) (o := o) 1 Tryz.underlying111 szInt (fun _ => rfl) 0 hpos
  simp only [Nat.zero_mul, Nat.add_zero] at c0 i0
  have e0 : ((0 : Nat) : Int) = 0 := rfl
  rw [e0] at i0
  have gk : ((l.length : Int) == 0) = false := beq_eq_false_iff_ne.2 (by omega)
  have hp1 : (0 : Int) < (l.length : Int) := by omega
  have H1 : Hid (endsI (l.take 1) = (x0, x0)) := Lib.hid (by
    rw [show l.take 1 = [x0] by rw [show (1 : Nat) = 0 + 1 from rfl, take_snoc' hx0]; rfl, ends_one])
  have HX := Lib.hid hx
  clear e0 hx0 hx
  go_enter Tryz.func96, Tryz.ntmps96
  go_wp2_with fail
  go_loop [4, 5, 6] (fun lo hi i => ∃ k : Nat, 1 ≤ k ∧ k ≤ l.length ∧ i = .int .i64 k ∧ ∃ m n, lo = .int .i64 m ∧ hi = .int .i64 n ∧ Hid (endsI (l.take k) = (m, n))) (fun _ _ i => l.length - (intOf i).toNat)
  case atStart => exact ⟨1, by omega, by omega, rfl, x0, x0, rfl, rfl, H1⟩
  case round =>
    obtain ⟨k, hk1, hk, rfl, m, n, rfl, rfl, hmn⟩ := hrel
    by_cases hlt : k < l.length
    case neg =>
      obtain rfl : k = l.length := by omega
      have f : decide ((l.length : Int) < (l.length : Int)) = false := by simp
      have HE : Hid (endsI l = (m, n)) := Lib.hid (by have := hmn.out; rwa [List.take_length] at this)
      go_wp2_with fail
      go_ret2
      exact ⟨by rw [HE.out]; rfl, rfl⟩
    obtain ⟨x, hxk⟩ := get_ex hlt
    have c1 := HX.out k x hxk 0 _ rfl
    have i1 := idx_at (c := c) (b := b) (o := o) 1 Tryz.underlying111 szInt (fun _ => rfl) k hlt
    simp only [Nat.mul_one, Nat.add_zero] at c1 i1
    have f : (k : Int) < (l.length : Int) := by omega
    have HN := Lib.hid (show endsI (l.take (k + 1)) = (if x < m then x else m, if n < x then x else n) by
      rw [take_snoc' hxk, ends_snoc (fun e => by have := congrArg List.length e; rw [List.length_take] at this; simp only [List.length_nil] at this; omega), hmn.out])
    clear hxk
    have hmw : (x < m ∧ (if x < m then x else m) = x) ∨ (decide (x < m) = false ∧ (if x < m then x else m) = m) := by
      by_cases h : x < m
      · exact .inl ⟨h, if_pos h⟩
      · exact .inr ⟨decide_eq_false h, if_neg h⟩
    have hnw : (n < x ∧ (if n < x then x else n) = x) ∨ (decide (n < x) = false ∧ (if n < x then x else n) = n) := by
      by_cases h : n < x
      · exact .inl ⟨h, if_pos h⟩
      · exact .inr ⟨decide_eq_false h, if_neg h⟩
    rcases hmw with ⟨g1, e1⟩ | ⟨g1, e1⟩
    all_goals
      rcases hnw with ⟨g2, e2⟩ | ⟨g2, e2⟩
      all_goals
        rw [e1, e2] at HN
        clear e1 e2
        go_wp2_with fail
        go_round
        case rel => exact ⟨k + 1, by omega, by omega, by go_num, _, _, rfl, rfl, HN⟩
        case measure => simp [intOf]; omega
set_option maxHeartbeats 1000000 in
theorem wholeText_any (word : Str) (v : Value) (keys : List Int) (body : Str) (w : World) (hk : IntsAt w v keys) (hw : word.length ≤ 10) (hn : keys.length ≤ 1000) (hend : (-9223372036854775808 ≤ (endsI keys).1 ∧ (endsI keys).1 ≤ 9223372036854775807) ∧ (-9223372036854775808 ≤ (endsI keys).2 ∧ (endsI keys).2 ≤ 9223372036854775807)) (hb : body.length ≤ 100000) :
    Calls Tryz.prog 185 #[S word, v, S body] w fun e w' => e = .returned (S (wholeT word keys body)) ∧ Below w.heap.size w w' := by
  have HE := Lib.hid (refEnds_any v keys w hk)
  obtain ⟨a, c, rfl, -, -⟩ := hk.form'
  have hsl := sumOf_lt body
  have HD := Lib.hid (fun m (h0 : -9223372036854775808 ≤ m) (h1 : m ≤ 9223372036854775807) W => decimalE_any m W h0 h1)
  have HSm := Lib.hid (fun W => refSum_any body W hb)
  have hW : wholeT word keys body = (((((((word ++ [32]) ++ Lib.itoa keys.length) ++ [32]) ++ Lib.itoa (endsI keys).1) ++ [32]) ++ Lib.itoa (endsI keys).2) ++ [32]) ++ Lib.itoa (sumOf body) ++ [10] ++ body := by
    unfold wholeT headT numsTail
    simp
  have HWh := Lib.hid hW
  have l0 := itoa_len keys.length (by omega) (by omega)
  have l1 := itoa_len (endsI keys).1 hend.1.1 hend.1.2
  have l2 := itoa_len (endsI keys).2 hend.2.1 hend.2.2
  have l3 := itoa_len (sumOf body) (by omega) (by omega)
  have HSl := Lib.hid hsl
  rw [hW]
  clear hW hk hsl
  generalize endsI keys = en at *
  obtain ⟨lo, hi⟩ := en
  simp only at HE HD l1 l2 hend HWh ⊢
  obtain ⟨t0, ht0⟩ : ∃ t, Lib.itoa (keys.length : Int) = t := ⟨_, rfl⟩
  obtain ⟨t1, ht1⟩ : ∃ t, Lib.itoa lo = t := ⟨_, rfl⟩
  obtain ⟨t2, ht2⟩ : ∃ t, Lib.itoa hi = t := ⟨_, rfl⟩
  obtain ⟨t3, ht3⟩ : ∃ t, Lib.itoa (sumOf body : Int) = t := ⟨_, rfl⟩
  have D0 := Lib.hid (fun W => HD.out keys.length (by omega) (by omega) W)
  have D1 := Lib.hid (fun W => HD.out lo hend.1.1 hend.1.2 W)
  have D2 := Lib.hid (fun W => HD.out hi hend.2.1 hend.2.2 W)
  have D3 := Lib.hid (fun W => HD.out (sumOf body : Int) (by omega) (by have := HSl.out; omega) W)
  rw [ht0] at D0 l0 ⊢
  rw [ht1] at D1 l1 ⊢
  rw [ht2] at D2 l2 ⊢
  rw [ht3] at D3 l3 ⊢
  clear ht0 ht1 ht2 ht3 HD HWh HSl hend
  generalize sumOf body = sm at *
  have app : ∀ (p q : Str), p.length + q.length ≤ 1000000 → ∀ W, (Op.stringOp .add ⟨p.toArray⟩ ⟨q.toArray⟩).run Tryz.prog W = .ok (.string ⟨(p ++ q).toArray⟩) W := fun p q h W => by
    have := cat_run ⟨p.toArray⟩ ⟨q.toArray⟩ p.length q.length rfl rfl h W
    rwa [S_app] at this
  have a1 := app word [32] (by simp; omega)
  have a2 := app (word ++ [32]) t0 (by simp; omega)
  have a3 := app ((word ++ [32]) ++ t0) [32] (by simp; omega)
  have a4 := app (((word ++ [32]) ++ t0) ++ [32]) t1 (by simp; omega)
  have a5 := app ((((word ++ [32]) ++ t0) ++ [32]) ++ t1) [32] (by simp; omega)
  have a6 := app (((((word ++ [32]) ++ t0) ++ [32]) ++ t1) ++ [32]) t2 (by simp; omega)
  have a7 := app ((((((word ++ [32]) ++ t0) ++ [32]) ++ t1) ++ [32]) ++ t2) [32] (by simp; omega)
  have a8 := app (((((((word ++ [32]) ++ t0) ++ [32]) ++ t1) ++ [32]) ++ t2) ++ [32]) t3 (by simp; omega)
  have a9 := app ((((((((word ++ [32]) ++ t0) ++ [32]) ++ t1) ++ [32]) ++ t2) ++ [32]) ++ t3) [10] (by simp; omega)
  have a10 := app (((((((((word ++ [32]) ++ t0) ++ [32]) ++ t1) ++ [32]) ++ t2) ++ [32]) ++ t3) ++ [10]) body (by simp; omega)
  clear app l0 l1 l2 l3
  generalize hA1 : word ++ [32] = A1 at *
  generalize hA2 : A1 ++ t0 = A2 at *
  generalize hA3 : A2 ++ [32] = A3 at *
  generalize hA4 : A3 ++ t1 = A4 at *
  generalize hA5 : A4 ++ [32] = A5 at *
  generalize hA6 : A5 ++ t2 = A6 at *
  generalize hA7 : A6 ++ [32] = A7 at *
  generalize hA8 : A7 ++ t3 = A8 at *
  generalize hA9 : A8 ++ [10] = A9 at *
  generalize hA10 : A9 ++ body = A10 at *
  clear hA1 hA2 hA3 hA4 hA5 hA6 hA7 hA8 hA9 hA10
  go_enter Tryz.func185, Tryz.ntmps185
  go_wp2_with fail
  refine HE.out.mono ?_
  rintro e w1 ⟨rfl, rfl⟩
  go_wp2_with fail
  refine (D0.out _).mono ?_
  rintro e w2 ⟨rfl, hb2⟩
  go_wp2_with fail
  refine (D1.out _).mono ?_
  rintro e w3 ⟨rfl, hb3⟩
  have hb3' := hb2.trans (hb3.mono hb2.size)
  go_wp2_with fail
  refine (D2.out _).mono ?_
  rintro e w4 ⟨rfl, hb4⟩
  have hb4' := hb3'.trans (hb4.mono hb3'.size)
  go_wp2_with fail
  refine (HSm.out _).mono ?_
  rintro e w5 ⟨rfl, rfl⟩
  go_wp2_with fail
  refine (D3.out _).mono ?_
  rintro e w6 ⟨rfl, hb6⟩
  go_wp2_with fail
  go_ret
  exact ⟨rfl, hb4'.trans (hb6.mono hb4'.size)⟩
end Go.Proofs.YtpiflhhppigdfaaGreatDoor
namespace Go.Proofs.YtpiflhhppigdfaaGreatDoor
open Go.RowKit

set_option maxHeartbeats 2000000 in
set_option maxRecDepth 20000 in
theorem goneOf_any (v : Value) (l : List Int) (w : World) (hl : IntsAt w v l) (hn : l.length ≤ 1000) :
    Calls Tryz.prog 121 #[v] w fun e w' => e = .returned (.tuple #[S (madeT l), faultOf (madeE l)]) ∧ Below w.heap.size w w' := by
  have hba : Below w.heap.size w (w.alloc (.cells #[.int .i64 0, .int .i64 0] 71)) := (Below.refl w.heap.size w).alloc (Nat.le_refl _) (.cells #[.int .i64 0, .int .i64 0] 71)
  have hG := fun W (h : Below (w.alloc (.cells #[.int .i64 0, .int .i64 0] 71)).heap.size (w.alloc (.cells #[.int .i64 0, .int .i64 0] 71)) W) => ((h.block w.heap.size (by simp)).trans (heap_alloc_new w (.cells #[.int .i64 0, .int .i64 0] 71)))
  have HG := Lib.hid hG; clear hG
  have HSz : Hid ((w.alloc (.cells #[.int .i64 0, .int .i64 0] 71)).heap.size = w.heap.size + 1) := Lib.hid (by simp)
  have HRi := Lib.hid (risingOf_any v l (w.alloc (.cells #[.int .i64 0, .int .i64 0] 71)) (hl.below ((Below.refl _ _).alloc (Nat.le_refl _) _)) (by omega))
  have hql := risOf_len l
  obtain ⟨a, c, b, o, rfl, ha, hc, hcm, hx⟩ := hl
  unfold maxLen at hcm
  have HX := Lib.hid hx
  have HM : Hid (madeE l = if 40 < (risOf l).length then .bare 8 else firstErr (farF l) l.length) := Lib.hid rfl
  have HMt : Hid (madeT l = if madeE l = .nil then goneText (risOf l) else []) := Lib.hid rfl
  have HNear : Hid (firstErr (farF l) l.length = .nil → ∀ n ∈ risOf l, ¬ farN n) := Lib.hid (fun h n hn => near_all h n (mem_risOf.1 hn))
  clear hx
  generalize risOf l = q at *
  go_enter Tryz.func121, Tryz.ntmps121
  go_wp2_with fail
  generalize w.alloc (.cells #[.int .i64 0, .int .i64 0] 71) = w0 at *
  refine HRi.out.mono ?_
  rintro e w1 ⟨u, rfl, hu, hb1⟩
  have hbw1 := hba.trans (hb1.mono hba.size)
  have HU := Lib.hid (fun W (h : Below w1.heap.size w1 W) => hu.below h)
  obtain ⟨aq, cq, bq, oq, rfl, haq, hcq, hcmq, hxq⟩ := hu
  unfold maxLen at hcmq
  have HXq := Lib.hid hxq
  clear hxq HRi
  by_cases h40 : 40 < q.length
  case pos =>
    have g : (40 : Int) < (q.length : Int) := by omega
    have hm : madeE l = .bare 8 := by rw [HM.out, if_pos h40]
    have HMe := Lib.hid hm
    have HMT : Hid (madeT l = []) := Lib.hid (by rw [HMt.out, hm]; rfl)
    clear h40 hm
    go_wp2_with fail
    refine (refBare_any 8 _).mono ?_
    rintro e wB ⟨rfl, hbB⟩
    have hb0B := (hb1).trans (hbB.mono (hb1).size)
    have hbwB := (hbw1).trans (hbB.mono (hbw1).size)
    have hg := HG.out _ (hb0B)
    have c0' : wB.cell? ⟨w.heap.size, 0, none⟩ = some (.int .i64 0) := by simp [World.cell?, hg]
    have c1' : wB.cell? ⟨w.heap.size, 1, none⟩ = some (.int .i64 0) := by simp [World.cell?, hg]
    have f0' : wB.frozen? ⟨w.heap.size, 0, none⟩ = false := by simp [World.frozen?, hg]
    have f1' : wB.frozen? ⟨w.heap.size, 1, none⟩ = false := by simp [World.frozen?, hg]
    have HGg := Lib.hid hg; clear hg
    unfold faultV
    go_wp2_with fail
    refine bodyPost_ret (fault_tc (g := w.heap.size) rfl rfl (set_two HGg.out _ _) rfl) rfl ⟨by rw [HMT.out, HMe.out]; rfl, ((hbwB).setCell (by simp) _).setCell (by simp) _⟩
  have g : decide ((40 : Int) < (q.length : Int)) = false := by simp; omega
  have HM2 : Hid (madeE l = firstErr (farF l) l.length) := Lib.hid (by rw [HM.out, if_neg h40])
  have hq40 : q.length ≤ 40 := by omega
  clear h40
  go_wp2_with fail
  go_loopw [5] (fun i wr => ∃ k : Nat, k ≤ l.length ∧ i = .int .i64 k ∧ Hid (∀ j < k, farF l j = 0) ∧ w1 = wr) (fun i _ => l.length - (intOf i).toNat)
  case atStart => exact ⟨0, by omega, rfl, Lib.hid fun j hj => absurd hj (by omega), rfl⟩
  case round =>
    obtain ⟨k, hk, rfl, hj, rfl⟩ := hrel
    by_cases hlt : k < l.length
    case pos =>
      obtain ⟨x, hxk⟩ := get_ex hlt
      have c1 := HX.out k x hxk 0 _ rfl
      have c1 := (hbw1.cell (World.block_lt_of_cell? w _ c1)).trans c1
      have i1 := idx_at (c := c) 1 Tryz.underlying111 szInt ha k hlt
      simp only [Nat.mul_one, Nat.add_zero] at c1 i1
      have f : (k : Int) < (l.length : Int) := by omega
      have hfk : farF l k = if farN x then 2 else 0 := by unfold farF; rw [hxk]
      have HFk := Lib.hid hfk
      clear hxk hfk
      by_cases hf : farN x
      case pos =>
        have hd : decide (farN x) = true := decide_eq_true hf
        have hm : madeE l = .loc 2 k := by rw [HM2.out, firstErr_hit hlt hj.out (by rw [HFk.out, if_pos hf]; decide), HFk.out, if_pos hf]
        have HMe := Lib.hid hm
        have HMT : Hid (madeT l = []) := Lib.hid (by rw [HMt.out, hm]; rfl)
        clear hm hf
        have hg := HG.out _ (hb1)
        have c0' : w1.cell? ⟨w.heap.size, 0, none⟩ = some (.int .i64 0) := by simp [World.cell?, hg]
        have c1' : w1.cell? ⟨w.heap.size, 1, none⟩ = some (.int .i64 0) := by simp [World.cell?, hg]
        have f0' : w1.frozen? ⟨w.heap.size, 0, none⟩ = false := by simp [World.frozen?, hg]
        have f1' : w1.frozen? ⟨w.heap.size, 1, none⟩ = false := by simp [World.frozen?, hg]
        have HGg := Lib.hid hg; clear hg
        go_wp2_with (first | (go_at_call 83; refine (isFar_any _ _).mono ?_; rintro e w' ⟨rfl, rfl⟩; try rw [hd]))
        refine bodyPost_ret (fault_tc (g := w.heap.size) rfl rfl (set_two HGg.out _ _) rfl) rfl ⟨by rw [HMT.out, HMe.out]; rfl, ((hbw1).setCell (by simp) _).setCell (by simp) _⟩
      have hd : decide (farN x) = false := decide_eq_false hf
      have HJ1 : Hid (∀ j < k + 1, farF l j = 0) := Lib.hid fun j hj' => (by
        rcases Nat.lt_or_ge j k with h | h
        · exact hj.out j h
        · obtain rfl : j = k := by omega
          rw [HFk.out, if_neg hf])
      clear hf
      go_wp2_with (first | (go_at_call 83; refine (isFar_any _ _).mono ?_; rintro e w' ⟨rfl, rfl⟩; try rw [hd]))
      go_roundw
      case rel => exact ⟨k + 1, by omega, by go_num, HJ1, by first | rfl | trivial⟩
      case measure => simp [intOf]; omega
    obtain rfl : k = l.length := by omega
    have f : decide ((l.length : Int) < (l.length : Int)) = false := by simp
    have hfe : firstErr (farF l) l.length = .nil := firstErr_all hj.out
    have hm : madeE l = .nil := HM2.out.trans hfe
    have HMe := Lib.hid hm
    have HMT : Hid (madeT l = wholeT kGone q (bodyT (q.map Lib.itoa))) := Lib.hid (by rw [HMt.out, if_pos hm]; rfl)
    have HNr := Lib.hid (HNear.out hfe)
    clear hm hfe hlt
    have hlen : ∀ k, (bodyT ((q.take k).map Lib.itoa)).length ≤ 880 := fun k => by
      have hbl := body_len (m := 21) (ls := (q.take k).map Lib.itoa) fun s hs => by
        obtain ⟨n, hn', rfl⟩ := List.mem_map.1 hs
        have := near (HNr.out n (List.mem_of_mem_take hn'))
        exact itoa_len n (by omega) (by omega)
      rw [List.length_map, List.length_take] at hbl
      omega
    have HLen := Lib.hid hlen
    clear hlen
    go_wp2_with fail
    go_loopw [7, 8] (fun u i wr => ∃ k : Nat, k ≤ q.length ∧ i = .int .i64 k ∧ u = S (bodyT ((q.take k).map Lib.itoa)) ∧ Below w1.heap.size w1 wr) (fun _ i _ => q.length - (intOf i).toNat)
    case atStart => exact ⟨0, by omega, rfl, rfl, Below.refl _ _⟩
    case round =>
      obtain ⟨k, hk, rfl, rfl, hb⟩ := hrel
      obtain ⟨wo, rfl⟩ : ∃ wo, wo = wr := ⟨wr, rfl⟩
      have hb0o := hb1.trans (hb.mono hb1.size)
      have hbwo := hbw1.trans (hb.mono hbw1.size)
      by_cases hlt : k < q.length
      case neg =>
        obtain rfl : k = q.length := by omega
        have f : decide ((q.length : Int) < (q.length : Int)) = false := by simp
        have hl880 := HLen.out q.length
        rw [List.take_length] at hl880 ⊢
        obtain ⟨e1, e2⟩ := ends_within (B := 1073741824) (by omega) fun x hx => near (HNr.out x hx)
        have HWt := Lib.hid (wholeText_any kGone _ q (bodyT (q.map Lib.itoa)) wo (HU.out _ hb) (by decide) (by omega) (by omega) (by omega))
        clear e1 e2
        generalize bodyT (q.map Lib.itoa) = bd at *
        go_wp2_with fail
        refine HWt.out.mono ?_
        rintro e w4 ⟨rfl, hb4⟩
        have hb04 := hb0o.trans (hb4.mono hb0o.size)
        have hbw4 := hbwo.trans (hb4.mono hbwo.size)
        go_wp2_with fail
        refine (refFine_any _).mono ?_
        rintro e wB ⟨rfl, hbB⟩
        have hb0B := (hb04).trans (hbB.mono (hb04).size)
        have hbwB := (hbw4).trans (hbB.mono (hbw4).size)
        have hg := HG.out _ (hb0B)
        have c0' : wB.cell? ⟨w.heap.size, 0, none⟩ = some (.int .i64 0) := by simp [World.cell?, hg]
        have c1' : wB.cell? ⟨w.heap.size, 1, none⟩ = some (.int .i64 0) := by simp [World.cell?, hg]
        have f0' : wB.frozen? ⟨w.heap.size, 0, none⟩ = false := by simp [World.frozen?, hg]
        have f1' : wB.frozen? ⟨w.heap.size, 1, none⟩ = false := by simp [World.frozen?, hg]
        have HGg := Lib.hid hg; clear hg
        unfold faultV
        go_wp2_with fail
        refine bodyPost_ret (fault_tc (g := w.heap.size) rfl rfl (set_two HGg.out _ _) rfl) rfl ⟨by rw [HMT.out, HMe.out]; rfl, ((hbwB).setCell (by simp) _).setCell (by simp) _⟩
      obtain ⟨x, hxk⟩ := get_ex hlt
      have c1 := HXq.out k x hxk 0 _ rfl
      have c1 := (hb.cell (World.block_lt_of_cell? w1 _ c1)).trans c1
      have i1 := idx_at (c := cq) 1 Tryz.underlying111 szInt haq k hlt
      have f : (k : Int) < (q.length : Int) := by omega
      simp only [Nat.mul_one, Nat.add_zero] at c1 i1
      have hnx := near (HNr.out x (List.mem_of_getElem? hxk))
      have HD := Lib.hid (decimalE_any x wo (by omega) (by omega))
      have htl := itoa_len x (by omega) (by omega)
      have hbl := HLen.out k
      have HSn : Hid (bodyT ((q.take (k + 1)).map Lib.itoa) = (bodyT ((q.take k).map Lib.itoa) ++ Lib.itoa x) ++ [10]) := Lib.hid (by
        rw [take_snoc' hxk, List.map_append, List.map_cons, List.map_nil, bodyT_snoc]; simp)
      clear hxk hnx
      generalize Lib.itoa x = tx at *
      generalize bodyT ((q.take k).map Lib.itoa) = bd at *
      have app : ∀ (p q : Str), p.length + q.length ≤ 1000000 → ∀ W, (Op.stringOp .add ⟨p.toArray⟩ ⟨q.toArray⟩).run Tryz.prog W = .ok (.string ⟨(p ++ q).toArray⟩) W := fun p q h W => by
        have := cat_run ⟨p.toArray⟩ ⟨q.toArray⟩ p.length q.length rfl rfl h W
        rwa [S_app] at this
      have a1 := app bd tx (by omega)
      have a2 := app (bd ++ tx) [10] (by simp; omega)
      clear app
      generalize hA1 : bd ++ tx = A1 at *
      generalize hA2 : A1 ++ [10] = A2 at *
      clear hA1 hA2
      go_wp2_with fail
      refine HD.out.mono ?_
      rintro e w3 ⟨rfl, hb3⟩
      go_wp2_with fail
      go_roundw
      case rel => exact ⟨k + 1, by omega, by go_num, by rw [HSn.out], hb.trans (hb3.mono hb.size)⟩
      case measure => simp [intOf]; omega
/-- What a head's check answers. -/
def headEr (n keys : List Int) : Er := if 40 < keys.length then .bare 8 else if fitsI n keys then .nil else .bare 3
theorem fault_c {fn : Func} {p : Tmp} (h : fn.results = #[.cell p 71]) {tmps : Array Value} {w : World} {g : Nat} {c q : Int} (hp : tmps.getD p undef = .pointer (some ⟨g, 0, none⟩)) (hg : w.heap[g]? = some (.cells #[.int .i64 c, .int .i64 q] 71 (0, 0))) :
    (results fn tmps).run Tryz.prog w = .ok (faultV c q) w :=
  results_cell_row h _ _ g 71 #[.int .i64 c, .int .i64 q] (0, 0) _ hp hg Tryz.underlying71 rfl (by kernel_rfl)
set_option maxHeartbeats 2000000 in
set_option maxRecDepth 20000 in
theorem headFault_any (v : Value) (n0 n1 n2 n3 : Int) (u : Value) (keys : List Int) (w : World) (hl : IntsAt w v [n0, n1, n2, n3]) (hk : IntsAt w u keys) :
    Calls Tryz.prog 169 #[v, u] w fun e w' => e = .returned (faultOf (headEr [n0, n1, n2, n3] keys)) ∧ Below w.heap.size w w' := by
  have hba : Below w.heap.size w (w.alloc (.cells #[.int .i64 0, .int .i64 0] 71)) := (Below.refl w.heap.size w).alloc (Nat.le_refl _) (.cells #[.int .i64 0, .int .i64 0] 71)
  have hG := fun W (h : Below (w.alloc (.cells #[.int .i64 0, .int .i64 0] 71)).heap.size (w.alloc (.cells #[.int .i64 0, .int .i64 0] 71)) W) => ((h.block w.heap.size (by simp)).trans (heap_alloc_new w (.cells #[.int .i64 0, .int .i64 0] 71)))
  have HG := Lib.hid hG; clear hG
  have HSz : Hid ((w.alloc (.cells #[.int .i64 0, .int .i64 0] 71)).heap.size = w.heap.size + 1) := Lib.hid (by simp)
  have HEn := Lib.hid (fun W (h : Below w.heap.size w W) => refEnds_any u keys W (hk.below h))
  obtain ⟨a, c, rfl, -, -⟩ := hk.form'
  obtain ⟨a4, c4, b4, o4, hv4, ha4, hc4, hcm4, hx4⟩ := hl
  subst hv4
  obtain rfl := ha4 (by simp)
  have z0 := hx4 0 _ rfl 0 _ rfl
  have z1 := hx4 1 _ rfl 0 _ rfl
  have z2 := hx4 2 _ rfl 0 _ rfl
  simp only [Nat.mul_one, Nat.add_zero] at z0 z1 z2
  have Z := Lib.hid (fun W (h : Below w.heap.size w W) => (⟨(h.cell (World.block_lt_of_cell? w _ z0)).trans z0, (h.cell (World.block_lt_of_cell? w _ z1)).trans z1, (h.cell (World.block_lt_of_cell? w _ z2)).trans z2⟩ : _ ∧ _ ∧ _))
  have hl4 : [n0, n1, n2, n3].length = 4 := rfl
  rw [hl4]
  have hf : fitsI [n0, n1, n2, n3] keys ↔ n0 = keys.length ∧ n1 = (endsI keys).1 ∧ n2 = (endsI keys).2 := Iff.rfl
  have HF := Lib.hid hf
  have HH : Hid (headEr [n0, n1, n2, n3] keys = if 40 < keys.length then .bare 8 else if fitsI [n0, n1, n2, n3] keys then .nil else .bare 3) := Lib.hid rfl
  clear hx4 ha4 hc4 hcm4 hl4 hf hk z0 z1 z2
  generalize endsI keys = en at *
  obtain ⟨lo, hi⟩ := en
  simp only at HEn HF
  by_cases h40 : 40 < keys.length
  case pos =>
    have g : (40 : Int) < (keys.length : Int) := by omega
    have HHe : Hid (headEr [n0, n1, n2, n3] keys = .bare 8) := Lib.hid (by rw [HH.out, if_pos h40])
    clear h40
    go_enter Tryz.func169, Tryz.ntmps169
    go_wp2_with fail
    generalize w.alloc (.cells #[.int .i64 0, .int .i64 0] 71) = w0 at *
    have hb0r : Below w0.heap.size w0 w0 := Below.refl _ _
    refine (refBare_any 8 _).mono ?_
    rintro e wB ⟨rfl, hbB⟩
    have hb0B := (hb0r).trans (hbB.mono (hb0r).size)
    have hbwB := (hba).trans (hbB.mono (hba).size)
    have hg := HG.out _ (hb0B)
    have c0' : wB.cell? ⟨w.heap.size, 0, none⟩ = some (.int .i64 0) := by simp [World.cell?, hg]
    have c1' : wB.cell? ⟨w.heap.size, 1, none⟩ = some (.int .i64 0) := by simp [World.cell?, hg]
    have f0' : wB.frozen? ⟨w.heap.size, 0, none⟩ = false := by simp [World.frozen?, hg]
    have f1' : wB.frozen? ⟨w.heap.size, 1, none⟩ = false := by simp [World.frozen?, hg]
    have HGg := Lib.hid hg; clear hg
    unfold faultV
    go_wp2_with fail
    refine bodyPost_ret (fault_c (g := w.heap.size) rfl rfl (set_two HGg.out _ _)) rfl ⟨by rw [HHe.out]; rfl, ((hbwB).setCell (by simp) _).setCell (by simp) _⟩
  have g : decide ((40 : Int) < (keys.length : Int)) = false := by simp; omega
  have hway : (fitsI [n0, n1, n2, n3] keys ∧ (n0 != (keys.length : Int)) = false ∧ (n1 != lo) = false ∧ (n2 != hi) = false) ∨ (¬ fitsI [n0, n1, n2, n3] keys ∧ ((n0 != (keys.length : Int)) = true ∨ ((n0 != (keys.length : Int)) = false ∧ ((n1 != lo) = true ∨ ((n1 != lo) = false ∧ (n2 != hi) = true))))) := by
    by_cases h1 : n0 = (keys.length : Int)
    · by_cases h2 : n1 = lo
      · by_cases h3 : n2 = hi
        · exact .inl ⟨HF.out.2 ⟨h1, h2, h3⟩, by simpa using h1, by simpa using h2, by simpa using h3⟩
        · exact .inr ⟨fun h => h3 (HF.out.1 h).2.2, .inr ⟨by simpa using h1, .inr ⟨by simpa using h2, by simpa using h3⟩⟩⟩
      · exact .inr ⟨fun h => h2 (HF.out.1 h).2.1, .inr ⟨by simpa using h1, .inl (by simpa using h2)⟩⟩
    · exact .inr ⟨fun h => h1 (HF.out.1 h).1, .inl (by simpa using h1)⟩
  rcases hway with ⟨hf, g1, g2, g3⟩ | ⟨hf, hw⟩
  case inl =>
    have HHe : Hid (headEr [n0, n1, n2, n3] keys = .nil) := Lib.hid (by rw [HH.out, if_neg h40, if_pos hf])
    clear hf h40
    go_enter Tryz.func169, Tryz.ntmps169
    go_wp2_with fail
    generalize w.alloc (.cells #[.int .i64 0, .int .i64 0] 71) = w0 at *
    have hb0r : Below w0.heap.size w0 w0 := Below.refl _ _
    refine (HEn.out _ hba).mono ?_
    rintro e w1 ⟨rfl, rfl⟩
    obtain ⟨z0, z1, z2⟩ := Z.out _ hba
    go_wp2_with fail
    refine (refFine_any _).mono ?_
    rintro e wB ⟨rfl, hbB⟩
    have hb0B := (hb0r).trans (hbB.mono (hb0r).size)
    have hbwB := (hba).trans (hbB.mono (hba).size)
    have hg := HG.out _ (hb0B)
    have c0' : wB.cell? ⟨w.heap.size, 0, none⟩ = some (.int .i64 0) := by simp [World.cell?, hg]
    have c1' : wB.cell? ⟨w.heap.size, 1, none⟩ = some (.int .i64 0) := by simp [World.cell?, hg]
    have f0' : wB.frozen? ⟨w.heap.size, 0, none⟩ = false := by simp [World.frozen?, hg]
    have f1' : wB.frozen? ⟨w.heap.size, 1, none⟩ = false := by simp [World.frozen?, hg]
    have HGg := Lib.hid hg; clear hg
    unfold faultV
    go_wp2_with fail
    refine bodyPost_ret (fault_c (g := w.heap.size) rfl rfl (set_two HGg.out _ _)) rfl ⟨by rw [HHe.out]; rfl, ((hbwB).setCell (by simp) _).setCell (by simp) _⟩
  have HHe : Hid (headEr [n0, n1, n2, n3] keys = .bare 3) := Lib.hid (by rw [HH.out, if_neg h40, if_neg hf])
  clear hf h40
  rcases hw with g1 | ⟨g1, g2 | ⟨g2, g3⟩⟩
  all_goals
    go_enter Tryz.func169, Tryz.ntmps169
    go_wp2_with fail
    generalize w.alloc (.cells #[.int .i64 0, .int .i64 0] 71) = w0 at *
    have hb0r : Below w0.heap.size w0 w0 := Below.refl _ _
    refine (HEn.out _ hba).mono ?_
    rintro e w1 ⟨rfl, rfl⟩
    obtain ⟨z0, z1, z2⟩ := Z.out _ hba
    go_wp2_with fail
    refine (refBare_any 3 _).mono ?_
    rintro e wB ⟨rfl, hbB⟩
    have hb0B := (hb0r).trans (hbB.mono (hb0r).size)
    have hbwB := (hba).trans (hbB.mono (hba).size)
    have hg := HG.out _ (hb0B)
    have c0' : wB.cell? ⟨w.heap.size, 0, none⟩ = some (.int .i64 0) := by simp [World.cell?, hg]
    have c1' : wB.cell? ⟨w.heap.size, 1, none⟩ = some (.int .i64 0) := by simp [World.cell?, hg]
    have f0' : wB.frozen? ⟨w.heap.size, 0, none⟩ = false := by simp [World.frozen?, hg]
    have f1' : wB.frozen? ⟨w.heap.size, 1, none⟩ = false := by simp [World.frozen?, hg]
    have HGg := Lib.hid hg; clear hg
    unfold faultV
    go_wp2_with fail
    refine bodyPost_ret (fault_c (g := w.heap.size) rfl rfl (set_two HGg.out _ _)) rfl ⟨by rw [HHe.out]; rfl, ((hbwB).setCell (by simp) _).setCell (by simp) _⟩
end Go.Proofs.YtpiflhhppigdfaaGreatDoor
