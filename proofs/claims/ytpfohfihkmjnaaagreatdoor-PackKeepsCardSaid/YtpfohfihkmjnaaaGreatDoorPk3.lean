/- deedboxref1: NumberOf, NumbersOf: the walks. store: bytes of all objects: a range over maps.Values. store: Drop, New. store.name: is a text an object's name?. store: Put. The model of a store: isObject, Put. -/
import Derived.Test.YtpfohfihkmjnaaaGreatDoorPk2
import Derived.Deep.DeepCutAuto
import Derived.Test.YtpfohfihkmjnaaaGreatDoorPk1
import Derived.Sort.MapsRangeIn
import Derived.RangeFuncNested
import Derived.RangeFuncMany
import Derived.RangeFuncLeaves
import Derived.Shelf.Abstract
import Derived.WalkKit
import Derived.OwnWalkIn
import Derived.TacticsInMore
import Derived.RegionIn
import Derived.LoopNIn
import Derived.LoopIn
import Derived.Shelf.Strings.SlTrimAscii
namespace Go.Proofs.YtpfohfihkmjnaaaGreatDoor
open Go.RowKit
theorem bget (l : List UInt8) (i : Nat) (h : i < (ByteArray.mk l.toArray).size) : (ByteArray.mk l.toArray)[i] = l[i]'(by simpa [ByteArray.size] using h) := rfl
attribute [local go_sem] bget
theorem num_none {s : Str} (h : numRef s = none) : Ending.returned (.tuple #[.int .i64 0, .bool false]) = Ending.returned (.tuple #[.int .i64 ((numRef s).getD 0), .bool (numRef s).isSome]) := by rw [h]; rfl
theorem num_some {s : Str} {n : Int} (h : numRef s = some n) : Ending.returned (.tuple #[.int .i64 n, .bool true]) = Ending.returned (.tuple #[.int .i64 ((numRef s).getD 0), .bool (numRef s).isSome]) := by rw [h]; rfl
theorem digOf_len (s : Str) : (digOf s).length ≤ s.length ∧ s.length ≤ (digOf s).length + 1 := by
  unfold digOf; split
  · simp; omega
  · omega
theorem digitVal_bad {x : UInt8} (h : (x.toNat : Int) < 48 ∨ 57 < (x.toNat : Int)) : Lib.digitVal x = none := by
  unfold Lib.digitVal; rw [if_neg (by omega)]
theorem digitVal_ok {x : UInt8} (h : 48 ≤ (x.toNat : Int)) (h2 : (x.toNat : Int) ≤ 57) : Lib.digitVal x = some (x.toNat - 48) := by
  unfold Lib.digitVal; rw [if_pos (by omega)]
theorem decFrom_bad {x : UInt8} : ∀ {l : Str} {k acc : Nat}, l[k]? = some x → Lib.digitVal x = none → Lib.decFrom acc l = none
  | [], k, acc, h, _ => by simp at h
  | c :: r, 0, acc, h, hd => by
    obtain rfl : c = x := by simpa using h
    simp [Lib.decFrom, hd]
  | c :: r, k + 1, acc, h, hd => by
    unfold Lib.decFrom
    split
    · exact decFrom_bad (k := k) (by simpa using h) hd
    · rfl
theorem decFrom_snoc {x : UInt8} {l : Str} {k u v : Nat} (h : l[k]? = some x) (hu : Lib.decFrom 0 (l.take k) = some u) (hv : Lib.digitVal x = some v) : Lib.decFrom 0 (l.take (k + 1)) = some (u * 10 + v) :=
  Lib.decFrom_take l k 0 u x v hu h hv
theorem head0 {s : Str} (h : 0 < s.length) : s.head? = some s[0] := by
  cases s with
  | nil => simp at h
  | cons c r => rfl
theorem extract_from (s : Str) (k : Nat) : (ByteArray.mk s.toArray).extract k s.length = ByteArray.mk (s.drop k).toArray := by
  rw [ByteArray.extract_mk, List.take_of_length_le (by simp)]
set_option maxRecDepth 20000 in
theorem numberOf_any (s : Str) (w : World) (hs : s.length ≤ 100000) :
    Calls Tryz.prog 119 #[S s] w fun e w' => e = .returned (.tuple #[.int .i64 ((numRef s).getD 0), .bool (numRef s).isSome]) ∧ w = w' := by
  have hdl := digOf_len s
  go_enter Tryz.func119, Tryz.ntmps119
  go_upto_if 10 with (fail)
  go_cut [4] (fun d wx => d = S (digOf s) ∧ w = wx)
  case first =>
    by_cases hn : s.length = 0
    · obtain rfl := List.eq_nil_of_length_eq_zero hn
      clear hdl
      go_wp2_with fail
      go_meet
      exact ⟨rfl, rfl⟩
    have hp : 1 ≤ (s.length : Int) := by omega
    have hp0 : 0 < s.length := by omega
    by_cases h45 : s[0] = 45
    · have g45 : ((s[0].toNat : Int) == 45) = true := by rw [h45]; rfl
      have hd : digOf s = s.drop 1 := by unfold digOf; rw [if_pos (by rw [head0 hp0, h45]), List.drop_one]
      have Hd := Lib.hid hd
      clear hn hd hdl h45
      go_wp2_with fail
      go_meet
      exact ⟨by rw [Hd.out, extract_from], rfl⟩
    · have g45 : ((s[0].toNat : Int) == 45) = false := by
        simp; intro h; apply h45; apply UInt8.toNat_inj.1; exact Int.ofNat.inj h
      have hd : digOf s = s := if_neg (by rw [head0 hp0]; simpa using h45)
      have Hd := Lib.hid hd
      clear hn hd hdl h45
      go_wp2_with fail
      go_meet
      exact ⟨by rw [Hd.out], rfl⟩
  case rest =>
    obtain ⟨rfl, rfl⟩ := hcut
    have hspec : numRef s = if (digOf s).length < 1 ∨ 11 < s.length then none
      else if (digOf s).head? = some 48 ∧ 1 < s.length then none
      else (Lib.decFrom 0 (digOf s)).map fun (u : Nat) => if (digOf s).length < s.length then -(u : Int) else (u : Int) := rfl
    generalize hdd : digOf s = d at hspec hdl ⊢
    clear hdd
    have Hs := Lib.hid hspec; clear hspec
    by_cases h1 : d.length < 1
    · have hr : numRef s = none := by rw [Hs.out, if_pos (.inl h1)]
      have g1 : (d.length : Int) < 1 := by omega
      have Hr := Lib.hid hr; clear hr
      go_wp2_with fail
      go_ret2
      exact ⟨num_none Hr.out, rfl⟩
    by_cases h2 : 11 < s.length
    · have hr : numRef s = none := by rw [Hs.out, if_pos (.inr h2)]
      have g1 : decide ((d.length : Int) < 1) = false := by simp; omega
      have g2 : (11 : Int) < s.length := by omega
      have Hr := Lib.hid hr; clear hr
      go_wp2_with fail
      go_ret2
      exact ⟨num_none Hr.out, rfl⟩
    have hp : 1 ≤ (d.length : Int) := by omega
    have hp0 : 0 < d.length := by omega
    have g1 : decide ((d.length : Int) < 1) = false := by simp; omega
    have g2 : decide ((11 : Int) < s.length) = false := by simp; omega
    by_cases h3 : d[0] = 48 ∧ 1 < s.length
    · have hr : numRef s = none := by rw [Hs.out, if_neg (by omega), if_pos ⟨by rw [head0 hp0, h3.1], h3.2⟩]
      have g3 : ((d[0].toNat : Int) == 48) = true := by rw [h3.1]; rfl
      have g4 : (1 : Int) < s.length := by omega
      have Hr := Lib.hid hr; clear hr h3
      go_wp2_with fail
      go_ret2
      exact ⟨num_none Hr.out, rfl⟩
    have hB : s.length ≤ 11 := by omega
    have hB2 : (d.length : Int) ≤ 11 := by omega
    have hr : numRef s = (Lib.decFrom 0 d).map fun (u : Nat) => if d.length < s.length then -(u : Int) else (u : Int) := by
      rw [Hs.out, if_neg (by omega), if_neg (by rw [head0 hp0]; simpa using h3)]
    have Hr := Lib.hid hr; clear hr Hs
    have g3 : ((d[0].toNat : Int) == 48) = false ∨ ((d[0].toNat : Int) == 48) = true ∧ decide ((1 : Int) < s.length) = false := by
      by_cases e : d[0] = 48
      · exact .inr ⟨by rw [e]; rfl, by simp; have : ¬ 1 < s.length := fun h => h3 ⟨e, h⟩
                                       omega⟩
      · refine .inl ?_
        simp; intro h; apply e; apply UInt8.toNat_inj.1; exact Int.ofNat.inj h
    clear h3 h1 h2
    rcases g3 with g3 | ⟨g3, g4⟩
    all_goals
      go_wp2_with fail
      go_loop [5, 6] (fun n i => ∃ k u : Nat, k ≤ d.length ∧ i = .int .i64 k ∧ n = .int .i64 u ∧ Hid (Lib.decFrom 0 (d.take k) = some u) ∧ (u : Int) ≤ 99999999999) (fun _ i => d.length - (intOf i).toNat)
      case atStart => exact ⟨0, 0, by omega, rfl, rfl, rfl, by omega⟩
      case round =>
        obtain ⟨k, u, hk, rfl, rfl, hu, hub⟩ := hrel
        by_cases hkd : k < d.length
        · have hx : d[k]? = some d[k] := by simp [hkd]
          have hk1 : (k : Int) < d.length := by omega
          have h255 : (d[k].toNat : Int) ≤ 255 := by have := d[k].toNat_lt; omega
          by_cases ha : (d[k].toNat : Int) < 48
          · have hn : numRef s = none := by rw [Hr.out, decFrom_bad hx (digitVal_bad (.inl ha))]; rfl
            have Hn := Lib.hid hn; clear hn hx
            go_wp2_with fail
            go_ret2
            exact ⟨num_none Hn.out, rfl⟩
          by_cases hb : 57 < (d[k].toNat : Int)
          · have hn : numRef s = none := by rw [Hr.out, decFrom_bad hx (digitVal_bad (.inr hb))]; rfl
            have ha' : decide ((d[k].toNat : Int) < 48) = false := by simpa using ha
            have Hn := Lib.hid hn; clear hn hx ha
            go_wp2_with fail
            go_ret2
            exact ⟨num_none Hn.out, rfl⟩
          have ha0 : 48 ≤ (d[k].toNat : Int) := by omega
          have hb0 : (d[k].toNat : Int) ≤ 57 := by omega
          have ha' : decide ((d[k].toNat : Int) < 48) = false := by simpa using ha
          have hb' : decide (57 < (d[k].toNat : Int)) = false := by simpa using hb
          have hsn := decFrom_snoc hx hu.out (digitVal_ok ha0 hb0)
          have hlt := decFrom_lt _ _ _ hsn
          have hlt2 : u * 10 + (d[k].toNat - 48) ≤ 99999999999 := by
            have h1 : (d.take (k + 1)).length ≤ 11 := by rw [List.length_take]; omega
            have h2 : 10 ^ (d.take (k + 1)).length ≤ 10 ^ 11 := Nat.pow_le_pow_right (by decide) h1
            have h3 : (10 : Nat) ^ 11 = 100000000000 := by decide
            omega
          have Hsn := Lib.hid hsn
          clear hlt hsn hx ha hb
          go_wp2_with fail
          go_round
          case rel => exact ⟨k + 1, u * 10 + (d[k].toNat - 48), by omega, by go_num, by go_num, Hsn.out, by omega⟩
          case measure => simp [intOf]; omega
        · obtain rfl : k = d.length := by omega
          have hu' : Lib.decFrom 0 d = some u := by have := hu.out; rwa [List.take_length] at this
          by_cases hlt' : d.length < s.length
          · have hn : numRef s = some (-(u : Int)) := by rw [Hr.out, hu', Option.map_some, if_pos hlt']
            have hl' : (d.length : Int) < s.length := by omega
            have Hn := Lib.hid hn; clear hn hu' hu
            go_wp2_with fail
            go_ret2
            exact ⟨num_some Hn.out, rfl⟩
          · have hn : numRef s = some (u : Int) := by rw [Hr.out, hu', Option.map_some, if_neg hlt']
            have hl' : (s.length : Int) ≤ d.length := by omega
            have Hn := Lib.hid hn; clear hn hu' hu
            go_wp2_with fail
            go_ret2
            exact ⟨num_some Hn.out, rfl⟩
theorem numbersOf_any (v : Value) (l : List Str) (w : World) (hl : StrsAt w v l) (hn : l.length ≤ 100000) (hs : ∀ s ∈ l, s.length ≤ 100000) :
    Calls Tryz.prog 159 #[v] w fun e w' => ∃ v', e = .returned (.tuple #[v', .bool (numsOf l).isSome]) ∧ (∀ ns, numsOf l = some ns → Own encI 3 1 w.heap.size w' v' ns) ∧ (numsOf l = none → v' = .slice none 0 0) ∧ Below w.heap.size w w' := by
  obtain ⟨a, c, b, o, rfl, ha, hc, hcm, hx⟩ := hl
  unfold maxLen at hcm
  go_enter Tryz.func159, Tryz.ntmps159
  go_wp2_with fail
  go_loopw [2, 3, 4, 5] (fun r1 r2 out i wr => r1 = .slice none 0 0 ∧ r2 = .bool false ∧ ∃ (k : Nat) (ns : List Int), k ≤ l.length ∧ i = .int .i64 k ∧ Hid ((l.take k).mapM numOf = some ns) ∧ Own encI 3 1 w.heap.size wr out ns ∧ Below w.heap.size w wr) (fun _ _ _ i _ => l.length - (intOf i).toNat)
  case atStart => exact ⟨rfl, rfl, 0, [], by omega, rfl, rfl, Own.nil _ _ _ _ _, Below.refl _ _⟩
  case round =>
    obtain ⟨rfl, rfl, k, ns, hk, rfl, hm, ho, hb⟩ := hrel
    by_cases hlt : k < l.length
    · obtain ⟨x, hxk⟩ := get_ex hlt
      have c1 := hx k x hxk 0 _ rfl
      have c1 := (hb.cell (World.block_lt_of_cell? w _ c1)).trans c1
      have i1 := idx_at (c := c) 1 Tryz.underlying39 szStr ha k hlt
      have hk1 : (k : Int) < (l.length : Int) := by omega
      simp only [Nat.mul_one, Nat.add_zero] at c1 i1
      have hxs : x.length ≤ 100000 := hs x (List.mem_of_getElem? hxk)
      have hsn := take_snoc' hxk
      have hlen : ns.length = k := by have := mapM_len _ hm.out; simp at this; omega
      have Hx := Lib.hid hsn; clear hsn hxk
      have Hlen := Lib.hid hlen; clear hlen
      cases hx0 : numOf x with
      | none =>
        have hN : numsOf l = none := by
          refine mapM_take_none _ _ (k + 1) ?_
          rw [Hx.out, mapM_snoc, hm.out]; simp [hx0]
        have h2 : (numRef x).isSome = false := by rw [numRef_eq, hx0]; rfl
        have HN := Lib.hid hN; clear hN
        have H0 := Lib.hid hx0; clear hx0
        go_wp2_with fail
        refine (numberOf_any x _ hxs).mono ?_
        rintro e w1 ⟨rfl, rfl⟩
        go_wp2_with fail
        go_ret2
        exact ⟨_, by rw [HN.out]; rfl, (fun ns h => by rw [HN.out] at h; cases h), (fun _ => rfl), hb⟩
      | some n =>
        have h2 : (numRef x).isSome = true := by rw [numRef_eq, hx0]; rfl
        have h3 : (numRef x).getD 0 = n := by rw [numRef_eq, hx0]; rfl
        have hm2 : (l.take (k + 1)).mapM numOf = some (ns ++ [n]) := by rw [Hx.out, mapM_snoc, hm.out]; simp [hx0]
        have HM := Lib.hid hm2; clear hm2
        have H0 := Lib.hid hx0; clear hx0
        have H3 := Lib.hid h3; clear h3
        go_wp2_with fail
        refine (numberOf_any x _ hxs).mono ?_
        rintro e w1 ⟨rfl, rfl⟩
        rw [H3.out]
        have ho1 := ho
        have hb2 := hb
        go_wp2_with (at_builtin; refine wpList_app rfl _ _ _ rfl w.heap.size elInt _ ns.length _ rfl (ho1.alloc _) (.slice (some ⟨wr.heap.size, 0, none⟩) 1 1) 1 (encI n) rfl (src_one rfl rfl (by simp [Value.oneCell'])) (by rw [Hlen.out]; unfold maxLen; omega) (by rw [Hlen.out]; omega) (by have := hb2.size; simp; omega) ?_; intro v' w2 hown hg _)
        go_roundw
        case rel => exact ⟨rfl, rfl, k + 1, ns ++ [n], by omega, by go_num, HM.out, Own.snoc hown, Bapp (hb2.alloc hb2.size _) (ho1.alloc _) hg (Nat.le_refl _) (by have := hb2.size; simp; omega)⟩
        case measure => simp [intOf]; omega
    · obtain rfl : k = l.length := by omega
      have hN : numsOf l = some ns := by have := hm.out; rwa [List.take_length] at this
      have HN := Lib.hid hN; clear hN
      go_wp2_with fail
      go_ret2
      exact ⟨_, by rw [HN.out]; rfl, (fun ms h => by rw [HN.out] at h; cases h; exact ho), (fun h => by rw [HN.out] at h; cases h), hb⟩
end Go.Proofs.YtpfohfihkmjnaaaGreatDoor
namespace Go.Proofs.YtpfohfihkmjnaaaGreatDoor
open Go.RowKit Go.Maps Go.Sort Go.Shelf
attribute [local go_sem] Oper.semAt_some
abbrev obVal (o : Ob) : Value := .agg #[S o.text, .int .i64 o.day]
theorem perm_of_names {l ps : List Ob} (hl : Rising l) (hp : (ps.map (·.name)).Perm (l.map (·.name))) (hv : ∀ p ∈ ps, getO l p.name = some p) : ps.Perm l := by
  have h1 : ∀ q : List Ob, (∀ p ∈ q, getO l p.name = some p) → (q.map (·.name)).filterMap (getO l) = q := by
    intro q
    induction q with
    | nil => intro _; rfl
    | cons a r ih => intro h; simp [h a (by simp), ih fun p hp => h p (by simp [hp])]
  have h2 := hp.filterMap (getO l)
  rwa [h1 ps hv, h1 l fun p hp => getO_of_mem hl hp] at h2
theorem values_in (F : Fence) (n : Nat) (hf : F.fn 124) (hro : F.round = none) (m : Option Nat) (w : World) :
    CallsIn F n Tryz.prog 124 #[.map m] w fun e w' => e = .returned (.func (.func 167) #[] #[.pointer (some ⟨w.heap.size, 0, none⟩)]) ∧ w' = w.alloc (.cells #[.map m] 126) := by
  refine callsIn_of_wp Tryz.func124 rfl hf ?_ hro
  simp only [Tryz.ntmps124, List.size_toArray, List.length_cons, List.length_nil, Nat.reduceAdd, Nat.reduceSub, Array.replicate_succ, Array.replicate_zero, List.push_toArray, List.append_toArray, List.nil_append, List.cons_append]
  gi_wp2
  go_ret
  exact ⟨rfl, rfl⟩
theorem objElem_inv2 {v : Value} {y : DataW Unit × List MemPlace} (h : objElem v = some y) : ∃ c : Str × Int, v = .agg #[S c.1, .int .i64 c.2] ∧ y = (obT c.1 c.2, []) := by
  unfold objElem at h
  split at h
  · rename_i cs
    split at h
    · rename_i s d' hcs
      split at h
      · refine ⟨(s.data.toList, d'), ?_, (Option.some.inj h).symm⟩
        have : cs = #[.string s, .int .i64 d'] := by rw [← hcs]
        rw [this]
      · cases h
    · cases h
  · cases h
theorem got_of_at {os : List Ob} {x t : Str} {d : Int} (h : ∀ zd, (mapD os).atKey (.string x) zd = obT t d) : getO os x = some ⟨x, t, d⟩ := by
  cases hg : getO os x with
  | none =>
    have h1 := h (.lit (.bool true))
    rw [at_mapD, hg] at h1
    cases h1
  | some o =>
    have h1 := h (.lit (.bool true))
    rw [at_mapD, hg] at h1
    obtain ⟨_, hn⟩ := getO_mem hg
    obtain ⟨n, t', d'⟩ := o
    simp only [Option.map_some, Option.getD_some, obT, DataW.agg.injEq, List.cons.injEq, DataW.lit.injEq, Lit.string.injEq, Lit.int.injEq, and_true, true_and] at h1
    obtain ⟨rfl, rfl⟩ := h1
    cases hn
    rfl
set_option maxRecDepth 100000 in
set_option maxHeartbeats 1000000 in
theorem values1_in (F : Fence) (n : Nat) (hf : F.fn 167) (hro : F.round = none) (hn : 1 ≤ n) (l Bm b nn : Nat) (os : List Ob) (hos : Rising os) (J Jx : List {o : Ob // o ∈ os} → World → Prop)
    (hY : ∀ pre x W, J pre W → pre.length < os.length → YieldAt F (n - 1) Tryz.prog l #[obVal x.1] W fun e W' =>
      (e = .returned (.bool true) ∧ J (pre ++ [x]) W' ∧ KeepsWalks W W') ∨ (e = .returned (.bool false) ∧ Jx (pre ++ [x]) W'))
    (W : World) (hJ : AbidesFrom W.heap.size J) (hm : W.cell? ⟨Bm, 0, none⟩ = some (.map (some b))) (hown : W.ownsMap Tryz.prog 9 objElem b nn (mapD os)) (h0 : J [] W) :
    CallsIn F n Tryz.prog 167 #[.func (.yield l) #[] #[], .pointer (some ⟨Bm, 0, none⟩)] W fun e W' => (∃ v, e = .returned v) ∧
      ((∃ xs : List {o : Ob // o ∈ os}, (xs.map (·.1)).Perm os ∧ J xs W') ∨ (∃ pre, Jx pre W')) := by
  refine callsIn_of_wp Tryz.func167 rfl hf ?_ hro
  simp only [Tryz.ntmps167, List.size_toArray, List.length_cons, List.length_nil, Nat.reduceAdd, Nat.reduceSub, Array.replicate_succ, Array.replicate_zero, List.push_toArray, List.append_toArray, List.nil_append, List.cons_append]
  gi_wp2_with (first
    | (gi_at_range; refine wpListIn_range_own _ rfl _ 126 rfl 9 146 (string_keyed Tryz.underlying9) Tryz.underlying126 _ b nn _ rfl hown ?_; intro w0 hrg0 hg0 hs0)
    | gi_in)
  go_frame
  gi_loopw [4] (fun _ wr => ∃ (left : Lit → Bool) (cnt : Nat) (ps : List {o : Ob // o ∈ os}), wr.ranges Tryz.prog 9 objElem b W.heap.size nn (mapD os) left cnt ∧ ps.length + cnt ≤ os.length ∧ Collected (mapD os) left (ps.map (·.1.name)) ∧ J ps wr)
    (fun _ wr => wr.rangeLeft b W.heap.size)
  case atStart =>
    exact ⟨_, _, [], hrg0, by simp [size_mapD], Collected.start _, hJ [] W w0 none h0 hg0 (fun r e => by cases e)⟩
  case round =>
    obtain ⟨left, cnt, ps, hrg, hcs, hC, hJs⟩ := hrel
    gi_wp2_with (first
      | (gi_at_next; refine wpListIn_next_ranges _ rfl _ rfl 9 (string_keyed Tryz.underlying9) objElem encStr (fun c : Str × Int => .agg #[S c.1, .int .i64 c.2]) (fun key kl hk => by obtain ⟨x, hx, _⟩ := Maps.keyOf_str Tryz.underlying9 hk; exact ⟨x, hx⟩) (fun v y hv => by obtain ⟨c, rfl, _⟩ := objElem_inv2 hv; exact ⟨c, rfl⟩) b W.heap.size nn _ _ _ rfl hrg ?_ ?_)
      | gi_in)
    · -- nothing is left
      intro hc0 hl0
      gi_wp2
      go_end0
      have hp := hC.perm hown (string_keyed Tryz.underlying9) Tryz.underlying9 hl0
      rw [keys_mapD] at hp
      exact ⟨⟨_, rfl⟩, .inl ⟨ps, perm_of_names hos (by simpa [Function.comp_def] using hp) (fun p hp => by obtain ⟨q, _, rfl⟩ := List.mem_map.1 hp; exact getO_of_mem hos q.2), hJs⟩⟩
    · -- an entry has come
      intro x ct cd kl yd yp w2 cnt2 hkey hlk hv hat hrg2 hlt hg2 hs2 hen
      obtain ⟨x', ex, rfl, _⟩ := Maps.keyOf_str Tryz.underlying9 hkey
      obtain rfl : x = x' := encStr_inj ex
      obtain ⟨⟨ct', cd'⟩, ec, ez⟩ := objElem_inv2 hv
      have h1 : S ct = S ct' ∧ Value.int .i64 cd = Value.int .i64 cd' := by simpa using ec
      obtain rfl : ct = ct' := encStr_inj h1.1
      obtain rfl : cd = cd' := by simpa using h1.2
      clear h1 ec
      obtain rfl : yd = obT ct cd := (Prod.mk.inj ez).1
      have hgo := got_of_at hat
      have hJ2 : J ps w2 := hJ _ wr w2 (some W.heap.size) hJs hg2 (fun r e => by cases e; exact ⟨Nat.le_refl _, hrg.iter_walk⟩)
      have hJ3 := hJ ps w2 (w2.alloc (.cells #[S ct, .int .i64 cd] 146)) none hJ2 (World.grownBy_alloc _ _ none) (fun r e => by cases e)
      have hrg2 := hrg2.of_walks (KeepsWalks.alloc w2 (.cells #[S ct, .int .i64 cd] 146))
      obtain ⟨fn, tmps, assign, body, hy, hR⟩ := hY ps ⟨⟨x, ct, cd⟩, (getO_mem hgo).1⟩ _ hJ3 (by omega)
      clear hs2
      gi_wp2
      refine hR.mono ?_
      have hC2 : Collected (mapD os) (fun z => left z && !z.sameKey (.string x)) ((ps ++ [(⟨⟨x, ct, cd⟩, (getO_mem hgo).1⟩ : {o : Ob // o ∈ os})]).map (·.1.name)) := by simpa using hC.step hlk hat
      rintro e W3 (⟨rfl, hJ3, hk3⟩ | ⟨rfl, hJx3⟩)
      · gi_wp2
        have hrg3 := hrg2.of_walks hk3
        go_roundw
        case rel => exact ⟨_, cnt2, _, hrg3, by simp; omega, hC2, hJ3⟩
        case measure => rw [hrg3.left_eq, hrg.left_eq]; exact hlt
      · gi_wp2
        refine bodyPost_ret (results_none rfl _ _ _) rfl ?_
        exact ⟨⟨_, rfl⟩, .inr ⟨_, hJx3⟩⟩
theorem values_stops (F : Fence) (n : Nat) (hf : F.fn 167) (hro : F.round = none) (hn : 1 ≤ n) (Bm b nn : Nat) (os : List Ob) (hos : Rising os) (w : World) (hBm : Bm < w.heap.size)
    (hm : w.cell? ⟨Bm, 0, none⟩ = some (.map (some b))) (hown : w.ownsMap Tryz.prog 9 objElem b nn (mapD os)) :
    SeqStops F n Tryz.prog 167 #[.pointer (some ⟨Bm, 0, none⟩)] (fun x : {o : Ob // o ∈ os} => obVal x.1) (fun xs => (xs.map (·.1)).Perm os) (fun _ => True) os.length w := fun l J Jx W hW hJ _ hY h0 => by
  have hown' : W.ownsMap Tryz.prog 9 objElem b nn (mapD os) := by
    have hbl := hown.lt
    obtain ⟨es, clock, hb, Ft, hs, hD⟩ := hown
    exact ⟨es, clock, (hW.block b hbl).trans hb, Ft, hs, hD⟩
  refine (values1_in F n hf hro hn l Bm b nn os hos J Jx hY W hJ ((hW.cell (p := ⟨Bm, 0, none⟩) hBm).trans hm) hown' h0).mono ?_
  rintro e W' ⟨h1, h2 | ⟨pre, h2⟩⟩
  · exact ⟨h1, .inl h2⟩
  · exact ⟨h1, .inr ⟨pre, trivial, h2⟩⟩
theorem total_len : ∀ {l : List Ob}, (∀ o ∈ l, o.text.length ≤ 20000) → total l ≤ l.length * 20000
  | [], _ => by simp [total]
  | a :: r, h => by
    have h2 := total_len fun o ho => h o (List.mem_cons_of_mem a ho)
    have h3 := h a (List.mem_cons_self ..)
    unfold total at h2 ⊢
    rw [List.map_cons, List.sum_cons, List.length_cons, Nat.add_mul]; omega
theorem total_le {s : St} (h : s.Ok) : total s.objs ≤ 4000000 := by
  have := total_len h.txt
  have hn := h.num
  have : s.objs.length * 20000 ≤ 200 * 20000 := Nat.mul_le_mul_right _ hn
  omega
theorem box_cell {W : World} {B : Nat} {v : Value} {t : TypeId} (h : W.heap[B]? = some (.cells #[v] t (0, 0))) : W.cell? ⟨B, 0, none⟩ = some v ∧ W.frozen? ⟨B, 0, none⟩ = false := by
  constructor <;> simp [World.cell?, World.frozen?, h]
theorem total_perm {a b : List Ob} (h : a.Perm b) : total a = total b := (h.map _).sum_nat
set_option maxRecDepth 100000 in
set_option maxHeartbeats 2000000 in
theorem bytes_any (sb mb : Nat) (s : St) (w : World) (h : StoreAt w sb mb s) :
    Calls Tryz.prog 84 #[stP sb] w fun e w' => e = .returned (.int .i64 (total s.objs : Int)) ∧ Below w.heap.size w w' := by
  have c0 := (h.below ((Below.refl _ w).alloc (Nat.le_refl _) (.cells #[.int .i64 0] 3))).c0
  refine (callsIn_wide (n := 6)).1 ?_
  have h7 : Fence.wide.fn 167 := trivial
  have h5 : Fence.wide.fn 124 := trivial
  refine callsIn_of_wp_marks Tryz.func84 rfl trivial ?_ rfl
  simp only [Tryz.ntmps84, List.size_toArray, List.length_cons, List.length_nil, Nat.reduceAdd, Nat.reduceSub, Array.replicate_succ, Array.replicate_zero, List.push_toArray, List.append_toArray, List.nil_append, List.cons_append]
  gi_wp2_with (gi_at_call 124; refine (values_in Fence.wide 5 trivial rfl _ _).mono ?_; rintro e w' ⟨rfl, rfl⟩)
  obtain ⟨W0, hW0⟩ : ∃ W0, (w.alloc (.cells #[.int .i64 0] 3)).alloc (.cells #[.map (some mb)] 126) = W0 := ⟨_, rfl⟩
  have hs0 : W0.heap.size = w.heap.size + 2 := by rw [← hW0]; simp
  have hb0 : Below w.heap.size w W0 := by rw [← hW0]; exact ((Below.refl _ w).alloc (Nat.le_refl _) _).alloc (by simp) _
  have hn0 : W0.heap[w.heap.size]? = some (.cells #[.int .i64 0] 3 (0, 0)) := by
    rw [← hW0]; exact (Below.heap_alloc _ _ _ (by simp)).trans (World.alloc_heap_new w _)
  have hm0 : W0.heap[w.heap.size + 1]? = some (.cells #[.map (some mb)] 126 (0, 0)) := by
    rw [← hW0]
    have := World.alloc_heap_new (w.alloc (.cells #[.int .i64 0] 3)) (.cells #[.map (some mb)] 126)
    rwa [World.size_alloc] at this
  rw [hW0]
  clear hW0
  refine rangeAll rfl (by omega) (gf := 167) (lb := #[.pointer (some ⟨w.heap.size + 1, 0, none⟩)]) rfl h7 (enters_of Tryz.func167 (by kernel_rfl) rfl)
    (values_stops Fence.wide 5 h7 rfl (by omega) (w.heap.size + 1) mb s.objs.length s.objs h.ok.ris W0 (by omega) (box_cell hm0).1 (h.below hb0).own).gives (Below.refl _ _) rfl
    (fun pre W => W.heap[w.heap.size]? = some (.cells #[.int .i64 (total (pre.map (·.1)))] 3 (0, 0)) ∧ Below w.heap.size w W) ?_ ⟨hn0, hb0⟩
    (fun p W => (W.heap[w.heap.size]? = some (.cells #[.int .i64 (total (p.1.map (·.1)))] 3 (0, 0)) ∧ Below w.heap.size w W) ∧ p.1.length < s.objs.length ∧ ∃ B, w.heap.size < B ∧ p.2.2 = ⟨#[stP sb, undef, .int .i64 0, .pointer (some ⟨w.heap.size, 0, none⟩), .pointer (some ⟨B, 0, none⟩), stP sb, .pointer (some ⟨sb, 0, none⟩), .pointer (some ⟨sb, 0, none⟩), .map (some mb), .func (.func 167) #[] #[.pointer (some ⟨w.heap.size + 1, 0, none⟩)], obVal p.2.1.1, undef, undef, undef, undef, undef, undef], []⟩ ∧ W.heap[B]? = some (.cells #[S p.2.1.1.text, .int .i64 p.2.1.1.day] 146 (0, 0))) ?_ ?_ ?_ ?_
  · rintro pre A Z row ⟨h1, h2⟩ hg hr
    exact ⟨(hg.block _ (Array.getElem?_eq_some_iff.1 h1).1 (fun e => by have := (hr _ e.symm).1; omega)).trans h1, h2.grown hg h2.size (fun k e => by have := (hr _ e).1; omega)⟩
  · rintro p A Z row ⟨⟨h1, h2⟩, h3, B, h4, h5, h6⟩ hg hr
    refine ⟨⟨(hg.block _ (Array.getElem?_eq_some_iff.1 h1).1 (fun e => by have := (hr _ e.symm).1; omega)).trans h1, h2.grown hg h2.size (fun k e => by have := (hr _ e).1; omega)⟩, h3, B, h4, h5, (hg.block _ (Array.getElem?_eq_some_iff.1 h6).1 (fun e => ?_)).trans h6⟩
    obtain ⟨_, o, ho, hc⟩ := hr _ e.symm
    rw [h6] at ho
    cases ho
    cases hc
  · rintro l pre x W ⟨h1, h2⟩ hlen
    have hlt := (Array.getElem?_eq_some_iff.1 h1).1
    gi_wp2
    refine ⟨KeepsOthers.alloc _ _, ⟨(Below.heap_alloc _ _ _ hlt).trans h1, h2.alloc h2.size _⟩, hlen, W.heap.size, hlt, rfl, World.alloc_heap_new W _⟩
  · rintro l pre x a1 W ⟨⟨h1, h2⟩, hlen, B, hB, ha1, h6⟩
    simp only at h1 hlen ha1 h6
    subst ha1
    obtain ⟨c1, f1⟩ := box_cell h1
    have hx := h.ok.txt x.1 x.2
    have htp : total (pre.map (·.1)) ≤ pre.length * 20000 := by
      clear h1 c1
      have hall : ∀ o ∈ pre.map (·.1), o.text.length ≤ 20000 := fun o ho => by obtain ⟨q, _, rfl⟩ := List.mem_map.1 ho; exact h.ok.txt q.1 q.2
      have := total_len hall
      rwa [List.length_map] at this
    have hn := h.ok.num
    have hc0 : W.cell? ⟨B, 0, none⟩ = some (S x.1.text) := by simp [World.cell?, h6]
    have ht : total ((pre ++ [x]).map (·.1)) = total (pre.map (·.1)) + x.1.text.length := by simp [total]
    rw [ht]
    generalize total (pre.map (·.1)) = tt at *
    have hbt : tt ≤ 4000000 := by omega
    clear htp ht hlen
    obtain ⟨⟨nm, tx, dy⟩, hxm⟩ := x
    simp only at hx hc0 h6 ⊢
    gi_wp2
    exact ⟨KeepsOthers.setCell _ _ _, heap_setCell_same W _ 0 _ _ _ h1, h2.grown (grown_set W w.heap.size 0 _) h2.size (fun k e => by cases e; exact Nat.le_refl _)⟩
  · rintro D xs W hG ⟨h1, h2⟩ hD hK
    obtain ⟨c1, f1⟩ := box_cell h1
    rw [total_perm hG] at c1
    gi_wp2
    refine ⟨by simp, .inl ⟨_, _, rfl, run_takeDeferred hK, ?_⟩⟩
    exact ⟨_, results_tmp rfl _ _ _, rfl, h2.grown (grownBy_putObj' W D _) h2.size (fun k e => by cases e; omega)⟩
end Go.Proofs.YtpfohfihkmjnaaaGreatDoor
namespace Go.Proofs.YtpfohfihkmjnaaaGreatDoor
open Go.RowKit Go.Maps
theorem ownsMap_tight {P : Program} {k : TypeId} {R : Value → Option (DataW Unit × List MemPlace)} {w : World} {b n : Nat} {D : DataW Unit} (h : w.ownsMap P k R b n D) : w.ownsMap P k R b (size D) D := by
  obtain ⟨es, clock, hb, F, _, rfl⟩ := h
  exact ⟨es, clock, hb, F, by simp [size, length_sorted], rfl⟩
def dropS (s : St) (n : Str) : St := if s.off = true ∨ getO s.objs n = none then s else { s with objs := dropO s.objs n }
theorem mapTurned_but {w w' : World} {sb mb : Nat} (h : w.mapTurned w' mb) : But2 sb mb w w' :=
  ⟨h.grown.os, h.grown.tape, h.grown.output, h.grown.size, fun k hk _ h2 => h.grown.block k hk (fun e => h2 (Option.some.inj e))⟩
theorem mapTurned_blk {w w' : World} {sb mb : Nat} (h : w.mapTurned w' mb) (hne : sb ≠ mb) (hlt : sb < w.heap.size) : w'.heap[sb]? = w.heap[sb]? := h.grown.block sb hlt (fun e => hne (Option.some.inj e))
theorem St.Ok.drop {s : St} (h : s.Ok) (n : Str) : St.Ok { s with objs := dropO s.objs n } :=
  { ris := dropO_rising h.ris n, day0 := h.day0, day1 := h.day1, cut0 := h.cut0, cut1 := h.cut1, txt := fun o ho => h.txt o (List.mem_filter.1 ho).1, nam := fun o ho => h.nam o (List.mem_filter.1 ho).1, num := Nat.le_trans (List.length_filter_le _ _) h.num, hd := h.hd }
theorem new_any (w : World) :
    Calls Tryz.prog 30 #[] w fun e w' => ∃ sb mb, e = .returned (stP sb) ∧ StoreAt w' sb mb St.new ∧ w.heap.size ≤ sb ∧ w.heap.size ≤ mb ∧ Below w.heap.size w w' := by
  have hmm := @run_makeMap Tryz.prog
  go_enter Tryz.func30, Tryz.ntmps30
  go_wp2_with fail
  go_ret
  have hs : (w.alloc (.map #[] 0)).heap.size = w.heap.size + 1 := by simp
  refine ⟨w.heap.size + 1, w.heap.size, rfl, ⟨?_, ?_, ?_⟩, by omega, Nat.le_refl _, ((Below.refl _ _).alloc (Nat.le_refl _) _).alloc (by simp) _⟩
  · have := heap_alloc_new (w.alloc (.map #[] 0)) (.cells (stCells w.heap.size St.new) 128)
    rw [hs] at this
    exact this
  · exact (World.ownsMap_made w Tryz.prog 9 objElem).alloc _
  · exact { ris := List.Pairwise.nil, day0 := Int.le_refl _, day1 := by decide, cut0 := Int.le_refl _, cut1 := by decide, txt := fun _ h => (by cases h), nam := fun _ h => (by cases h), num := Nat.zero_le _, hd := Nat.zero_le _ }
end Go.Proofs.YtpfohfihkmjnaaaGreatDoor
namespace Go.Proofs.YtpfohfihkmjnaaaGreatDoor
open Go.RowKit
theorem dropWhile_nil {α : Type} {p : α → Bool} : ∀ {l : List α}, l.dropWhile p = [] ↔ l.all p = true
  | [] => by simp
  | a :: r => by
    rw [List.dropWhile_cons, List.all_cons]
    cases h : p a with
    | true => simp [dropWhile_nil (l := r)]
    | false => simp
theorem trimS_nil (l cs : Str) : Lib.trimS l cs = [] ↔ l.all (fun b => cs.contains b) = true := by
  have hr : Lib.trimRightS l cs = [] ↔ l.all (fun b => cs.contains b) = true := by
    unfold Lib.trimRightS
    rw [List.reverse_eq_nil_iff, dropWhile_nil, List.all_reverse]
  unfold Lib.trimS
  constructor
  · intro h
    refine hr.1 ?_
    unfold Lib.trimLeftS at h
    rw [dropWhile_nil] at h
    cases hd : l.reverse.dropWhile (fun b => cs.contains b) with
    | nil => unfold Lib.trimRightS; rw [hd]; rfl
    | cons a r =>
      have ha : cs.contains a = false := by
        have := List.head?_dropWhile_not (fun b => cs.contains b) l.reverse
        rw [hd] at this
        simpa using this
      have hm : a ∈ Lib.trimRightS l cs := by unfold Lib.trimRightS; rw [hd]; simp
      have := List.all_eq_true.1 h a hm
      rw [ha] at this; cases this
  · intro h
    rw [hr.2 h]; rfl
/-- The signs of names. -/
def nameSigns : Str := [97, 98, 99, 100, 101, 102, 103, 104, 105, 106, 107, 108, 109, 110, 111, 112, 113, 114, 115, 116, 117, 118, 119, 120, 121, 122, 48, 49, 50, 51, 52, 53, 54, 55, 56, 57, 47]
def nameOkS (s : Str) : Bool := decide (s ≠ []) && (decide (s.length ≤ 16) && s.all (fun b => nameSigns.contains b))
theorem trimName_any (s : Str) (w : World) (hs : s.length ≤ 100000) :
    Calls Tryz.prog 123 #[S s, .string ⟨#[97, 98, 99, 100, 101, 102, 103, 104, 105, 106, 107, 108, 109, 110, 111, 112, 113, 114, 115, 116, 117, 118, 119, 120, 121, 122, 48, 49, 50, 51, 52, 53, 54, 55, 56, 57, 47]⟩] w
      fun e w' => e = .returned (S (Lib.trimS s nameSigns)) ∧ Below w.heap.size w w' := by
  have h := Any.strings_Trim_laid Tryz.lays160 (by kernel_rfl) ⟨s.toArray⟩ ⟨nameSigns.toArray⟩ w (by simp [ByteArray.size]; omega) (by decide) (ascii_of_all (by decide))
  exact h
set_option maxRecDepth 20000 in
theorem name_any (s : Str) (w : World) (hs : s.length ≤ 100000) :
    Calls Tryz.prog 83 #[S s] w fun e w' => e = .returned (.bool (nameOkS s)) ∧ Below w.heap.size w w' := by
  by_cases h0 : s = []
  · subst h0
    go_enter Tryz.func83, Tryz.ntmps83
    go_wp2_with fail
    go_ret
    exact ⟨rfl, Below.refl _ _⟩
  have e0 : nameOkS s = (decide (s.length ≤ 16) && s.all (fun b => nameSigns.contains b)) := by simp [nameOkS, h0]
  have g0 : (!s.isEmpty) = true := by simpa using h0
  by_cases h1 : s.length ≤ 16
  · have e1 : nameOkS s = s.all (fun b => nameSigns.contains b) := by rw [e0]; simp [h1]
    have g1 : decide ((s.length : Int) ≤ 16) = true := by simp; omega
    have e2 : nameOkS s = (Lib.trimS s nameSigns).isEmpty := by
      rw [e1, Bool.eq_iff_iff, ← trimS_nil, List.isEmpty_iff]
    have E := Lib.hid e2
    clear e0 e1 e2
    go_enter Tryz.func83, Tryz.ntmps83
    go_wp2_with fail
    refine (trimName_any s _ hs).mono ?_
    rintro e w1 ⟨rfl, hb⟩
    generalize Lib.trimS s nameSigns = tr at *
    go_wp2_with fail
    go_ret
    exact ⟨by rw [E.out]; simp, hb⟩
  · have e1 : nameOkS s = false := by rw [e0]; simp [h1]
    have g1 : decide ((s.length : Int) ≤ 16) = false := by simp; omega
    have E := Lib.hid e1
    clear e0 e1
    go_enter Tryz.func83, Tryz.ntmps83
    go_wp2_with fail
    go_ret
    exact ⟨by rw [E.out]; rfl, Below.refl _ _⟩
end Go.Proofs.YtpfohfihkmjnaaaGreatDoor
namespace Go.Proofs.YtpfohfihkmjnaaaGreatDoor
open Go.RowKit Go.Maps
theorem len_run {w : World} {sb mb : Nat} {s : St} (h : StoreAt w sb mb s) (ty : TypeId) : (Builtin.len_ #[126] ty #[.map (some mb)]).run Tryz.prog w = .ok (.int .i64 (s.objs.length : Int)) w := by
  have := h.own.len Tryz.underlying126 ty
  rwa [size_mapD] at this
theorem St.Ok.put {s : St} (h : s.Ok) {n t : Str} {d : Int} (hn : n.length ≤ 20000) (ht : t.length ≤ 20000) (hg : getO s.objs n = none) (hl : s.objs.length < 200) : St.Ok { s with objs := putO ⟨n, t, d⟩ s.objs } :=
  { ris := putO_rising h.ris hg, day0 := h.day0, day1 := h.day1, cut0 := h.cut0, cut1 := h.cut1, hd := h.hd
    txt := fun o ho => by
      rcases mem_putO.1 ho with rfl | ho
      · exact ht
      · exact h.txt o ho
    nam := fun o ho => by
      rcases mem_putO.1 ho with rfl | ho
      · exact hn
      · exact h.nam o ho
    num := by rw [putO_length]; omega }
/-- m[n] = object. -/
theorem mapSet_any {w : World} {sb mb : Nat} {s : St} (h : StoreAt w sb mb s) {n t : Str} {d : Int} (hn : n.length ≤ 20000) (ht : t.length ≤ 20000) (hg : getO s.objs n = none) (hl : s.objs.length < 200) :
    ∃ w', (Instr.mapUpdate 126 (.map (some mb)) (S n) (.agg #[S t, .int .i64 d])).run Tryz.prog w = .ok () w' ∧ StoreAt w' sb mb { s with objs := putO ⟨n, t, d⟩ s.objs } ∧ But2 sb mb w w' := by
  obtain ⟨w', h1, h2, h3⟩ := h.own.store (string_keyed Tryz.underlying9) Tryz.underlying126 (by unfold maxLen; omega) (keyStr (n := n) (by omega)) (objElem_mk (t := t) (d := d) (by unfold maxLen; omega))
  refine ⟨w', h1, ⟨(mapTurned_blk h3 h.ne h.lt).trans h.blk, ?_, h.ok.put hn ht hg hl⟩, mapTurned_but h3⟩
  rw [put_mapD (x := ⟨n, t, d⟩) hg] at h2
  have := ownsMap_tight h2
  rwa [size_mapD] at this
def putE (s : St) (n t : Str) : Er :=
  if nameOkS n = false then .bare 5 else if 20000 < t.length then .bare 2 else if s.off = true then .bare 12 else if (getO s.objs n).isSome = true then .bare 7
  else if 200 ≤ s.objs.length ∨ 262144 < total s.objs + t.length then .bare 8 else if (aft s t.length).off = true then .bare 12 else .nil
def putS (s : St) (n t : Str) : St :=
  if nameOkS n = false ∨ 20000 < t.length ∨ s.off = true ∨ (getO s.objs n).isSome = true ∨ 200 ≤ s.objs.length ∨ 262144 < total s.objs + t.length then s
  else { aft s t.length with objs := putO ⟨n, t.take (wrote s t.length), s.day⟩ s.objs }
theorem Bal {w w1 : World} {o : Obj} (h : Below (w.alloc o).heap.size (w.alloc o) w1) : Below w.heap.size w w1 := ((Below.refl _ w).alloc (Nat.le_refl _) o).trans (h.mono (by simp))
theorem take_ext (t : Str) (k : Nat) : S (t.take k) = .string ((ByteArray.mk t.toArray).extract 0 k) := by
  rw [ByteArray.extract_mk]
  simp
theorem Bd1 {B : Nat} {a w : World} (h : Below B a w) : Below B a w.drew := Bdn h 1
theorem obV_shape (o : Option Ob) : ∃ (t : Str) (d : Int), obV o = .agg #[S t, .int .i64 d] := by
  cases o with
  | none => exact ⟨[], 0, rfl⟩
  | some o => exact ⟨_, _, rfl⟩
theorem nameOk_len {n : Str} (h : nameOkS n = true) : n.length ≤ 16 := by simp [nameOkS] at h; exact h.2.1
theorem aft_objs (s : St) (k : Nat) : (aft s k).objs = s.objs := by unfold aft; split <;> (try split) <;> rfl
theorem aft_day (s : St) (k : Nat) : (aft s k).day = s.day := by unfold aft; split <;> (try split) <;> rfl
set_option maxRecDepth 20000 in
set_option maxHeartbeats 1000000 in
theorem put_any (E : Nat → Addr) (B : Nat) (sb mb : Nat) (s : St) (n t : Str) (w : World) (hE : Errs [2, 5, 7, 8, 12] E B w) (h : StoreAt w sb mb s) (hn : n.length ≤ 100000) (ht : t.length ≤ 100000) (hB : B ≤ sb) (hB2 : B ≤ mb) :
    Calls Tryz.prog 36 #[stP sb, S n, S t] w fun e w' => ∃ ev, e = .returned ev ∧ ErV E w' ev (putE s n t) ∧ StoreAt w' sb mb (putS s n t) ∧ But2 sb mb w w' := by
  have c0 := h.c0
  have hl := look_any h n hn
  have hE1 := fun w1 (hb : But2 sb mb w w1) => hE.below ((Below.refl B w).trans ⟨hb.os, hb.tape, hb.output, hb.size, fun k hk => hb.block k (Nat.lt_of_lt_of_le hk hE.le) (by omega) (by omega)⟩)
  obtain ⟨tx, dx, hov⟩ := obV_shape (getO s.objs n)
  rw [hov] at hl
  generalize hib : (getO s.objs n).isSome = ib at hl
  have HI := Lib.hid hib; have HE := Lib.hid hE1; have H := Lib.hid h; have HL := Lib.hid hl
  clear hov hE1
  unfold putE putS
  rw [HI.out]
  by_cases g1 : nameOkS n = true
  case neg =>
    have g1 : nameOkS n = false := by simpa using g1
    simp only [g1, if_true, true_or]
    clear hib h
    go_enter Tryz.func36, Tryz.ntmps36
    go_wp2_with fail
    refine (name_any n _ hn).mono ?_
    rintro e w1 ⟨rfl, hb1⟩
    have hb1 := Bal hb1
    have v5 := (HE.out w1 (.of hb1)).var 5 (by decide)
    simp only [errG] at v5
    rw [g1]
    go_wp2_with fail
    go_ret
    exact ⟨_, rfl, ⟨by decide, rfl⟩, H.out.below hb1, .of hb1⟩
  have hn16 := nameOk_len g1
  by_cases g2 : 20000 < t.length
  case pos =>
    simp only [g1, g2, if_true, true_or, or_true, Bool.true_eq_false, if_false]
    have g2 : (20000 : Int) < (t.length : Int) := by omega
    clear hib h
    go_enter Tryz.func36, Tryz.ntmps36
    go_wp2_with fail
    refine (name_any n _ hn).mono ?_
    rintro e w1 ⟨rfl, hb1⟩
    have hb1 := Bal hb1
    have v2 := (HE.out w1 (.of hb1)).var 2 (by decide)
    simp only [errG] at v2
    rw [g1]
    go_wp2_with fail
    go_ret
    exact ⟨_, rfl, ⟨by decide, rfl⟩, H.out.below hb1, .of hb1⟩
  have k2 : (t.length : Int) ≤ 20000 := by omega
  by_cases g3 : s.off = true
  case pos =>
    simp only [g1, g2, g3, if_true, true_or, or_true, Bool.true_eq_false, if_false]
    clear hib h
    go_enter Tryz.func36, Tryz.ntmps36
    go_wp2_with fail
    refine (name_any n _ hn).mono ?_
    rintro e w1 ⟨rfl, hb1⟩
    have hb1 := Bal hb1
    have v12 := (HE.out w1 (.of hb1)).var 12 (by decide)
    simp only [errG] at v12
    have c3 := (H.out.below hb1).c3
    rw [g3] at c3
    rw [g1]
    go_wp2_with fail
    go_ret
    exact ⟨_, rfl, ⟨by decide, rfl⟩, H.out.below hb1, .of hb1⟩
  have g3 : s.off = false := by simpa using g3
  by_cases g4 : ib = true
  case pos =>
    subst g4
    simp only [g1, g2, g3, if_true, true_or, or_true, Bool.true_eq_false, if_false, Bool.false_eq_true]
    clear hib h
    go_enter Tryz.func36, Tryz.ntmps36
    go_wp2_with fail
    refine (name_any n _ hn).mono ?_
    rintro e w1 ⟨rfl, hb1⟩
    have hb1 := Bal hb1
    have v7 := (HE.out w1 (.of hb1)).var 7 (by decide)
    simp only [errG] at v7
    have c3 := (H.out.below hb1).c3
    rw [g3] at c3
    rw [g1]
    go_wp2_with fail
    go_ret
    exact ⟨_, rfl, ⟨by decide, rfl⟩, H.out.below hb1, .of hb1⟩
  obtain rfl : ib = false := by simpa using g4
  have hg : getO s.objs n = none := by simpa using hib
  by_cases g5 : 200 ≤ s.objs.length
  case pos =>
    simp only [g1, g2, g3, g5, if_true, true_or, or_true, Bool.true_eq_false, if_false, Bool.false_eq_true]
    have g5 : (200 : Int) ≤ (s.objs.length : Int) := by omega
    clear hib h hg
    go_enter Tryz.func36, Tryz.ntmps36
    go_wp2_with fail
    refine (name_any n _ hn).mono ?_
    rintro e w1 ⟨rfl, hb1⟩
    have hb1 := Bal hb1
    have v8 := (HE.out w1 (.of hb1)).var 8 (by decide)
    simp only [errG] at v8
    have c3 := (H.out.below hb1).c3
    have c0' := (H.out.below hb1).c0
    have hlen := len_run (H.out.below hb1)
    rw [g3] at c3
    rw [g1]
    go_wp2_with fail
    go_ret
    exact ⟨_, rfl, ⟨by decide, rfl⟩, H.out.below hb1, .of hb1⟩
  have k5 : decide ((200 : Int) ≤ (s.objs.length : Int)) = false := by simp; omega
  have k5' : (s.objs.length : Int) < 200 := by omega
  have htot := total_le H.out.ok
  by_cases g6 : 262144 < total s.objs + t.length
  case pos =>
    simp only [g1, g2, g3, g6, if_true, or_true, Bool.true_eq_false, if_false, Bool.false_eq_true]
    have g6 : (262144 : Int) < (total s.objs : Int) + (t.length : Int) := by omega
    clear hib h hg
    go_enter Tryz.func36, Tryz.ntmps36
    go_wp2_with fail
    refine (name_any n _ hn).mono ?_
    rintro e w1 ⟨rfl, hb1⟩
    have hb1 := Bal hb1
    have c3 := (H.out.below hb1).c3
    have c0' := (H.out.below hb1).c0
    have hlen := len_run (H.out.below hb1)
    rw [g3] at c3
    rw [g1]
    go_wp2_with fail
    refine (bytes_any sb mb s _ (H.out.below hb1)).mono ?_
    rintro e w2 ⟨rfl, hb2⟩
    have hb2' := hb1.trans (hb2.mono hb1.size)
    have v8 := (HE.out w2 (.of hb2')).var 8 (by decide)
    simp only [errG] at v8
    generalize total s.objs = tt at *
    go_wp2_with fail
    go_ret
    exact ⟨_, rfl, ⟨by decide, rfl⟩, H.out.below hb2', .of hb2'⟩
  have k6 : decide ((262144 : Int) < (total s.objs : Int) + (t.length : Int)) = false := by simp; omega
  have k6' : (total s.objs : Int) + (t.length : Int) ≤ 262144 := by omega
  simp only [g1, g2, g3, g5, g6, Bool.true_eq_false, if_false, Bool.false_eq_true, false_or]
  have k5n : s.objs.length < 200 := by omega
  obtain ⟨af, haf⟩ : ∃ af, (aft s t.length).off = af := ⟨_, rfl⟩
  rw [haf]
  have HF := Lib.hid haf
  clear haf
  have Hg := Lib.hid hg
  have K5 := Lib.hid k5n
  have HT := Lib.hid htot
  clear hib h hg g2 g5 g6 k5n htot
  go_enter Tryz.func36, Tryz.ntmps36
  go_wp2_with fail
  refine (name_any n _ hn).mono ?_
  rintro e w1 ⟨rfl, hb1⟩
  have hb1 := Bal hb1
  have c3 := (H.out.below hb1).c3
  have c0' := (H.out.below hb1).c0
  have hlen := len_run (H.out.below hb1)
  rw [g3] at c3
  rw [g1]
  go_wp2_with fail
  refine (bytes_any sb mb s _ (H.out.below hb1)).mono ?_
  rintro e w2 ⟨rfl, hb2⟩
  have hb2' := hb1.trans (hb2.mono hb1.size)
  have hd := H.out.below (Bd1 hb2')
  have HD := Lib.hid hd
  have c0'' := hd.c0
  have c2'' := hd.c2
  have HB := Lib.hid (But2.of (sb := sb) (mb := mb) (Bd1 hb2'))
  clear c0 c0' c3 hlen HL hd
  generalize total s.objs = tt at *
  go_wp2_with fail
  go_region_with (go_at_call 85; refine (write_any sb mb s t.length _ HD.out ht).mono ?_; rintro e w3 ⟨rfl, h3, hb3⟩; have hwl := wrote_le s t.length; have c2 := h3.c2; rw [aft_day] at c2; have c0 := h3.c0; clear c0'' c2''; obtain ⟨w4, hrun, h4, hb4⟩ := mapSet_any h3 (n := n) (t := t.take (wrote s t.length)) (d := s.day) (by omega) (by rw [List.length_take]; omega) (by rw [aft_objs]; exact Hg.out) (by rw [aft_objs]; exact K5.out); have hb4' := (HB.out.trans hb3).trans hb4; rw [aft_objs, HF.out] at h4; have c3' := h4.c3; simp only at c3'; have v12 := (HE.out w4 hb4').var 12 (by decide); simp only [errG] at v12; have H4 := Lib.hid h4; have HB4 := Lib.hid hb4'; clear h3 hb3 h4 hb4 hb4'; rw [take_ext] at hrun; obtain ⟨wr, hwr⟩ : ∃ wr, wrote s t.length = wr := ⟨_, rfl⟩; rw [hwr] at hwl hrun; rw [hwr]; have HW := Lib.hid hwr; clear hwr)
  all_goals
    clear HF
    cases af with
    | true =>
      go_wp2_with fail
      go_ret
      exact ⟨_, rfl, ⟨by decide, rfl⟩, HW.out ▸ H4.out, HB4.out⟩
    | false =>
      go_wp2_with fail
      go_ret
      exact ⟨_, rfl, rfl, HW.out ▸ H4.out, HB4.out⟩
end Go.Proofs.YtpfohfihkmjnaaaGreatDoor
namespace Go.Proofs.YtpfohfihkmjnaaaGreatDoor
open Go.RowKit Go.Maps
attribute [local go_sem] bget bapp
def signP (b : UInt8) : Prop := (97 ≤ b.toNat ∧ b.toNat ≤ 122) ∨ (48 ≤ b.toNat ∧ b.toNat ≤ 57) ∨ b.toNat = 47
instance (b : UInt8) : Decidable (signP b) := inferInstanceAs (Decidable (_ ∨ _))
theorem sign_iff (b : UInt8) : nameSigns.contains b = decide (signP b) := by
  have h : ∀ n : Fin 256, nameSigns.contains (UInt8.ofNat n.val) = decide (signP (UInt8.ofNat n.val)) := by decide +kernel
  have := h ⟨b.toNat, b.toNat_lt⟩
  simpa using this
theorem nameOk_iff (s : Str) : nameOkS s = (decide (1 ≤ s.length) && decide (s.length ≤ 16) && s.all (fun b => decide (signP b))) := by
  unfold nameOkS
  have h1 : (fun b => nameSigns.contains b) = fun b => decide (signP b) := funext sign_iff
  rw [h1]
  cases s with
  | nil => rfl
  | cons a r => simp
set_option maxRecDepth 20000 in
theorem isObject_any (s : Str) (w : World) (hs : s.length ≤ 100000) :
    Calls Tryz.prog 86 #[S s] w fun e w' => e = .returned (.bool (nameOkS s)) ∧ Below w.heap.size w w' := by
  rw [nameOk_iff]
  go_enter Tryz.func86, Tryz.ntmps86
  go_wp2_with fail
  go_loopw [3] (fun i wr => ∃ k : Nat, k ≤ s.length ∧ i = .int .i64 k ∧ Hid (∀ j < k, ∀ x, s[j]? = some x → signP x) ∧ Below w.heap.size w wr) (fun i _ => s.length - (intOf i).toNat)
  case atStart => exact ⟨0, by omega, rfl, Lib.hid fun j hj => absurd hj (by omega), Below.refl _ _⟩
  case round =>
    obtain ⟨k, hk, rfl, hj, hb⟩ := hrel
    by_cases hlt : k < s.length
    case neg =>
      have f : decide ((k : Int) < (s.length : Int)) = false := by simp; omega
      have hall : s.all (fun b => decide (signP b)) = true := by
        rw [List.all_eq_true]
        intro x hx
        obtain ⟨j, hj'⟩ := List.getElem?_of_mem hx
        exact decide_eq_true (hj.out j (by have := (List.getElem?_eq_some_iff.1 hj').1; omega) x hj')
      have HA := Lib.hid hall; clear hall
      go_wp2_with fail
      all_goals
        go_ret
        refine ⟨ret_bool ?_, hb⟩
        rw [HA.out, Bool.eq_iff_iff]
        simp
        omega
    have f : (k : Int) < (s.length : Int) := by omega
    have hgk : s[k]? = some s[k] := by simp [hlt]
    go_wp2_with fail
    all_goals first
      | (refine ⟨⟨k + 1, by omega, by go_num, Lib.hid fun j hj' y hy => ?_, hb⟩, by simp [intOf]; omega⟩
         rcases Nat.lt_or_ge j k with h | h
         · exact hj.out j h y hy
         · obtain rfl : j = k := by omega
           rw [hgk] at hy
           cases hy
           clear hj hb hgk hk hj'
           unfold signP
           simp at *
           omega)
      | (go_ret
         refine ⟨ret_bool ?_, hb⟩
         have key : ¬ signP s[k] := by
           clear hj hb hgk hk
           unfold signP
           simp at *
           omega
         have hall : (s.all fun b => decide (signP b)) = false := by
           rw [List.all_eq_false]
           exact ⟨s[k], List.getElem_mem hlt, by simpa using key⟩
         rw [hall, Bool.and_false])
end Go.Proofs.YtpfohfihkmjnaaaGreatDoor
