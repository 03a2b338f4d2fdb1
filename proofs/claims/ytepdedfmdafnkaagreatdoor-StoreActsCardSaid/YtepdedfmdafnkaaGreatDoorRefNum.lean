/- deedboxref1: NumberOf, NumbersOf: the walks. -/
import Derived.Test.YtepdedfmdafnkaaGreatDoorRefNumP
import Derived.Test.YtepdedfmdafnkaaGreatDoorRefByte
import Derived.Test.YtepdedfmdafnkaaGreatDoorNums
import Derived.Deep.DeepCutAuto
namespace Go.Proofs.YtepdedfmdafnkaaGreatDoor
open Go.RowKit

theorem bget (l : List UInt8) (i : Nat) (h : i < (ByteArray.mk l.toArray).size) : (ByteArray.mk l.toArray)[i] = l[i]'(by simpa [ByteArray.size] using h) := rfl
attribute [local go_sem] bget

theorem num_none {s : Str} (h : numRef s = none) : Ending.returned (.tuple #[.int .i64 0, .bool false]) = Ending.returned (.tuple #[.int .i64 ((numRef s).getD 0), .bool (numRef s).isSome]) := by rw [h]; rfl
theorem num_some {s : Str} {n : Int} (h : numRef s = some n) : Ending.returned (.tuple #[.int .i64 n, .bool true]) = Ending.returned (.tuple #[.int .i64 ((numRef s).getD 0), .bool (numRef s).isSome]) := by rw [h]; rfl
theorem digOf_len (s : Str) : (digOf s).length ≤ s.length ∧ s.length ≤ (digOf s).length + 1 := by
  unfold digOf; split
  · simp; omega
  · omega
theorem digitVal_bad {x : UInt8} (h : (x.toNat : Int) < 48 ∨ 57 < (x.toNat : Int)) : Lib.digitVal x = none := by
  unfold Lib.digitVal; rw [if_neg (by omega)]
theorem digitVal_ok {x : UInt8} (h : 48 ≤ (x.toNat : Int)) (h2 : (x.toNat : Int) ≤ 57) : Lib.digitVal x = some (x.toNat - 48) := by
  unfold Lib.digitVal; rw [if_pos (by omega)]
theorem decFrom_bad {x : UInt8} : ∀ {l : Str} {k acc : Nat}, l[k]? = some x → Lib.digitVal x = none → Lib.decFrom acc l = none
  | [], k, acc, h, _ => by simp at h
  | c :: r, 0, acc, h, hd => by
    obtain rfl : c = x := by simpa using h
    simp [Lib.decFrom, hd]
  | c :: r, k + 1, acc, h, hd => by
    unfold Lib.decFrom
    split
    · exact decFrom_bad (k := k) (by simpa using h) hd
    · rfl
theorem decFrom_snoc {x : UInt8} {l : Str} {k u v : Nat} (h : l[k]? = some x) (hu : Lib.decFrom 0 (l.take k) = some u) (hv : Lib.digitVal x = some v) : Lib.decFrom 0 (l.take (k + 1)) = some (u * 10 + v) :=
  Lib.decFrom_take l k 0 u x v hu h hv
theorem head0 {s : Str} (h : 0 < s.length) : s.head? = some s[0] := by
  cases s with
  | nil => simp at h
  | cons c r => rfl

theorem extract_from (s : Str) (k : Nat) : (ByteArray.mk s.toArray).extract k s.length = ByteArray.mk (s.drop k).toArray := by
  rw [ByteArray.extract_mk, List.take_of_length_le (by simp)]

set_option maxRecDepth 20000 in
theorem numberOf_any (s : Str) (w : World) (hs : s.length ≤ 100000) :
    Calls Tryz.prog 88 #[S s] w fun e w' => e = .returned (.tuple #[.int .i64 ((numRef s).getD 0), .bool (numRef s).isSome]) ∧ w = w' := by
  have hdl := digOf_len s
  go_enter Tryz.func88, Tryz.ntmps88
  go_upto_if 10 with (fail)
  go_cut [4] (fun d wx => d = S (digOf s) ∧ w = wx)
  case first =>
    by_cases hn : s.length = 0
    · obtain rfl := List.eq_nil_of_length_eq_zero hn
      clear hdl
      go_wp2_with fail
      go_meet
      exact ⟨rfl, rfl⟩
    have hp : 1 ≤ (s.length : Int) := by omega
    have hp0 : 0 < s.length := by omega
    by_cases h45 : s[0] = 45
    · have g45 : ((s[0].toNat : Int) == 45) = true := by rw [h45]; rfl
      have hd : digOf s = s.drop 1 := by unfold digOf; rw [if_pos (by rw [head0 hp0, h45]), List.drop_one]
      have Hd := Lib.hid hd
      clear hn hd hdl h45
      go_wp2_with fail
      go_meet
      exact ⟨by rw [Hd.out, extract_from], rfl⟩
    · have g45 : ((s[0].toNat : Int) == 45) = false := by
        simp; intro h; apply h45; apply UInt8.toNat_inj.1; exact Int.ofNat.inj h
      have hd : digOf s = s := if_neg (by rw [head0 hp0]; simpa using h45)
      have Hd := Lib.hid hd
      clear hn hd hdl h45
      go_wp2_with fail
      go_meet
      exact ⟨by rw [Hd.out], rfl⟩
  case rest =>
    obtain ⟨rfl, rfl⟩ := hcut
    have hspec : numRef s = if (digOf s).length < 1 ∨ 11 < s.length then none
      else if (digOf s).head? = some 48 ∧ 1 < s.length then none
      else (Lib.decFrom 0 (digOf s)).map fun (u : Nat) => if (digOf s).length < s.length then -(u : Int) else (u : Int) := rfl
    generalize hdd : digOf s = d at hspec hdl ⊢
    clear hdd
    have Hs := Lib.hid hspec; clear hspec
    by_cases h1 : d.length < 1
    · have hr : numRef s = none := by rw [Hs.out, if_pos (.inl h1)]
      have g1 : (d.length : Int) < 1 := by omega
      have Hr := Lib.hid hr; clear hr
      go_wp2_with fail
      go_ret2
      exact ⟨num_none Hr.out, rfl⟩
    by_cases h2 : 11 < s.length
    · have hr : numRef s = none := by rw [Hs.out, if_pos (.inr h2)]
      have g1 : decide ((d.length : Int) < 1) = false := by simp; omega
      have g2 : (11 : Int) < s.length := by omega
      have Hr := Lib.hid hr; clear hr
      go_wp2_with fail
      go_ret2
      exact ⟨num_none Hr.out, rfl⟩
    have hp : 1 ≤ (d.length : Int) := by omega
    have hp0 : 0 < d.length := by omega
    have g1 : decide ((d.length : Int) < 1) = false := by simp; omega
    have g2 : decide ((11 : Int) < s.length) = false := by simp; omega
    by_cases h3 : d[0] = 48 ∧ 1 < s.length
    · have hr : numRef s = none := by rw [Hs.out, if_neg (by omega), if_pos ⟨by rw [head0 hp0, h3.1], h3.2⟩]
      have g3 : ((d[0].toNat : Int) == 48) = true := by rw [h3.1]; rfl
      have g4 : (1 : Int) < s.length := by omega
      have Hr := Lib.hid hr; clear hr h3
      go_wp2_with fail
      go_ret2
      exact ⟨num_none Hr.out, rfl⟩
    have hB : s.length ≤ 11 := by omega
    have hB2 : (d.length : Int) ≤ 11 := by omega
    have hr : numRef s = (Lib.decFrom 0 d).map fun (u : Nat) => if d.length < s.length then -(u : Int) else (u : Int) := by
      rw [Hs.out, if_neg (by omega), if_neg (by rw [head0 hp0]; simpa using h3)]
    have Hr := Lib.hid hr; clear hr Hs
    have g3 : ((d[0].toNat : Int) == 48) = false ∨ ((d[0].toNat : Int) == 48) = true ∧ decide ((1 : Int) < s.length) = false := by
      by_cases e : d[0] = 48
      · exact .inr ⟨by rw [e]; rfl, by simp; have : ¬ 1 < s.length := fun h => h3 ⟨e, h⟩
                                       omega⟩
      · refine .inl ?_
        simp; intro h; apply e; apply UInt8.toNat_inj.1; exact Int.ofNat.inj h
    clear h3 h1 h2
    rcases g3 with g3 | ⟨g3, g4⟩
    all_goals
      go_wp2_with fail
      go_loop [5, 6] (fun n i => ∃ k u : Nat, k ≤ d.length ∧ i = .int .i64 k ∧ n = .int .i64 u ∧ Hid (Lib.decFrom 0 (d.take k) = some u) ∧ (u : Int) ≤ 99999999999) (fun _ i => d.length - (intOf i).toNat)
      case atStart => exact ⟨0, 0, by omega, rfl, rfl, rfl, by omega⟩
      case round =>
        obtain ⟨k, u, hk, rfl, rfl, hu, hub⟩ := hrel
        by_cases hkd : k < d.length
        · have hx : d[k]? = some d[k] := by simp [hkd]
          have hk1 : (k : Int) < d.length := by omega
          have h255 : (d[k].toNat : Int) ≤ 255 := by have := d[k].toNat_lt; omega
          by_cases ha : (d[k].toNat : Int) < 48
          · have hn : numRef s = none := by rw [Hr.out, decFrom_bad hx (digitVal_bad (.inl ha))]; rfl
            have Hn := Lib.hid hn; clear hn hx
            go_wp2_with fail
            go_ret2
            exact ⟨num_none Hn.out, rfl⟩
          by_cases hb : 57 < (d[k].toNat : Int)
          · have hn : numRef s = none := by rw [Hr.out, decFrom_bad hx (digitVal_bad (.inr hb))]; rfl
            have ha' : decide ((d[k].toNat : Int) < 48) = false := by simpa using ha
            have Hn := Lib.hid hn; clear hn hx ha
            go_wp2_with fail
            go_ret2
            exact ⟨num_none Hn.out, rfl⟩
          have ha0 : 48 ≤ (d[k].toNat : Int) := by omega
          have hb0 : (d[k].toNat : Int) ≤ 57 := by omega
          have ha' : decide ((d[k].toNat : Int) < 48) = false := by simpa using ha
          have hb' : decide (57 < (d[k].toNat : Int)) = false := by simpa using hb
          have hsn := decFrom_snoc hx hu.out (digitVal_ok ha0 hb0)
          have hlt := decFrom_lt _ _ _ hsn
          have hlt2 : u * 10 + (d[k].toNat - 48) ≤ 99999999999 := by
            have h1 : (d.take (k + 1)).length ≤ 11 := by rw [List.length_take]; omega
            have h2 : 10 ^ (d.take (k + 1)).length ≤ 10 ^ 11 := Nat.pow_le_pow_right (by decide) h1
            have h3 : (10 : Nat) ^ 11 = 100000000000 := by decide
            omega
          have Hsn := Lib.hid hsn
          clear hlt hsn hx ha hb
          go_wp2_with fail
          go_round
          case rel => exact ⟨k + 1, u * 10 + (d[k].toNat - 48), by omega, by go_num, by go_num, Hsn.out, by omega⟩
          case measure => simp [intOf]; omega
        · obtain rfl : k = d.length := by omega
          have hu' : Lib.decFrom 0 d = some u := by have := hu.out; rwa [List.take_length] at this
          by_cases hlt' : d.length < s.length
          · have hn : numRef s = some (-(u : Int)) := by rw [Hr.out, hu', Option.map_some, if_pos hlt']
            have hl' : (d.length : Int) < s.length := by omega
            have Hn := Lib.hid hn; clear hn hu' hu
            go_wp2_with fail
            go_ret2
            exact ⟨num_some Hn.out, rfl⟩
          · have hn : numRef s = some (u : Int) := by rw [Hr.out, hu', Option.map_some, if_neg hlt']
            have hl' : (s.length : Int) ≤ d.length := by omega
            have Hn := Lib.hid hn; clear hn hu' hu
            go_wp2_with fail
            go_ret2
            exact ⟨num_some Hn.out, rfl⟩

theorem numbersOf_any (v : Value) (l : List Str) (w : World) (hl : StrsAt w v l) (hn : l.length ≤ 100000) (hs : ∀ s ∈ l, s.length ≤ 100000) :
    Calls Tryz.prog 67 #[v] w fun e w' => ∃ v', e = .returned (.tuple #[v', .bool (numsOf l).isSome]) ∧ (∀ ns, numsOf l = some ns → Own encI 3 1 w.heap.size w' v' ns) ∧ (numsOf l = none → v' = .slice none 0 0) ∧ Below w.heap.size w w' := by
  obtain ⟨a, c, b, o, rfl, ha, hc, hcm, hx⟩ := hl
  unfold maxLen at hcm
  go_enter Tryz.func67, Tryz.ntmps67
  go_wp2_with fail
  go_loopw [2, 3, 4, 5] (fun r1 r2 out i wr => r1 = .slice none 0 0 ∧ r2 = .bool false ∧ ∃ (k : Nat) (ns : List Int), k ≤ l.length ∧ i = .int .i64 k ∧ Hid ((l.take k).mapM numOf = some ns) ∧ Own encI 3 1 w.heap.size wr out ns ∧ Below w.heap.size w wr) (fun _ _ _ i _ => l.length - (intOf i).toNat)
  case atStart => exact ⟨rfl, rfl, 0, [], by omega, rfl, rfl, Own.nil _ _ _ _ _, Below.refl _ _⟩
  case round =>
    obtain ⟨rfl, rfl, k, ns, hk, rfl, hm, ho, hb⟩ := hrel
    by_cases hlt : k < l.length
    · obtain ⟨x, hxk⟩ := get_ex hlt
      have c1 := hx k x hxk 0 _ rfl
      have c1 := (hb.cell (World.block_lt_of_cell? w _ c1)).trans c1
      have i1 := idx_at (c := c) 1 Tryz.underlying41 szStr ha k hlt
      have hk1 : (k : Int) < (l.length : Int) := by omega
      simp only [Nat.mul_one, Nat.add_zero] at c1 i1
      have hxs : x.length ≤ 100000 := hs x (List.mem_of_getElem? hxk)
      have hsn := take_snoc' hxk
      have hlen : ns.length = k := by have := mapM_len _ hm.out; simp at this; omega
      have Hx := Lib.hid hsn; clear hsn hxk
      have Hlen := Lib.hid hlen; clear hlen
      cases hx0 : numOf x with
      | none =>
        have hN : numsOf l = none := by
          refine mapM_take_none _ _ (k + 1) ?_
          rw [Hx.out, mapM_snoc, hm.out]; simp [hx0]
        have h2 : (numRef x).isSome = false := by rw [numRef_eq, hx0]; rfl
        have HN := Lib.hid hN; clear hN
        have H0 := Lib.hid hx0; clear hx0
        go_wp2_with fail
        refine (numberOf_any x _ hxs).mono ?_
        rintro e w1 ⟨rfl, rfl⟩
        go_wp2_with fail
        go_ret2
        exact ⟨_, by rw [HN.out]; rfl, (fun ns h => by rw [HN.out] at h; cases h), (fun _ => rfl), hb⟩
      | some n =>
        have h2 : (numRef x).isSome = true := by rw [numRef_eq, hx0]; rfl
        have h3 : (numRef x).getD 0 = n := by rw [numRef_eq, hx0]; rfl
        have hm2 : (l.take (k + 1)).mapM numOf = some (ns ++ [n]) := by rw [Hx.out, mapM_snoc, hm.out]; simp [hx0]
        have HM := Lib.hid hm2; clear hm2
        have H0 := Lib.hid hx0; clear hx0
        have H3 := Lib.hid h3; clear h3
        go_wp2_with fail
        refine (numberOf_any x _ hxs).mono ?_
        rintro e w1 ⟨rfl, rfl⟩
        rw [H3.out]
        have ho1 := ho
        have hb2 := hb
        go_wp2_with (at_builtin; refine wpList_app rfl _ _ _ rfl w.heap.size elInt _ ns.length _ rfl (ho1.alloc _) (.slice (some ⟨wr.heap.size, 0, none⟩) 1 1) 1 (encI n) rfl (src_one rfl rfl (by simp [Value.oneCell'])) (by rw [Hlen.out]; unfold maxLen; omega) (by rw [Hlen.out]; omega) (by have := hb2.size; simp; omega) ?_; intro v' w2 hown hg _)
        go_roundw
        case rel => exact ⟨rfl, rfl, k + 1, ns ++ [n], by omega, by go_num, HM.out, Own.snoc hown, Bapp (hb2.alloc hb2.size _) (ho1.alloc _) hg (Nat.le_refl _) (by have := hb2.size; simp; omega)⟩
        case measure => simp [intOf]; omega
    · obtain rfl : k = l.length := by omega
      have hN : numsOf l = some ns := by have := hm.out; rwa [List.take_length] at this
      have HN := Lib.hid hN; clear hN
      go_wp2_with fail
      go_ret2
      exact ⟨_, by rw [HN.out]; rfl, (fun ms h => by rw [HN.out] at h; cases h; exact ho), (fun h => by rw [HN.out] at h; cases h), hb⟩
end Go.Proofs.YtepdedfmdafnkaaGreatDoor
