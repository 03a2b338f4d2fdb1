/- deedboxref1: NumberOf, NumbersOf: the walks. The document's answer on files: IsFar, IsName, PathOf, FileError, IsBehind: the walks. expire.Keep; deedboxref3.KeepOf: the walks. deedboxref3.KeepOf: the walk. -/
import Derived.Test.YtikboodjfanjkaaGreatDoorBx9
import Derived.Test.YtikboodjfanjkaaGreatDoorBx3
import Derived.Deep.DeepCutAuto
import Derived.Test.YtikboodjfanjkaaGreatDoorBx5
import Derived.Test.YtikboodjfanjkaaGreatDoorBx4
import Derived.Deep.CutBlock
import Derived.Deep.RegionWith
namespace Go.Proofs.YtikboodjfanjkaaGreatDoor
open Go.RowKit

theorem bget (l : List UInt8) (i : Nat) (h : i < (ByteArray.mk l.toArray).size) : (ByteArray.mk l.toArray)[i] = l[i]'(by simpa [ByteArray.size] using h) := rfl
attribute [local go_sem] bget

theorem num_none {s : Str} (h : numRef s = none) : Ending.returned (.tuple #[.int .i64 0, .bool false]) = Ending.returned (.tuple #[.int .i64 ((numRef s).getD 0), .bool (numRef s).isSome]) := by rw [h]; rfl
theorem num_some {s : Str} {n : Int} (h : numRef s = some n) : Ending.returned (.tuple #[.int .i64 n, .bool true]) = Ending.returned (.tuple #[.int .i64 ((numRef s).getD 0), .bool (numRef s).isSome]) := by rw [h]; rfl
theorem digOf_len (s : Str) : (digOf s).length ≤ s.length ∧ s.length ≤ (digOf s).length + 1 := by
  unfold digOf; split
  · simp; omega
  · omega
theorem digitVal_bad {x : UInt8} (h : (x.toNat : Int) < 48 ∨ 57 < (x.toNat : Int)) : Lib.digitVal x = none := by
  unfold Lib.digitVal; rw [if_neg (by omega)]
theorem digitVal_ok {x : UInt8} (h : 48 ≤ (x.toNat : Int)) (h2 : (x.toNat : Int) ≤ 57) : Lib.digitVal x = some (x.toNat - 48) := by
  unfold Lib.digitVal; rw [if_pos (by omega)]
theorem decFrom_bad {x : UInt8} : ∀ {l : Str} {k acc : Nat}, l[k]? = some x → Lib.digitVal x = none → Lib.decFrom acc l = none
  | [], k, acc, h, _ => by simp at h
  | c :: r, 0, acc, h, hd => by
    obtain rfl : c = x := by simpa using h
    simp [Lib.decFrom, hd]
  | c :: r, k + 1, acc, h, hd => by
    unfold Lib.decFrom
    split
    · exact decFrom_bad (k := k) (by simpa using h) hd
    · rfl
theorem decFrom_snoc {x : UInt8} {l : Str} {k u v : Nat} (h : l[k]? = some x) (hu : Lib.decFrom 0 (l.take k) = some u) (hv : Lib.digitVal x = some v) : Lib.decFrom 0 (l.take (k + 1)) = some (u * 10 + v) :=
  Lib.decFrom_take l k 0 u x v hu h hv
theorem head0 {s : Str} (h : 0 < s.length) : s.head? = some s[0] := by
  cases s with
  | nil => simp at h
  | cons c r => rfl

theorem extract_from (s : Str) (k : Nat) : (ByteArray.mk s.toArray).extract k s.length = ByteArray.mk (s.drop k).toArray := by
  rw [ByteArray.extract_mk, List.take_of_length_le (by simp)]

set_option maxRecDepth 20000 in
theorem numberOf_any (s : Str) (w : World) (hs : s.length ≤ 100000) :
    Calls Tryz.prog 123 #[S s] w fun e w' => e = .returned (.tuple #[.int .i64 ((numRef s).getD 0), .bool (numRef s).isSome]) ∧ w = w' := by
  have hdl := digOf_len s
  go_enter Tryz.func123, Tryz.ntmps123
  go_upto_if 10 with (fail)
  go_cut [4] (fun d wx => d = S (digOf s) ∧ w = wx)
  case first =>
    by_cases hn : s.length = 0
    · obtain rfl := List.eq_nil_of_length_eq_zero hn
      clear hdl
      go_wp2_with fail
      go_meet
      exact ⟨rfl, rfl⟩
    have hp : 1 ≤ (s.length : Int) := by omega
    have hp0 : 0 < s.length := by omega
    by_cases h45 : s[0] = 45
    · have g45 : ((s[0].toNat : Int) == 45) = true := by rw [h45]; rfl
      have hd : digOf s = s.drop 1 := by unfold digOf; rw [if_pos (by rw [head0 hp0, h45]), List.drop_one]
      have Hd := Lib.hid hd
      clear hn hd hdl h45
      go_wp2_with fail
      go_meet
      exact ⟨by rw [Hd.out, extract_from], rfl⟩
    · have g45 : ((s[0].toNat : Int) == 45) = false := by
        simp; intro h; apply h45; apply UInt8.toNat_inj.1; exact Int.ofNat.inj h
      have hd : digOf s = s := if_neg (by rw [head0 hp0]; simpa using h45)
      have Hd := Lib.hid hd
      clear hn hd hdl h45
      go_wp2_with fail
      go_meet
      exact ⟨by rw [Hd.out], rfl⟩
  case rest =>
    obtain ⟨rfl, rfl⟩ := hcut
    have hspec : numRef s = if (digOf s).length < 1 ∨ 11 < s.length then none
      else if (digOf s).head? = some 48 ∧ 1 < s.length then none
      else (Lib.decFrom 0 (digOf s)).map fun (u : Nat) => if (digOf s).length < s.length then -(u : Int) else (u : Int) := rfl
    generalize hdd : digOf s = d at hspec hdl ⊢
    clear hdd
    have Hs := Lib.hid hspec; clear hspec
    by_cases h1 : d.length < 1
    · have hr : numRef s = none := by rw [Hs.out, if_pos (.inl h1)]
      have g1 : (d.length : Int) < 1 := by omega
      have Hr := Lib.hid hr; clear hr
      go_wp2_with fail
      go_ret2
      exact ⟨num_none Hr.out, rfl⟩
    by_cases h2 : 11 < s.length
    · have hr : numRef s = none := by rw [Hs.out, if_pos (.inr h2)]
      have g1 : decide ((d.length : Int) < 1) = false := by simp; omega
      have g2 : (11 : Int) < s.length := by omega
      have Hr := Lib.hid hr; clear hr
      go_wp2_with fail
      go_ret2
      exact ⟨num_none Hr.out, rfl⟩
    have hp : 1 ≤ (d.length : Int) := by omega
    have hp0 : 0 < d.length := by omega
    have g1 : decide ((d.length : Int) < 1) = false := by simp; omega
    have g2 : decide ((11 : Int) < s.length) = false := by simp; omega
    by_cases h3 : d[0] = 48 ∧ 1 < s.length
    · have hr : numRef s = none := by rw [Hs.out, if_neg (by omega), if_pos ⟨by rw [head0 hp0, h3.1], h3.2⟩]
      have g3 : ((d[0].toNat : Int) == 48) = true := by rw [h3.1]; rfl
      have g4 : (1 : Int) < s.length := by omega
      have Hr := Lib.hid hr; clear hr h3
      go_wp2_with fail
      go_ret2
      exact ⟨num_none Hr.out, rfl⟩
    have hB : s.length ≤ 11 := by omega
    have hB2 : (d.length : Int) ≤ 11 := by omega
    have hr : numRef s = (Lib.decFrom 0 d).map fun (u : Nat) => if d.length < s.length then -(u : Int) else (u : Int) := by
      rw [Hs.out, if_neg (by omega), if_neg (by rw [head0 hp0]; simpa using h3)]
    have Hr := Lib.hid hr; clear hr Hs
    have g3 : ((d[0].toNat : Int) == 48) = false ∨ ((d[0].toNat : Int) == 48) = true ∧ decide ((1 : Int) < s.length) = false := by
      by_cases e : d[0] = 48
      · exact .inr ⟨by rw [e]; rfl, by simp; have : ¬ 1 < s.length := fun h => h3 ⟨e, h⟩
                                       omega⟩
      · refine .inl ?_
        simp; intro h; apply e; apply UInt8.toNat_inj.1; exact Int.ofNat.inj h
    clear h3 h1 h2
    rcases g3 with g3 | ⟨g3, g4⟩
    all_goals
      go_wp2_with fail
      go_loop [5, 6] (fun n i => ∃ k u : Nat, k ≤ d.length ∧ i = .int .i64 k ∧ n = .int .i64 u ∧ Hid (Lib.decFrom 0 (d.take k) = some u) ∧ (u : Int) ≤ 99999999999) (fun _ i => d.length - (intOf i).toNat)
      case atStart => exact ⟨0, 0, by omega, rfl, rfl, rfl, by omega⟩
      case round =>
        obtain ⟨k, u, hk, rfl, rfl, hu, hub⟩ := hrel
        by_cases hkd : k < d.length
        · have hx : d[k]? = some d[k] := by simp [hkd]
          have hk1 : (k : Int) < d.length := by omega
          have h255 : (d[k].toNat : Int) ≤ 255 := by have := d[k].toNat_lt; omega
          by_cases ha : (d[k].toNat : Int) < 48
          · have hn : numRef s = none := by rw [Hr.out, decFrom_bad hx (digitVal_bad (.inl ha))]; rfl
            have Hn := Lib.hid hn; clear hn hx
            go_wp2_with fail
            go_ret2
            exact ⟨num_none Hn.out, rfl⟩
          by_cases hb : 57 < (d[k].toNat : Int)
          · have hn : numRef s = none := by rw [Hr.out, decFrom_bad hx (digitVal_bad (.inr hb))]; rfl
            have ha' : decide ((d[k].toNat : Int) < 48) = false := by simpa using ha
            have Hn := Lib.hid hn; clear hn hx ha
            go_wp2_with fail
            go_ret2
            exact ⟨num_none Hn.out, rfl⟩
          have ha0 : 48 ≤ (d[k].toNat : Int) := by omega
          have hb0 : (d[k].toNat : Int) ≤ 57 := by omega
          have ha' : decide ((d[k].toNat : Int) < 48) = false := by simpa using ha
          have hb' : decide (57 < (d[k].toNat : Int)) = false := by simpa using hb
          have hsn := decFrom_snoc hx hu.out (digitVal_ok ha0 hb0)
          have hlt := decFrom_lt _ _ _ hsn
          have hlt2 : u * 10 + (d[k].toNat - 48) ≤ 99999999999 := by
            have h1 : (d.take (k + 1)).length ≤ 11 := by rw [List.length_take]; omega
            have h2 : 10 ^ (d.take (k + 1)).length ≤ 10 ^ 11 := Nat.pow_le_pow_right (by decide) h1
            have h3 : (10 : Nat) ^ 11 = 100000000000 := by decide
            omega
          have Hsn := Lib.hid hsn
          clear hlt hsn hx ha hb
          go_wp2_with fail
          go_round
          case rel => exact ⟨k + 1, u * 10 + (d[k].toNat - 48), by omega, by go_num, by go_num, Hsn.out, by omega⟩
          case measure => simp [intOf]; omega
        · obtain rfl : k = d.length := by omega
          have hu' : Lib.decFrom 0 d = some u := by have := hu.out; rwa [List.take_length] at this
          by_cases hlt' : d.length < s.length
          · have hn : numRef s = some (-(u : Int)) := by rw [Hr.out, hu', Option.map_some, if_pos hlt']
            have hl' : (d.length : Int) < s.length := by omega
            have Hn := Lib.hid hn; clear hn hu' hu
            go_wp2_with fail
            go_ret2
            exact ⟨num_some Hn.out, rfl⟩
          · have hn : numRef s = some (u : Int) := by rw [Hr.out, hu', Option.map_some, if_neg hlt']
            have hl' : (s.length : Int) ≤ d.length := by omega
            have Hn := Lib.hid hn; clear hn hu' hu
            go_wp2_with fail
            go_ret2
            exact ⟨num_some Hn.out, rfl⟩

theorem numbersOf_any (v : Value) (l : List Str) (w : World) (hl : StrsAt w v l) (hn : l.length ≤ 100000) (hs : ∀ s ∈ l, s.length ≤ 100000) :
    Calls Tryz.prog 122 #[v] w fun e w' => ∃ v', e = .returned (.tuple #[v', .bool (numsOf l).isSome]) ∧ (∀ ns, numsOf l = some ns → Own encI 3 1 w.heap.size w' v' ns) ∧ (numsOf l = none → v' = .slice none 0 0) ∧ Below w.heap.size w w' := by
  obtain ⟨a, c, b, o, rfl, ha, hc, hcm, hx⟩ := hl
  unfold maxLen at hcm
  go_enter Tryz.func122, Tryz.ntmps122
  go_wp2_with fail
  go_loopw [2, 3, 4, 5] (fun r1 r2 out i wr => r1 = .slice none 0 0 ∧ r2 = .bool false ∧ ∃ (k : Nat) (ns : List Int), k ≤ l.length ∧ i = .int .i64 k ∧ Hid ((l.take k).mapM numOf = some ns) ∧ Own encI 3 1 w.heap.size wr out ns ∧ Below w.heap.size w wr) (fun _ _ _ i _ => l.length - (intOf i).toNat)
  case atStart => exact ⟨rfl, rfl, 0, [], by omega, rfl, rfl, Own.nil _ _ _ _ _, Below.refl _ _⟩
  case round =>
    obtain ⟨rfl, rfl, k, ns, hk, rfl, hm, ho, hb⟩ := hrel
    by_cases hlt : k < l.length
    · obtain ⟨x, hxk⟩ := get_ex hlt
      have c1 := hx k x hxk 0 _ rfl
      have c1 := (hb.cell (World.block_lt_of_cell? w _ c1)).trans c1
      have i1 := idx_at (c := c) 1 Tryz.underlying24 szStr ha k hlt
      have hk1 : (k : Int) < (l.length : Int) := by omega
      simp only [Nat.mul_one, Nat.add_zero] at c1 i1
      have hxs : x.length ≤ 100000 := hs x (List.mem_of_getElem? hxk)
      have hsn := take_snoc' hxk
      have hlen : ns.length = k := by have := mapM_len _ hm.out; simp at this; omega
      have Hx := Lib.hid hsn; clear hsn hxk
      have Hlen := Lib.hid hlen; clear hlen
      cases hx0 : numOf x with
      | none =>
        have hN : numsOf l = none := by
          refine mapM_take_none _ _ (k + 1) ?_
          rw [Hx.out, mapM_snoc, hm.out]; simp [hx0]
        have h2 : (numRef x).isSome = false := by rw [numRef_eq, hx0]; rfl
        have HN := Lib.hid hN; clear hN
        have H0 := Lib.hid hx0; clear hx0
        go_wp2_with fail
        refine (numberOf_any x _ hxs).mono ?_
        rintro e w1 ⟨rfl, rfl⟩
        go_wp2_with fail
        go_ret2
        exact ⟨_, by rw [HN.out]; rfl, (fun ns h => by rw [HN.out] at h; cases h), (fun _ => rfl), hb⟩
      | some n =>
        have h2 : (numRef x).isSome = true := by rw [numRef_eq, hx0]; rfl
        have h3 : (numRef x).getD 0 = n := by rw [numRef_eq, hx0]; rfl
        have hm2 : (l.take (k + 1)).mapM numOf = some (ns ++ [n]) := by rw [Hx.out, mapM_snoc, hm.out]; simp [hx0]
        have HM := Lib.hid hm2; clear hm2
        have H0 := Lib.hid hx0; clear hx0
        have H3 := Lib.hid h3; clear h3
        go_wp2_with fail
        refine (numberOf_any x _ hxs).mono ?_
        rintro e w1 ⟨rfl, rfl⟩
        rw [H3.out]
        have ho1 := ho
        have hb2 := hb
        go_wp2_with (at_builtin; refine wpList_app rfl _ _ _ rfl w.heap.size elInt _ ns.length _ rfl (ho1.alloc _) (.slice (some ⟨wr.heap.size, 0, none⟩) 1 1) 1 (encI n) rfl (src_one rfl rfl (by simp [Value.oneCell'])) (by rw [Hlen.out]; unfold maxLen; omega) (by rw [Hlen.out]; omega) (by have := hb2.size; simp; omega) ?_; intro v' w2 hown hg _)
        go_roundw
        case rel => exact ⟨rfl, rfl, k + 1, ns ++ [n], by omega, by go_num, HM.out, Own.snoc hown, Bapp (hb2.alloc hb2.size _) (ho1.alloc _) hg (Nat.le_refl _) (by have := hb2.size; simp; omega)⟩
        case measure => simp [intOf]; omega
    · obtain rfl : k = l.length := by omega
      have hN : numsOf l = some ns := by have := hm.out; rwa [List.take_length] at this
      have HN := Lib.hid hN; clear hN
      go_wp2_with fail
      go_ret2
      exact ⟨_, by rw [HN.out]; rfl, (fun ms h => by rw [HN.out] at h; cases h; exact ho), (fun h => by rw [HN.out] at h; cases h), hb⟩
end Go.Proofs.YtikboodjfanjkaaGreatDoor
namespace Go.Proofs.YtikboodjfanjkaaGreatDoor
open Go.RowKit

/-- s[:k], s[k:], s[k] of a text. -/
theorem str_to {P : Program} {t : TypeId} (ht : P.underlying t = some .string) (p : Str) (k : Nat) (hk : k ≤ p.length) (_hp : p.length ≤ 100000) : ∀ W, (Instr.slice t (S p) none (some (.int .i64 (k : Int))) none).run P W = .ok (S (p.take k)) W := fun W => by
  have h1 : (k : Int) ≤ (p.length : Int) := by omega
  have h2 : (0 : Int) ≤ (k : Int) := by omega
  simp [Instr.slice, Instr.sliceBounds, run_underlying ht, go_sem, h1, h2, ByteArray.extract_mk]
theorem str_from {P : Program} {t : TypeId} (ht : P.underlying t = some .string) (p : Str) (k : Nat) (hk : k ≤ p.length) (_hp : p.length ≤ 100000) : ∀ W, (Instr.slice t (S p) (some (.int .i64 (k : Int))) none none).run P W = .ok (S (p.drop k)) W := fun W => by
  have h1 : (k : Int) ≤ (p.length : Int) := by omega
  have h2 : (0 : Int) ≤ (k : Int) := by omega
  simp [Instr.slice, Instr.sliceBounds, run_underlying ht, go_sem, h1, h2, extract_from]
theorem str_at {P : Program} {t : TypeId} (ht : P.underlying t = some .string) (p : Str) (k : Nat) (c : UInt8) (hk : p[k]? = some c) : ∀ W, (Instr.index t (S p) (.int .i64 (k : Int))).run P W = .ok (.int .u8 c.toNat) W := fun W => by
  obtain ⟨h1, h2⟩ := List.getElem?_eq_some_iff.1 hk
  have h4 : (ByteArray.mk p.toArray)[k]? = some c := by
    rw [getElem?_pos _ _ (by simpa [ByteArray.size] using h1)]; exact congrArg some h2
  simp [Instr.index, run_underlying ht, asIntOf, h4]

theorem isFar_any (n : Int) (w : World) :
    Calls Tryz.prog 58 #[.int .i64 n] w fun e w' => e = .returned (.bool (decide (farN n))) ∧ w = w' := by
  by_cases h1 : n < -1073741824
  · have g : decide (farN n) = true := decide_eq_true (.inl h1)
    rw [g]
    clear g
    go_enter Tryz.func58, Tryz.ntmps58
    go_wp2_with fail
    go_ret
    exact ⟨rfl, rfl⟩
  · have g1 : decide (n < -1073741824) = false := by simpa using h1
    by_cases h2 : 1073741824 < n
    · have g : decide (farN n) = true := decide_eq_true (.inr h2)
      rw [g]
      clear g h1
      go_enter Tryz.func58, Tryz.ntmps58
      go_wp2_with fail
      go_ret
      exact ⟨rfl, rfl⟩
    · have g : decide (farN n) = false := decide_eq_false (fun h => h.elim h1 h2)
      have g2 : decide (1073741824 < n) = false := by simpa using h2
      rw [g]
      clear g h1 h2
      go_enter Tryz.func58, Tryz.ntmps58
      go_wp2_with fail
      go_ret
      exact ⟨rfl, rfl⟩

def signB (b : UInt8) : Bool := (decide (97 ≤ b.toNat) && decide (b.toNat ≤ 122)) || (decide (48 ≤ b.toNat) && decide (b.toNat ≤ 57))
theorem signB_eq (b : UInt8) : partSigns.contains b = signB b := by
  have h : ∀ k : UInt8, (b == k) = (b.toNat == k.toNat) := fun k => by
    rw [Bool.eq_iff_iff]; simp [← UInt8.toNat_inj]
  rw [Bool.eq_iff_iff]
  simp only [partSigns, List.contains_cons, List.contains_nil, Bool.or_false, h, signB]
  simp
  omega
/-- Is a text a name, of so many signs at most? -/
def nameB (s : Str) (m : Int) : Bool := s.all signB && (decide (1 ≤ s.length) && decide ((s.length : Int) ≤ m))
theorem nameB_part {k s : Str} (hk : k ≠ kGone) : partOk k s = nameB s 12 := by
  unfold partOk nameB
  rw [if_neg hk]
  have e : (s.all fun b => partSigns.contains b) = s.all signB := by congr 1; funext b; exact signB_eq b
  rw [e, Bool.eq_iff_iff]
  have hn : s ≠ [] ↔ 1 ≤ s.length := by cases s <;> simp
  simp only [Bool.and_eq_true, decide_eq_true_eq, hn]
  exact ⟨fun ⟨h1, h2, h3⟩ => ⟨h3, h1, by omega⟩, fun ⟨h1, h2, h3⟩ => ⟨h2, by omega, h1⟩⟩
theorem all_take {s : Str} {k : Nat} {x : UInt8} (h : s[k]? = some x) : (s.take (k + 1)).all signB = ((s.take k).all signB && signB x) := by
  rw [List.take_add_one, h]; simp
theorem sign_ways (b : UInt8) : (signB b = true ∧ (((97 : Int) ≤ b.toNat ∧ (b.toNat : Int) ≤ 122) ∨ (decide ((97 : Int) ≤ b.toNat) = false ∧ (48 : Int) ≤ b.toNat ∧ (b.toNat : Int) ≤ 57))) ∨
    (signB b = false ∧ (((97 : Int) ≤ b.toNat ∧ decide ((b.toNat : Int) ≤ 122) = false ∧ (48 : Int) ≤ b.toNat ∧ decide ((b.toNat : Int) ≤ 57) = false) ∨ (decide ((97 : Int) ≤ b.toNat) = false ∧ (48 : Int) ≤ b.toNat ∧ decide ((b.toNat : Int) ≤ 57) = false) ∨ (decide ((97 : Int) ≤ b.toNat) = false ∧ decide ((48 : Int) ≤ b.toNat) = false))) := by
  unfold signB
  simp
  omega
set_option maxHeartbeats 1000000 in
set_option maxRecDepth 20000 in
theorem isName_any (s : Str) (m : Int) (w : World) (hs : s.length ≤ 100000) :
    Calls Tryz.prog 139 #[S s, .int .i64 m] w fun e w' => e = .returned (.bool (nameB s m)) ∧ w = w' := by
  go_enter Tryz.func139, Tryz.ntmps139
  go_wp2_with fail
  go_loop [5] (fun i => ∃ k : Nat, k ≤ s.length ∧ i = .int .i64 k ∧ Hid ((s.take k).all signB = true)) (fun i => s.length - (intOf i).toNat)
  case atStart => exact ⟨0, by omega, rfl, rfl⟩
  case round =>
    obtain ⟨k, hk, rfl, hj⟩ := hrel
    by_cases hlt : k < s.length
    case neg =>
      obtain rfl : k = s.length := by omega
      have hall := hj.out
      rw [List.take_length] at hall
      have HN : Hid (nameB s m = (decide (1 ≤ s.length) && decide ((s.length : Int) ≤ m))) := Lib.hid (by unfold nameB; rw [hall, Bool.true_and])
      clear hall hj
      by_cases h1 : 1 ≤ s.length
      · have g1 : (1 : Int) ≤ (s.length : Int) := by omega
        by_cases h2 : (s.length : Int) ≤ m
        · go_wp2_with fail
          go_ret
          exact ⟨by rw [HN.out, decide_eq_true h1, decide_eq_true h2]; rfl, rfl⟩
        · have g2 : decide ((s.length : Int) ≤ m) = false := by simpa using h2
          clear h2
          go_wp2_with fail
          go_ret
          exact ⟨by rw [HN.out, decide_eq_true h1, g2]; rfl, rfl⟩
      · have g1 : decide ((1 : Int) ≤ (s.length : Int)) = false := by simp; omega
        have g1' : decide (1 ≤ s.length) = false := decide_eq_false h1
        clear h1
        go_wp2_with fail
        go_ret
        exact ⟨by rw [HN.out, g1']; rfl, rfl⟩
    have hlt' : (k : Int) < s.length := by omega
    obtain ⟨x, hx⟩ := get_ex hlt
    have hat := str_at (P := Tryz.prog) Tryz.underlying9 s k x hx
    have hst := all_take hx
    have hmem := List.mem_of_getElem? hx
    have HSt := Lib.hid hst; have HMem := Lib.hid hmem
    clear hx hst hmem
    rcases sign_ways x with ⟨hb, hw⟩ | ⟨hb, hw⟩
    · have Hb := Lib.hid hb; clear hb
      rcases hw with ⟨g1, g2⟩ | ⟨g1, g2, g3⟩
      · have g3 : (0 : Int) ≤ x.toNat := by omega
        by_cases g4 : (48 : Int) ≤ x.toNat
        · by_cases g5 : (x.toNat : Int) ≤ 57
          · omega
          · have g5' : decide ((x.toNat : Int) ≤ 57) = false := by simpa using g5
            clear g5
            go_wp2_with fail
            refine ⟨⟨k + 1, by omega, by go_num, Lib.hid (by rw [HSt.out, hj.out, Hb.out]; rfl)⟩, ?_⟩
            simp [intOf]; omega
        · omega
      · go_wp2_with fail
        refine ⟨⟨k + 1, by omega, by go_num, Lib.hid (by rw [HSt.out, hj.out, Hb.out]; rfl)⟩, ?_⟩
        simp [intOf]; omega
    · have HN : Hid (nameB s m = false) := Lib.hid (by
        unfold nameB
        rw [show s.all signB = false from ?_, Bool.false_and]
        rw [← Bool.not_eq_true]
        intro h
        rw [List.all_eq_true] at h
        have := h x HMem.out
        rw [hb] at this; cases this)
      clear hb
      rcases hw with ⟨g1, g2, g3, g4⟩ | ⟨g1, g2, g3⟩ | ⟨g1, g2⟩
      all_goals
        go_wp2_with fail
        go_ret
        exact ⟨by rw [HN.out]; rfl, rfl⟩

theorem path_of_parts {k q : Str} (hk : k = kData ∨ k = kGone) : pathF (k ++ 47 :: q) = (numOf q).bind fun n => if n < 1 ∨ 1073741824 < n then none else some (k, n) := by
  have hc : Lib.cut (k ++ 47 :: q) [47] = (k, q, true) := cut_app1 (c := 47) (p := k) (q := q) (by rcases hk with rfl | rfl <;> decide)
  unfold pathF
  rw [hc, if_pos ⟨rfl, hk⟩]
theorem itoa_pos (n : Int) (_h : 0 ≤ n) : 1 ≤ (Lib.itoa n).length := by
  rcases hd : Lib.itoa n with _ | ⟨c, r⟩
  · have h1 := atoi_itoa n
    rw [hd] at h1; cases h1
  · simp
theorem path_long {p : Str} (h : (pathF p).isSome = true) : ∃ k c q, p = k ++ c :: q ∧ (k = kData ∨ k = kGone) ∧ c = 47 ∧ 1 ≤ q.length := by
  obtain ⟨⟨k, n⟩, hp⟩ := Option.isSome_iff_exists.1 h
  obtain ⟨h1, h2, h3, h4⟩ := pathF_form hp
  exact ⟨k, 47, Lib.itoa n, h1, h2, rfl, itoa_pos n (by omega)⟩
theorem path_len4 {k : Str} (h : k = kData ∨ k = kGone) : k.length = 4 := by rcases h with rfl | rfl <;> rfl

/-- Where a path may fail, and what it is. -/
theorem pathOf_ways (p : Str) : (pathF p = none ∧ (p.length < 6 ∨ (6 ≤ p.length ∧ ∃ k c q, p.take 4 = k ∧ p[4]? = some c ∧ p.drop 5 = q ∧
      ((k ≠ kData ∧ k ≠ kGone) ∨ ((k = kData ∨ k = kGone) ∧ (c ≠ 47 ∨ (c = 47 ∧ (numRef q = none ∨ ∃ n, numRef q = some n ∧ (n < 1 ∨ (1 ≤ n ∧ 1073741824 < n))))))))) ) ∨
    (6 ≤ p.length ∧ ∃ k q n, p.take 4 = k ∧ p[4]? = some 47 ∧ p.drop 5 = q ∧ (k = kData ∨ k = kGone) ∧ numRef q = some n ∧ 1 ≤ n ∧ n ≤ 1073741824 ∧ pathF p = some (k, n)) := by
  by_cases h6 : p.length < 6
  · refine .inl ⟨?_, .inl h6⟩
    rw [← Option.not_isSome_iff_eq_none]
    intro h
    obtain ⟨k, c, q, rfl, hk, rfl, hq⟩ := path_long h
    have := path_len4 hk
    simp at h6
    omega
  · have h6' : 6 ≤ p.length := by omega
    obtain ⟨c, hc⟩ : ∃ c, p[4]? = some c := ⟨p[4], List.getElem?_eq_getElem (by omega)⟩
    have hp : p = p.take 4 ++ c :: p.drop 5 := by
      have h1 : p.drop 4 = c :: p.drop 5 := by
        obtain ⟨h2, h3⟩ := List.getElem?_eq_some_iff.1 hc
        rw [← h3]; exact List.drop_eq_getElem_cons h2
      rw [← h1, List.take_append_drop]
    have hk4 : (p.take 4).length = 4 := by rw [List.length_take]; omega
    generalize hk : p.take 4 = k at *
    generalize hq : p.drop 5 = q at *
    have hnone : ∀ (x : Str × Int), pathF p = some x → (k = kData ∨ k = kGone) ∧ c = 47 := fun x hx => by
      obtain ⟨k', c', q', h1, h2, h3, _⟩ := path_long (p := p) (by rw [hx]; rfl)
      rw [h1] at hp
      have h4 := path_len4 h2
      have h5 := List.append_inj hp (by omega)
      obtain ⟨rfl, h6⟩ := h5
      simp at h6
      exact ⟨h2, h6.1 ▸ h3⟩
    have no : ¬ ((k = kData ∨ k = kGone) ∧ c = 47) → pathF p = none := fun h => by
      cases hpf : pathF p with
      | none => rfl
      | some x => exact absurd (hnone x hpf) h
    by_cases h1 : k = kData ∨ k = kGone
    · by_cases h2 : c = 47
      · subst h2
        have hpp := path_of_parts (q := q) h1
        rw [← hp] at hpp
        cases hn : numRef q with
        | none => exact .inl ⟨by rw [hpp, ← numRef_eq, hn]; rfl, .inr ⟨h6', k, 47, q, rfl, hc, rfl, .inr ⟨h1, .inr ⟨rfl, .inl hn⟩⟩⟩⟩
        | some n =>
          rw [← numRef_eq, hn, Option.bind_some] at hpp
          by_cases h3 : n < 1
          · exact .inl ⟨by rw [hpp, if_pos (.inl h3)], .inr ⟨h6', k, 47, q, rfl, hc, rfl, .inr ⟨h1, .inr ⟨rfl, .inr ⟨n, hn, .inl h3⟩⟩⟩⟩⟩
          · by_cases h4 : 1073741824 < n
            · exact .inl ⟨by rw [hpp, if_pos (.inr h4)], .inr ⟨h6', k, 47, q, rfl, hc, rfl, .inr ⟨h1, .inr ⟨rfl, .inr ⟨n, hn, .inr ⟨by omega, h4⟩⟩⟩⟩⟩⟩
            · exact .inr ⟨h6', k, q, n, rfl, hc, rfl, h1, hn, by omega, by omega, by rw [hpp, if_neg (by omega)]⟩
      · exact .inl ⟨no fun h => h2 h.2, .inr ⟨h6', k, c, q, rfl, hc, rfl, .inr ⟨h1, .inl h2⟩⟩⟩
    · exact .inl ⟨no fun h => h1 h.1, .inr ⟨h6', k, c, q, rfl, hc, rfl, .inl ⟨fun h => h1 (.inl h), fun h => h1 (.inr h)⟩⟩⟩

def pathE (p : Str) : Int := if (pathF p).isSome then 0 else 5
set_option maxHeartbeats 1000000 in
set_option maxRecDepth 20000 in
theorem pathOf_any (p : Str) (w : World) (hs : p.length ≤ 100000) :
    Calls Tryz.prog 138 #[S p] w fun e w' => e = .returned (.tuple #[S (kindF p), .int .i64 (numF p), .int .i64 (pathE p)]) ∧ w = w' := by
  have hK : kindF p = ((pathF p).getD ([], 0)).1 := rfl
  have hN : numF p = ((pathF p).getD ([], 0)).2 := rfl
  have hE : pathE p = if (pathF p).isSome then 0 else 5 := rfl
  rcases pathOf_ways p with ⟨hp, hw⟩ | ⟨h6, k, q, n, hk, hc, hq, hk2, hn, h1, h2, hp⟩
  · rw [hp] at hK hN hE
    rw [hK, hN, hE]
    clear hK hN hE hp
    rcases hw with h6 | ⟨h6, k, c, q, hk, hc, hq, hw⟩
    · have g6 : (p.length : Int) < 6 := by omega
      go_enter Tryz.func138, Tryz.ntmps138
      go_wp2_with fail
      go_ret3
      exact ⟨rfl, rfl⟩
    have g6 : decide ((p.length : Int) < 6) = false := by simp; omega
    have s4 := str_to (P := Tryz.prog) Tryz.underlying9 p 4 (by omega) hs
    have s5 := str_from (P := Tryz.prog) Tryz.underlying9 p 5 (by omega) hs
    have a4 := str_at (P := Tryz.prog) Tryz.underlying9 p 4 c hc
    rw [hk] at s4; rw [hq] at s5
    have e4 : ((4 : Nat) : Int) = 4 := rfl
    have e5 : ((5 : Nat) : Int) = 5 := rfl
    rw [e4] at s4 a4; rw [e5] at s5
    have hql : q.length ≤ 100000 := by rw [← hq, List.length_drop]; omega
    have hno := numberOf_any q w hql
    have HNo := Lib.hid hno
    clear hk hc hq e4 e5 hno h6
    rcases hw with ⟨g1, g2⟩ | ⟨hk2, g3 | ⟨rfl, hn | ⟨n, hn, h1 | ⟨h1, h2⟩⟩⟩⟩
    · have g1' : (k == kData) = false := by simpa using g1
      have g2' : (k == kGone) = false := by simpa using g2
      clear g1 g2
      generalize numRef q = nr at *
      go_enter Tryz.func138, Tryz.ntmps138
      go_wp2_with (go_at_call 123; refine HNo.out.mono ?_; rintro e w' ⟨rfl, rfl⟩)
      go_ret3
      exact ⟨rfl, rfl⟩
    · have g3' : ((c.toNat : Int) != 47) = true := by
        simp only [bne_iff_ne, ne_eq]
        intro h
        exact g3 (UInt8.toNat_inj.1 (by have : c.toNat = 47 := by omega
                                        rw [this]; rfl))
      clear g3
      generalize numRef q = nr at *
      rcases hk2 with rfl | rfl
      all_goals
        go_enter Tryz.func138, Tryz.ntmps138
        go_wp2_with (go_at_call 123; refine HNo.out.mono ?_; rintro e w' ⟨rfl, rfl⟩)
        go_ret3
        exact ⟨rfl, rfl⟩
    · rw [hn] at HNo
      have e47 : (((47 : UInt8).toNat : Int)) = 47 := rfl
      rw [e47] at a4
      clear hn e47
      rcases hk2 with rfl | rfl
      all_goals
        go_enter Tryz.func138, Tryz.ntmps138
        go_wp2_with (go_at_call 123; refine HNo.out.mono ?_; rintro e w' ⟨rfl, rfl⟩)
        go_ret3
        exact ⟨rfl, rfl⟩
    · rw [hn] at HNo
      have e47 : (((47 : UInt8).toNat : Int)) = 47 := rfl
      rw [e47] at a4
      clear hn e47
      rcases hk2 with rfl | rfl
      all_goals
        go_enter Tryz.func138, Tryz.ntmps138
        go_wp2_with (go_at_call 123; refine HNo.out.mono ?_; rintro e w' ⟨rfl, rfl⟩; simp only [Option.getD_some, Option.isSome_some])
        go_ret3
        exact ⟨rfl, rfl⟩
    · rw [hn] at HNo
      have e47 : (((47 : UInt8).toNat : Int)) = 47 := rfl
      rw [e47] at a4
      have h1' : decide (n < 1) = false := by simp; omega
      clear hn e47 h1
      rcases hk2 with rfl | rfl
      all_goals
        go_enter Tryz.func138, Tryz.ntmps138
        go_wp2_with (go_at_call 123; refine HNo.out.mono ?_; rintro e w' ⟨rfl, rfl⟩; simp only [Option.getD_some, Option.isSome_some])
        go_ret3
        exact ⟨rfl, rfl⟩
  · rw [hp] at hK hN hE
    rw [hK, hN, hE]
    clear hK hN hE hp
    have g6 : decide ((p.length : Int) < 6) = false := by simp; omega
    have s4 := str_to (P := Tryz.prog) Tryz.underlying9 p 4 (by omega) hs
    have s5 := str_from (P := Tryz.prog) Tryz.underlying9 p 5 (by omega) hs
    have a4 := str_at (P := Tryz.prog) Tryz.underlying9 p 4 47 hc
    rw [hk] at s4; rw [hq] at s5
    have e4 : ((4 : Nat) : Int) = 4 := rfl
    have e5 : ((5 : Nat) : Int) = 5 := rfl
    have e47 : (((47 : UInt8).toNat : Int)) = 47 := rfl
    rw [e4] at s4 a4; rw [e5] at s5; rw [e47] at a4
    have hql : q.length ≤ 100000 := by rw [← hq, List.length_drop]; omega
    have hno := numberOf_any q w hql
    rw [hn] at hno
    have HNo := Lib.hid hno
    have h1' : decide (n < 1) = false := by simp; omega
    have h2' : decide (1073741824 < n) = false := by simp; omega
    clear hk hc hq e4 e5 e47 hno h6 hn h1 h2
    rcases hk2 with rfl | rfl
    all_goals
      go_enter Tryz.func138, Tryz.ntmps138
      go_wp2_with (go_at_call 123; refine HNo.out.mono ?_; rintro e w' ⟨rfl, rfl⟩; simp only [Option.getD_some, Option.isSome_some])
      go_ret3
      exact ⟨rfl, rfl⟩
end Go.Proofs.YtikboodjfanjkaaGreatDoor
namespace Go.Proofs.YtikboodjfanjkaaGreatDoor
open Go.RowKit

def farB (day age : Int) : Bool := decide (farN day) || decide (farN age)
theorem farB_near {day age : Int} (h : farB day age = false) : -1073741824 ≤ day ∧ day ≤ 1073741824 ∧ -1073741824 ≤ age ∧ age ≤ 1073741824 := by
  unfold farB at h
  have h1 : ¬ farN day := fun e => by rw [decide_eq_true e] at h; cases h
  have h2 : ¬ farN age := fun e => by rw [decide_eq_true e, Bool.or_true] at h; cases h
  unfold farN at h1 h2
  omega
/-- The tests, as the walks spell them. -/
theorem keep_ways {l : List Sn} {day age count : Int} {k : Nat} {x : Sn} (h : l[k]? = some x) :
    (keepB l day age count k = true ∧ ((((l.length : Int) - 1 - k == 0) = true ∧ ((k : Int) == (l.length : Int) - 1) = true) ∨ ((((l.length : Int) - 1 - k == 0) = false ∧ ((k : Int) == (l.length : Int) - 1) = false) ∧ farB day age = false ∧ ((l.length : Int) - 1 - k < count ∨ (decide ((l.length : Int) - 1 - k < count) = false ∧ day - age ≤ x.day))))) ∨
    (keepB l day age count k = false ∧ (((l.length : Int) - 1 - k == 0) = false ∧ ((k : Int) == (l.length : Int) - 1) = false) ∧ (farB day age = true ∨ (farB day age = false ∧ decide ((l.length : Int) - 1 - k < count) = false ∧ decide (day - age ≤ x.day) = false))) := by
  have hk := (List.getElem?_eq_some_iff.1 h).1
  unfold keepB
  rw [h]
  simp only
  by_cases h1 : k + 1 = l.length
  · refine .inl ⟨by simp [h1], .inl ⟨?_, ?_⟩⟩ <;> (rw [beq_iff_eq]; omega)
  have e1 : ((l.length : Int) - 1 - k == 0) = false := beq_eq_false_iff_ne.2 (by omega)
  have e2 : ((k : Int) == (l.length : Int) - 1) = false := beq_eq_false_iff_ne.2 (by omega)
  have e0 : decide (k + 1 = l.length) = false := decide_eq_false h1
  rw [e0, Bool.false_or]
  show _ ∧ _ ∨ _
  have hfar : (decide (farN day) || decide (farN age)) = farB day age := rfl
  rw [hfar]
  cases hf : farB day age with
  | true => exact .inr ⟨by simp, ⟨e1, e2⟩, .inl rfl⟩
  | false =>
    by_cases h2 : (l.length : Int) - 1 - k < count
    · exact .inl ⟨by simp [h2], .inr ⟨⟨e1, e2⟩, rfl, .inl h2⟩⟩
    · by_cases h3 : day - age ≤ x.day
      · exact .inl ⟨by simp [h3], .inr ⟨⟨e1, e2⟩, rfl, .inr ⟨decide_eq_false h2, h3⟩⟩⟩
      · exact .inr ⟨by simp [h2, h3], ⟨e1, e2⟩, .inr ⟨rfl, decide_eq_false h2, decide_eq_false h3⟩⟩
theorem keepUpTo_yes {l : List Sn} {day age count : Int} {k : Nat} {x : Sn} (h : l[k]? = some x) (hk : keepB l day age count k = true) : keepUpTo l day age count (k + 1) = keepUpTo l day age count k ++ [x.id] := by
  rw [keepUpTo, if_pos hk, h]; rfl
theorem keepUpTo_no {l : List Sn} {day age count : Int} {k : Nat} (hk : keepB l day age count k = false) : keepUpTo l day age count (k + 1) = keepUpTo l day age count k := by
  rw [keepUpTo, if_neg (by rw [hk]; decide), List.append_nil]
theorem plain_at {l : List SnV} {k : Nat} {x : SnV} (h : l[k]? = some x) : (plainS l)[k]? = some x.s := by simp [h]

set_option maxRecDepth 20000 in
set_option maxHeartbeats 1000000 in
theorem keep_any (v : Value) (l : List SnV) (day age count : Int) (w : World) (hl : SnapsAt w v l) (hn : l.length ≤ 100000) :
    Calls Tryz.prog 12 #[v, .int .i64 day, .int .i64 age, .int .i64 count] w fun e w' => ∃ u, e = .returned u ∧ Own encI 3 1 w.heap.size w' u (keepL (plainS l) day age count) ∧ Below w.heap.size w w' := by
  obtain ⟨a, c, b, o, rfl, ha, hc, hcm, hx⟩ := hl
  unfold maxLen at hcm
  have hpl : (plainS l).length = l.length := by simp
  have HPl := Lib.hid hpl; clear hpl
  go_enter Tryz.func12, Tryz.ntmps12
  go_upto_region 2 with fail
  go_cut [10] (fun t wx => t = .bool (farB day age) ∧ wx = w)
  case first =>
    by_cases h1 : farN day
    · have hd : decide (farN day) = true := decide_eq_true h1
      have hd' : farB day age = true := by unfold farB; rw [hd]; rfl
      clear h1
      go_wp2_with (first | (go_at_call 57; refine (far_any _ _).mono ?_; rintro e w' ⟨rfl, rfl⟩; rw [hd]))
      go_meet
      exact ⟨by rw [hd'], rfl⟩
    · have hd : decide (farN day) = false := decide_eq_false h1
      have hd' : farB day age = decide (farN age) := by unfold farB; rw [hd]; rfl
      clear h1
      go_wp2_with (first | (go_at_call 57; refine (far_any _ _).mono ?_; rintro e w' ⟨rfl, rfl⟩; try rw [hd]))
      go_meet
      exact ⟨by rw [hd'], rfl⟩
  case rest =>
    obtain ⟨rfl, rfl⟩ := hcut
    cases hfb : farB day age
    case false =>
      obtain ⟨n1, n2, n3, n4⟩ := farB_near hfb
      have HFb := Lib.hid hfb; clear hfb
      go_wp2_with fail
      go_loopw [9, 22] (fun u i wr => ∃ (k : Nat) (out : List Int), i = .int .i64 k ∧ k ≤ l.length ∧ out.length ≤ k ∧ Hid (out = keepUpTo (plainS l) day age count k) ∧ Own encI 3 1 wc.heap.size wr u out ∧ Below wc.heap.size wc wr) (fun _ i _ => l.length - (intOf i).toNat)
      case atStart => exact ⟨0, [], rfl, by omega, by simp, Lib.hid rfl, Own.nil encI _ 1 _ _, Below.refl _ _⟩
      case round =>
        obtain ⟨k, out, rfl, hk, hol, HO, ho, hb⟩ := hrel
        by_cases hlt : k < l.length
        case neg =>
          obtain rfl : k = l.length := by omega
          have f : decide ((l.length : Int) < (l.length : Int)) = false := by simp
          have HF : Hid (out = keepL (plainS l) day age count) := Lib.hid (by rw [HO.out]; unfold keepL; rw [HPl.out])
          clear hx ha hol
          go_wp2_with fail
          go_ret
          exact ⟨_, rfl, by rw [← HF.out]; exact ho, hb⟩
        obtain ⟨x, hxk⟩ := get_ex hlt
        obtain ⟨c0, c1, c2, c3, c4, c5, c6⟩ := snAtCells hx hb hxk
        have i1 := idx_at (c := c) 7 Tryz.underlying22 szSn ha k hlt
        have f : (k : Int) < (l.length : Int) := by omega
        have hbA := hb.alloc hb.size (.cells #[.int .i64 x.s.id, .int .i64 x.s.parent, .int .i64 x.s.seq, .int .i64 x.s.day, .int .i64 x.s.index, S x.s.op, .slice x.a x.n x.c] 30)
        have hoA := ho.alloc (.cells #[.int .i64 x.s.id, .int .i64 x.s.parent, .int .i64 x.s.seq, .int .i64 x.s.day, .int .i64 x.s.index, S x.s.op, .slice x.a x.n x.c] 30)
        obtain ⟨d0, -, -, d3, -, -, -⟩ := snapCells (w := wr) (s := x.s) (v := .slice x.a x.n x.c) (t := 30) (Below.refl _ _)
        have hwy := keep_ways (day := day) (age := age) (count := count) (plain_at hxk)
        rw [HPl.out] at hwy
        have HX := Lib.hid hxk; clear hxk
        go_upto_region 6 with fail
        generalize wr.alloc (.cells #[.int .i64 x.s.id, .int .i64 x.s.parent, .int .i64 x.s.seq, .int .i64 x.s.day, .int .i64 x.s.index, S x.s.op, .slice x.a x.n x.c] 30) = wA at *
        clear c0 c1 c2 c3 c4 c5 c6
        rw [HFb.out] at hwy
        rcases hwy with ⟨hk1, hw⟩ | ⟨hk1, ⟨g1, -⟩, hw⟩
        · have HK : Hid (out ++ [x.s.id] = keepUpTo (plainS l) day age count (k + 1)) := Lib.hid (by rw [HO.out, keepUpTo_yes (plain_at HX.out) hk1])
          clear hk1
          rcases hw with ⟨g1, -⟩ | ⟨⟨g1, -⟩, -, g2 | ⟨g2, g3⟩⟩
          all_goals
            go_wp2_with (at_builtin; refine wpList_app rfl _ _ _ rfl wc.heap.size elInt _ out.length _ rfl (hoA.alloc _) (.slice (some ⟨wA.heap.size, 0, none⟩) 1 1) 1 [.int .i64 x.s.id] rfl (src_one rfl rfl (by simp [Value.oneCell'])) (by unfold maxLen; omega) (by omega) (by have := hbA.size; simp; omega) ?_; intro v3 w3 hown hg _; have hb3 := Bapp (hbA.alloc hbA.size _) (hoA.alloc _) hg (Nat.le_refl _) (by have := hbA.size; simp; omega))
            go_roundw
            case rel => exact ⟨k + 1, out ++ [x.s.id], by go_num, by omega, by simp; omega, HK, Own.snoc hown, hb3⟩
            case measure => simp [intOf]; omega
        · have HK : Hid (out = keepUpTo (plainS l) day age count (k + 1)) := Lib.hid (by rw [HO.out, keepUpTo_no hk1])
          clear hk1
          rcases hw with hw | ⟨-, g2, g3⟩
          · cases hw
          · go_wp2_with fail
            go_roundw
            case rel => exact ⟨k + 1, out, by go_num, by omega, by omega, HK, hoA, hbA⟩
            case measure => simp [intOf]; omega
    case true =>
      have HFb := Lib.hid hfb; clear hfb
      go_wp2_with fail
      go_loopw [9, 22] (fun u i wr => ∃ (k : Nat) (out : List Int), i = .int .i64 k ∧ k ≤ l.length ∧ out.length ≤ k ∧ Hid (out = keepUpTo (plainS l) day age count k) ∧ Own encI 3 1 wc.heap.size wr u out ∧ Below wc.heap.size wc wr) (fun _ i _ => l.length - (intOf i).toNat)
      case atStart => exact ⟨0, [], rfl, by omega, by simp, Lib.hid rfl, Own.nil encI _ 1 _ _, Below.refl _ _⟩
      case round =>
        obtain ⟨k, out, rfl, hk, hol, HO, ho, hb⟩ := hrel
        by_cases hlt : k < l.length
        case neg =>
          obtain rfl : k = l.length := by omega
          have f : decide ((l.length : Int) < (l.length : Int)) = false := by simp
          have HF : Hid (out = keepL (plainS l) day age count) := Lib.hid (by rw [HO.out]; unfold keepL; rw [HPl.out])
          clear hx ha hol
          go_wp2_with fail
          go_ret
          exact ⟨_, rfl, by rw [← HF.out]; exact ho, hb⟩
        obtain ⟨x, hxk⟩ := get_ex hlt
        obtain ⟨c0, c1, c2, c3, c4, c5, c6⟩ := snAtCells hx hb hxk
        have i1 := idx_at (c := c) 7 Tryz.underlying22 szSn ha k hlt
        have f : (k : Int) < (l.length : Int) := by omega
        have hbA := hb.alloc hb.size (.cells #[.int .i64 x.s.id, .int .i64 x.s.parent, .int .i64 x.s.seq, .int .i64 x.s.day, .int .i64 x.s.index, S x.s.op, .slice x.a x.n x.c] 30)
        have hoA := ho.alloc (.cells #[.int .i64 x.s.id, .int .i64 x.s.parent, .int .i64 x.s.seq, .int .i64 x.s.day, .int .i64 x.s.index, S x.s.op, .slice x.a x.n x.c] 30)
        obtain ⟨d0, -, -, d3, -, -, -⟩ := snapCells (w := wr) (s := x.s) (v := .slice x.a x.n x.c) (t := 30) (Below.refl _ _)
        have hwy := keep_ways (day := day) (age := age) (count := count) (plain_at hxk)
        rw [HPl.out] at hwy
        have HX := Lib.hid hxk; clear hxk
        go_upto_region 6 with fail
        generalize wr.alloc (.cells #[.int .i64 x.s.id, .int .i64 x.s.parent, .int .i64 x.s.seq, .int .i64 x.s.day, .int .i64 x.s.index, S x.s.op, .slice x.a x.n x.c] 30) = wA at *
        clear c0 c1 c2 c3 c4 c5 c6
        rw [HFb.out] at hwy
        rcases hwy with ⟨hk1, hw⟩ | ⟨hk1, ⟨g1, -⟩, hw⟩
        · have HK : Hid (out ++ [x.s.id] = keepUpTo (plainS l) day age count (k + 1)) := Lib.hid (by rw [HO.out, keepUpTo_yes (plain_at HX.out) hk1])
          clear hk1
          rcases hw with ⟨g1, -⟩ | ⟨-, hw, -⟩
          · go_wp2_with (at_builtin; refine wpList_app rfl _ _ _ rfl wc.heap.size elInt _ out.length _ rfl (hoA.alloc _) (.slice (some ⟨wA.heap.size, 0, none⟩) 1 1) 1 [.int .i64 x.s.id] rfl (src_one rfl rfl (by simp [Value.oneCell'])) (by unfold maxLen; omega) (by omega) (by have := hbA.size; simp; omega) ?_; intro v3 w3 hown hg _; have hb3 := Bapp (hbA.alloc hbA.size _) (hoA.alloc _) hg (Nat.le_refl _) (by have := hbA.size; simp; omega))
            go_roundw
            case rel => exact ⟨k + 1, out ++ [x.s.id], by go_num, by omega, by simp; omega, HK, Own.snoc hown, hb3⟩
            case measure => simp [intOf]; omega
          · cases hw
        · have HK : Hid (out = keepUpTo (plainS l) day age count (k + 1)) := Lib.hid (by rw [HO.out, keepUpTo_no hk1])
          clear hk1 hw
          go_wp2_with fail
          go_roundw
          case rel => exact ⟨k + 1, out, by go_num, by omega, by omega, HK, hoA, hbA⟩
          case measure => simp [intOf]; omega
end Go.Proofs.YtikboodjfanjkaaGreatDoor
namespace Go.Proofs.YtikboodjfanjkaaGreatDoor
open Go.RowKit
set_option maxRecDepth 20000 in
set_option maxHeartbeats 2000000 in
theorem keepOf_any (v : Value) (l : List SnV) (day age count : Int) (w : World) (hl : SnapsAt w v l) (hn : l.length ≤ 100000) :
    Calls Tryz.prog 13 #[v, .int .i64 day, .int .i64 age, .int .i64 count] w fun e w' => ∃ u, e = .returned u ∧ Own encI 3 1 w.heap.size w' u (keepL (plainS l) day age count) ∧ Below w.heap.size w w' := by
  obtain ⟨a, c, b, o, rfl, ha, hc, hcm, hx⟩ := hl
  unfold maxLen at hcm
  have hpl : (plainS l).length = l.length := by simp
  have HPl := Lib.hid hpl; clear hpl
  by_cases h1 : farN day
  case pos =>
    have hd1 : decide (farN day) = true := decide_eq_true h1
    have hd2 : decide (farN age) = decide (farN age) := rfl
    have hfb : farB day age = true := by unfold farB; rw [hd1]; rfl
    have HFb := Lib.hid hfb; clear hfb h1
    go_enter Tryz.func13, Tryz.ntmps13
    go_wp2_with (first | (go_at_call 58; refine (isFar_any _ _).mono ?_; rintro e w' ⟨rfl, rfl⟩; try rw [hd1]; try rw [hd2]))
    go_loopw [9, 12] (fun u i wr => ∃ (k : Nat) (out : List Int), i = .int .i64 k ∧ k ≤ l.length ∧ out.length ≤ k ∧ Hid (out = keepUpTo (plainS l) day age count k) ∧ Own encI 3 1 w.heap.size wr u out ∧ Below w.heap.size w wr) (fun _ i _ => l.length - (intOf i).toNat)
    case atStart => exact ⟨0, [], rfl, by omega, by simp, Lib.hid rfl, Own.nil encI _ 1 _ _, Below.refl _ _⟩
    case round =>
      obtain ⟨k, out, rfl, hk, hol, HO, ho, hb⟩ := hrel
      by_cases hlt : k < l.length
      case neg =>
        obtain rfl : k = l.length := by omega
        have f : decide ((l.length : Int) < (l.length : Int)) = false := by simp
        have HF : Hid (out = keepL (plainS l) day age count) := Lib.hid (by rw [HO.out]; unfold keepL; rw [HPl.out])
        clear hx ha hol
        go_wp2_with fail
        go_ret
        exact ⟨_, rfl, by rw [← HF.out]; exact ho, hb⟩
      obtain ⟨x, hxk⟩ := get_ex hlt
      obtain ⟨c0, -, -, c3, -, -, -⟩ := snAtCells hx hb hxk
      have i1 := idx_at (c := c) 7 Tryz.underlying22 szSn ha k hlt
      have f : (k : Int) < (l.length : Int) := by omega
      have hwy := keep_ways (day := day) (age := age) (count := count) (plain_at hxk)
      rw [HPl.out, HFb.out] at hwy
      have HX := Lib.hid hxk; clear hxk
      rcases hwy with ⟨hk1, hw⟩ | ⟨hk1, ⟨-, g1⟩, hw⟩
      · have HK : Hid (out ++ [x.s.id] = keepUpTo (plainS l) day age count (k + 1)) := Lib.hid (by rw [HO.out, keepUpTo_yes (plain_at HX.out) hk1])
        clear hk1
        rcases hw with ⟨-, g1⟩ | ⟨-, hw, -⟩
        · go_wp2_with (at_builtin; refine wpList_app rfl _ _ _ rfl w.heap.size elInt _ out.length _ rfl (ho.alloc _) (.slice (some ⟨wr.heap.size, 0, none⟩) 1 1) 1 [.int .i64 x.s.id] rfl (src_one rfl rfl (by simp [Value.oneCell'])) (by unfold maxLen; omega) (by omega) (by have := hb.size; simp; omega) ?_; intro v3 w3 hown hg _; have hb3 := Bapp (hb.alloc hb.size _) (ho.alloc _) hg (Nat.le_refl _) (by have := hb.size; simp; omega))
          go_roundw
          case rel => exact ⟨k + 1, out ++ [x.s.id], by go_num, by omega, by simp; omega, HK, Own.snoc hown, hb3⟩
          case measure => simp [intOf]; omega
        · cases hw
      · have HK : Hid (out = keepUpTo (plainS l) day age count (k + 1)) := Lib.hid (by rw [HO.out, keepUpTo_no hk1])
        clear hk1 hw
        go_wp2_with fail
        go_roundw
        case rel => exact ⟨k + 1, out, by go_num, by omega, by omega, HK, ho, hb⟩
        case measure => simp [intOf]; omega
  have hd1 : decide (farN day) = false := decide_eq_false h1
  by_cases h2 : farN age
  case pos =>
    have hd2 : decide (farN age) = true := decide_eq_true h2
    have hfb : farB day age = true := by unfold farB; rw [hd1, hd2]; rfl
    have HFb := Lib.hid hfb; clear hfb h1 h2
    go_enter Tryz.func13, Tryz.ntmps13
    go_wp2_with (first | (go_at_call 58; refine (isFar_any _ _).mono ?_; rintro e w' ⟨rfl, rfl⟩; try rw [hd1]; try rw [hd2]))
    go_loopw [9, 12] (fun u i wr => ∃ (k : Nat) (out : List Int), i = .int .i64 k ∧ k ≤ l.length ∧ out.length ≤ k ∧ Hid (out = keepUpTo (plainS l) day age count k) ∧ Own encI 3 1 w.heap.size wr u out ∧ Below w.heap.size w wr) (fun _ i _ => l.length - (intOf i).toNat)
    case atStart => exact ⟨0, [], rfl, by omega, by simp, Lib.hid rfl, Own.nil encI _ 1 _ _, Below.refl _ _⟩
    case round =>
      obtain ⟨k, out, rfl, hk, hol, HO, ho, hb⟩ := hrel
      by_cases hlt : k < l.length
      case neg =>
        obtain rfl : k = l.length := by omega
        have f : decide ((l.length : Int) < (l.length : Int)) = false := by simp
        have HF : Hid (out = keepL (plainS l) day age count) := Lib.hid (by rw [HO.out]; unfold keepL; rw [HPl.out])
        clear hx ha hol
        go_wp2_with fail
        go_ret
        exact ⟨_, rfl, by rw [← HF.out]; exact ho, hb⟩
      obtain ⟨x, hxk⟩ := get_ex hlt
      obtain ⟨c0, -, -, c3, -, -, -⟩ := snAtCells hx hb hxk
      have i1 := idx_at (c := c) 7 Tryz.underlying22 szSn ha k hlt
      have f : (k : Int) < (l.length : Int) := by omega
      have hwy := keep_ways (day := day) (age := age) (count := count) (plain_at hxk)
      rw [HPl.out, HFb.out] at hwy
      have HX := Lib.hid hxk; clear hxk
      rcases hwy with ⟨hk1, hw⟩ | ⟨hk1, ⟨-, g1⟩, hw⟩
      · have HK : Hid (out ++ [x.s.id] = keepUpTo (plainS l) day age count (k + 1)) := Lib.hid (by rw [HO.out, keepUpTo_yes (plain_at HX.out) hk1])
        clear hk1
        rcases hw with ⟨-, g1⟩ | ⟨-, hw, -⟩
        · go_wp2_with (at_builtin; refine wpList_app rfl _ _ _ rfl w.heap.size elInt _ out.length _ rfl (ho.alloc _) (.slice (some ⟨wr.heap.size, 0, none⟩) 1 1) 1 [.int .i64 x.s.id] rfl (src_one rfl rfl (by simp [Value.oneCell'])) (by unfold maxLen; omega) (by omega) (by have := hb.size; simp; omega) ?_; intro v3 w3 hown hg _; have hb3 := Bapp (hb.alloc hb.size _) (ho.alloc _) hg (Nat.le_refl _) (by have := hb.size; simp; omega))
          go_roundw
          case rel => exact ⟨k + 1, out ++ [x.s.id], by go_num, by omega, by simp; omega, HK, Own.snoc hown, hb3⟩
          case measure => simp [intOf]; omega
        · cases hw
      · have HK : Hid (out = keepUpTo (plainS l) day age count (k + 1)) := Lib.hid (by rw [HO.out, keepUpTo_no hk1])
        clear hk1 hw
        go_wp2_with fail
        go_roundw
        case rel => exact ⟨k + 1, out, by go_num, by omega, by omega, HK, ho, hb⟩
        case measure => simp [intOf]; omega
  have hd2 : decide (farN age) = false := decide_eq_false h2
  have hfb : farB day age = false := by unfold farB; rw [hd1, hd2]; rfl
  obtain ⟨n1, n2, n3, n4⟩ := farB_near hfb
  have HFb := Lib.hid hfb; clear hfb h1 h2
  go_enter Tryz.func13, Tryz.ntmps13
  go_wp2_with (first | (go_at_call 58; refine (isFar_any _ _).mono ?_; rintro e w' ⟨rfl, rfl⟩; try rw [hd1]; try rw [hd2]))
  go_loopw [9, 12] (fun u i wr => ∃ (k : Nat) (out : List Int), i = .int .i64 k ∧ k ≤ l.length ∧ out.length ≤ k ∧ Hid (out = keepUpTo (plainS l) day age count k) ∧ Own encI 3 1 w.heap.size wr u out ∧ Below w.heap.size w wr) (fun _ i _ => l.length - (intOf i).toNat)
  case atStart => exact ⟨0, [], rfl, by omega, by simp, Lib.hid rfl, Own.nil encI _ 1 _ _, Below.refl _ _⟩
  case round =>
    obtain ⟨k, out, rfl, hk, hol, HO, ho, hb⟩ := hrel
    by_cases hlt : k < l.length
    case neg =>
      obtain rfl : k = l.length := by omega
      have f : decide ((l.length : Int) < (l.length : Int)) = false := by simp
      have HF : Hid (out = keepL (plainS l) day age count) := Lib.hid (by rw [HO.out]; unfold keepL; rw [HPl.out])
      clear hx ha hol
      go_wp2_with fail
      go_ret
      exact ⟨_, rfl, by rw [← HF.out]; exact ho, hb⟩
    obtain ⟨x, hxk⟩ := get_ex hlt
    obtain ⟨c0, -, -, c3, -, -, -⟩ := snAtCells hx hb hxk
    have i1 := idx_at (c := c) 7 Tryz.underlying22 szSn ha k hlt
    have f : (k : Int) < (l.length : Int) := by omega
    have hwy := keep_ways (day := day) (age := age) (count := count) (plain_at hxk)
    rw [HPl.out, HFb.out] at hwy
    have HX := Lib.hid hxk; clear hxk
    rcases hwy with ⟨hk1, hw⟩ | ⟨hk1, ⟨-, g1⟩, hw⟩
    · have HK : Hid (out ++ [x.s.id] = keepUpTo (plainS l) day age count (k + 1)) := Lib.hid (by rw [HO.out, keepUpTo_yes (plain_at HX.out) hk1])
      clear hk1
      rcases hw with ⟨-, g1⟩ | ⟨⟨-, g1⟩, -, g2 | ⟨g2, g3⟩⟩
      · by_cases g2 : (l.length : Int) - 1 - k < count
        · go_wp2_with (at_builtin; refine wpList_app rfl _ _ _ rfl w.heap.size elInt _ out.length _ rfl (ho.alloc _) (.slice (some ⟨wr.heap.size, 0, none⟩) 1 1) 1 [.int .i64 x.s.id] rfl (src_one rfl rfl (by simp [Value.oneCell'])) (by unfold maxLen; omega) (by omega) (by have := hb.size; simp; omega) ?_; intro v3 w3 hown hg _; have hb3 := Bapp (hb.alloc hb.size _) (ho.alloc _) hg (Nat.le_refl _) (by have := hb.size; simp; omega))
          go_roundw
          case rel => exact ⟨k + 1, out ++ [x.s.id], by go_num, by omega, by simp; omega, HK, Own.snoc hown, hb3⟩
          case measure => simp [intOf]; omega
        · have g2 : decide ((l.length : Int) - 1 - k < count) = false := decide_eq_false g2
          by_cases g3 : day - age ≤ x.s.day
          · go_wp2_with (at_builtin; refine wpList_app rfl _ _ _ rfl w.heap.size elInt _ out.length _ rfl (ho.alloc _) (.slice (some ⟨wr.heap.size, 0, none⟩) 1 1) 1 [.int .i64 x.s.id] rfl (src_one rfl rfl (by simp [Value.oneCell'])) (by unfold maxLen; omega) (by omega) (by have := hb.size; simp; omega) ?_; intro v3 w3 hown hg _; have hb3 := Bapp (hb.alloc hb.size _) (ho.alloc _) hg (Nat.le_refl _) (by have := hb.size; simp; omega))
            go_roundw
            case rel => exact ⟨k + 1, out ++ [x.s.id], by go_num, by omega, by simp; omega, HK, Own.snoc hown, hb3⟩
            case measure => simp [intOf]; omega
          · have g3 : decide (day - age ≤ x.s.day) = false := decide_eq_false g3
            go_wp2_with (at_builtin; refine wpList_app rfl _ _ _ rfl w.heap.size elInt _ out.length _ rfl (ho.alloc _) (.slice (some ⟨wr.heap.size, 0, none⟩) 1 1) 1 [.int .i64 x.s.id] rfl (src_one rfl rfl (by simp [Value.oneCell'])) (by unfold maxLen; omega) (by omega) (by have := hb.size; simp; omega) ?_; intro v3 w3 hown hg _; have hb3 := Bapp (hb.alloc hb.size _) (ho.alloc _) hg (Nat.le_refl _) (by have := hb.size; simp; omega))
            go_roundw
            case rel => exact ⟨k + 1, out ++ [x.s.id], by go_num, by omega, by simp; omega, HK, Own.snoc hown, hb3⟩
            case measure => simp [intOf]; omega
      · go_wp2_with (at_builtin; refine wpList_app rfl _ _ _ rfl w.heap.size elInt _ out.length _ rfl (ho.alloc _) (.slice (some ⟨wr.heap.size, 0, none⟩) 1 1) 1 [.int .i64 x.s.id] rfl (src_one rfl rfl (by simp [Value.oneCell'])) (by unfold maxLen; omega) (by omega) (by have := hb.size; simp; omega) ?_; intro v3 w3 hown hg _; have hb3 := Bapp (hb.alloc hb.size _) (ho.alloc _) hg (Nat.le_refl _) (by have := hb.size; simp; omega))
        go_roundw
        case rel => exact ⟨k + 1, out ++ [x.s.id], by go_num, by omega, by simp; omega, HK, Own.snoc hown, hb3⟩
        case measure => simp [intOf]; omega
      · go_wp2_with (at_builtin; refine wpList_app rfl _ _ _ rfl w.heap.size elInt _ out.length _ rfl (ho.alloc _) (.slice (some ⟨wr.heap.size, 0, none⟩) 1 1) 1 [.int .i64 x.s.id] rfl (src_one rfl rfl (by simp [Value.oneCell'])) (by unfold maxLen; omega) (by omega) (by have := hb.size; simp; omega) ?_; intro v3 w3 hown hg _; have hb3 := Bapp (hb.alloc hb.size _) (ho.alloc _) hg (Nat.le_refl _) (by have := hb.size; simp; omega))
        go_roundw
        case rel => exact ⟨k + 1, out ++ [x.s.id], by go_num, by omega, by simp; omega, HK, Own.snoc hown, hb3⟩
        case measure => simp [intOf]; omega
    · have HK : Hid (out = keepUpTo (plainS l) day age count (k + 1)) := Lib.hid (by rw [HO.out, keepUpTo_no hk1])
      clear hk1
      rcases hw with hw | ⟨-, g2, g3⟩
      · cases hw
      · go_wp2_with fail
        go_roundw
        case rel => exact ⟨k + 1, out, by go_num, by omega, by omega, HK, ho, hb⟩
        case measure => simp [intOf]; omega
end Go.Proofs.YtikboodjfanjkaaGreatDoor
