/- The shelf's contracts that the walks of this seat use, in plain declarations (written by the kit's tool, trimmed by a program). slices.Sort and slices.Compact at texts of the call's own. deedboxref3.With: the walk. From the row's condition on the listed variables to what the walks ask: the sentinels, and what errors.As reads. The builder with the row's listed variables and the world's shape both; slices of numbers that came in; the library's variables out of the condition. What strconv.Itoa reads of the library's variables, and no more. expire.Name, expire.Reach; deedboxref3.ReachOf: the walks. -/
import Derived.Shelf.Strings.Builder1
import Derived.Shelf.Strings.Trim
import Derived.Shelf.Small.Utf8
import Derived.Shelf.Small.Bits
import Derived.Shelf.Small.Strs
import Derived.Shelf.Strconv.Atoi
import Derived.Shelf.Strconv.Itoa0
import Derived.Shelf.Strconv.Itoa1
import Derived.Shelf.LaysM
import Derived.Shelf.Strconv.Itoa2
import Derived.Shelf.Strconv.Itoa3
import Derived.Shelf.Strconv.AtoiErrFast
import Derived.Shelf.Strconv.ParseIntEmpty
import Derived.Shelf.Strconv.AtoiFail
import Derived.Shelf.Strconv.Clone
import Derived.Shelf.Strconv.SyntaxError
import Derived.Shelf.LaysC
import Derived.Shelf.Strconv.ToError
import Derived.Shelf.Strconv.Lower
import Derived.Shelf.Strconv.ParseUint10
import Derived.Shelf.Strconv.ParseUint10Empty
import Derived.Shelf.Strconv.ParseUint10Any
import Derived.Shelf.Strconv.ParseInt10
import Derived.Shelf.Strconv.AtoiLong
import Derived.Shelf.Strconv.AtoiInnerAll
import Derived.Shelf.Strconv.RangeError
import Derived.Shelf.Strconv.ToErrorRange
import Derived.Shelf.Strconv.AtoiAll
import Derived.Shelf.Strconv.ErrVarAll
import Derived.Shelf.Strings.Search1
import Derived.Shelf.Strings.Search2
import Derived.Shelf.Strings.Search3
import Derived.Shelf.Strings.Cut
import Derived.Shelf.Strings.Count
import Derived.Shelf.Strings.Shaped
import Derived.Shelf.Sort.Plain
import Derived.Shelf.Strings.Split
import Derived.Shelf.Strings.Runes
import Derived.Shelf.Strings.AsciiSet
import Derived.Shelf.Unicode.DecodeSlow
import Derived.Shelf.Slices.Turned
import Derived.Shelf.Slices.CompactS
import Derived.Shelf.Slices.In.SortNone
import Derived.Test.YtikboodjfanjkaaGreatDoorProg
import Derived.Test.YtikboodjfanjkaaGreatDoorBx2
import Derived.Test.YtikboodjfanjkaaGreatDoorBx1
import Derived.Test.YtikboodjfanjkaaGreatDoorBx4
import Derived.Sort.OwnSorted
import Derived.Lib.OwnBridge
import Derived.Outline
import Derived.Deep.CutBlock
import Derived.Deep.DeepCutAuto
import Derived.Deep.RegionWith
import Derived.LaidLaws
import Derived.LaidHandle
import Derived.Stop.LaidErr
import Derived.HandedShaped
import Derived.OpenShut
import Derived.Carry
import Derived.Shelf.Vars
import Derived.ProofKit
import Derived.LaidMore
import Derived.Lay
import Derived.Test.YtikboodjfanjkaaGreatDoorBx3
import Derived.Test.YtikboodjfanjkaaGreatDoorBx9
namespace Go.Proofs
open Go.Shelf
def Tryz.lays190_ren : Go.Shelf.Ren := ⟨fun | 190 => 60 | 125 => 125 | 258 => 124 | 128 => 165 | 129 => 166 | 302 => 156 | 303 => 157 | 304 => 158 | 305 => 159 | 306 => 160 | 307 => 161 | 308 => 162 | 309 => 163 | 310 => 164 | 333 => 191 | 329 => 192 | 330 => 193 | 334 => 194 | 335 => 195 | 336 => 196 | 344 => 222 | n => n, fun | 31 => 24 | 9 => 9 | 3 => 3 | 46 => 173 | 0 => 0 | 51 => 162 | 53 => 161 | 4 => 4 | 183 => 197 | 182 => 196 | 131 => 151 | 5 => 5 | 218 => 231 | 222 => 235 | 228 => 268 | 229 => 84 | n => n, fun | n => n⟩
theorem Tryz.lays190 : Go.Proofs.Lays.n190 Tryz.prog Tryz.lays190_ren := {
  mixed := by kernel_rfl
  f125 := Tryz.func125.trans (congrArg some (by kernel_rfl))
  f128 := Tryz.func165.trans (congrArg some (by kernel_rfl))
  f129 := Tryz.func166.trans (congrArg some (by kernel_rfl))
  f190 := Tryz.func60.trans (congrArg some (by kernel_rfl))
  f258 := Tryz.func124.trans (congrArg some (by kernel_rfl))
  f302 := Tryz.func156.trans (congrArg some (by kernel_rfl))
  f303 := Tryz.func157.trans (congrArg some (by kernel_rfl))
  f304 := Tryz.func158.trans (congrArg some (by kernel_rfl))
  f305 := Tryz.func159.trans (congrArg some (by kernel_rfl))
  f306 := Tryz.func160.trans (congrArg some (by kernel_rfl))
  f307 := Tryz.func161.trans (congrArg some (by kernel_rfl))
  f308 := Tryz.func162.trans (congrArg some (by kernel_rfl))
  f309 := Tryz.func163.trans (congrArg some (by kernel_rfl))
  f310 := Tryz.func164.trans (congrArg some (by kernel_rfl))
  f329 := Tryz.func192.trans (congrArg some (by kernel_rfl))
  f330 := Tryz.func193.trans (congrArg some (by kernel_rfl))
  f333 := Tryz.func191.trans (congrArg some (by kernel_rfl))
  f334 := Tryz.func194.trans (congrArg some (by kernel_rfl))
  f335 := Tryz.func195.trans (congrArg some (by kernel_rfl))
  f336 := Tryz.func196.trans (congrArg some (by kernel_rfl))
  f344 := Tryz.func222.trans (congrArg some (by kernel_rfl))
  t0 := Tryz.underlying0
  a0 := Tryz.isAgg0
  z0 := Tryz.sizeOf0
  v0 := Tryz.zeroValue0
  t3 := Tryz.underlying3
  a3 := Tryz.isAgg3
  z3 := Tryz.sizeOf3
  v3 := Tryz.zeroValue3
  t4 := Tryz.underlying4
  a4 := Tryz.isAgg4
  z4 := Tryz.sizeOf4
  v4 := Tryz.zeroValue4
  t5 := Tryz.underlying5
  a5 := Tryz.isAgg5
  z5 := Tryz.sizeOf5
  v5 := Tryz.zeroValue5
  t9 := Tryz.underlying9
  a9 := Tryz.isAgg9
  z9 := Tryz.sizeOf9
  v9 := Tryz.zeroValue9
  t31 := Tryz.underlying24
  a31 := Tryz.isAgg24
  z31 := Tryz.sizeOf24
  v31 := Tryz.zeroValue24
  t46 := Tryz.underlying173
  a46 := Tryz.isAgg173
  z46 := Tryz.sizeOf173
  v46 := Tryz.zeroValue173
  t51 := Tryz.underlying162
  a51 := Tryz.isAgg162
  z51 := Tryz.sizeOf162
  v51 := Tryz.zeroValue162
  t53 := Tryz.underlying161
  a53 := Tryz.isAgg161
  z53 := Tryz.sizeOf161
  v53 := Tryz.zeroValue161
  t131 := Tryz.underlying151
  a131 := Tryz.isAgg151
  z131 := Tryz.sizeOf151
  v131 := Tryz.zeroValue151
  t182 := Tryz.underlying196
  a182 := Tryz.isAgg196
  z182 := Tryz.sizeOf196
  v182 := Tryz.zeroValue196
  t183 := Tryz.underlying197
  a183 := Tryz.isAgg197
  z183 := Tryz.sizeOf197
  v183 := Tryz.zeroValue197
  t218 := Tryz.underlying231
  a218 := Tryz.isAgg231
  z218 := Tryz.sizeOf231
  v218 := Tryz.zeroValue231
  t222 := Tryz.underlying235
  a222 := Tryz.isAgg235
  z222 := Tryz.sizeOf235
  v222 := Tryz.zeroValue235
  t228 := Tryz.underlying268
  a228 := Tryz.isAgg268
  z228 := Tryz.sizeOf268
  v228 := Tryz.zeroValue268
  t229 := Tryz.underlying84
  a229 := Tryz.isAgg84
  z229 := Tryz.sizeOf84
  v229 := Tryz.zeroValue84 }
open Go.Sort Go.RowKit in
theorem Tryz.slices_Sort_string (blk off cap : Nat) (ss : List (List UInt8)) (w : World) (hH : Holds encStr w blk off ss.toArray) (hblk : blk < w.heap.size) (hsz : ss.length < 4611686018427387904) :
    Calls Tryz.prog 60 #[.slice (some ⟨blk, off, none⟩) ss.length cap] w fun e w' =>
      e = .returned (.tuple #[]) ∧ ∃ n os, w' = grow (putRow encStr (Sort.ahead w n) blk off (ss.mergeSort fun x y => decide (x ≤ y)).toArray) os := Any.slices_Sort_string Tryz.lays190 blk off cap ss w hH hblk hsz
def Tryz.lays194_ren : Go.Shelf.Ren := ⟨fun | 194 => 61 | n => n, fun | 31 => 24 | 9 => 9 | 3 => 3 | 4 => 4 | 0 => 0 | n => n, fun | n => n⟩
theorem Tryz.lays194 : Go.Proofs.Lays.n194 Tryz.prog Tryz.lays194_ren := {
  mixed := by kernel_rfl
  f194 := Tryz.func61.trans (congrArg some (by kernel_rfl))
  t0 := Tryz.underlying0
  a0 := Tryz.isAgg0
  z0 := Tryz.sizeOf0
  v0 := Tryz.zeroValue0
  t3 := Tryz.underlying3
  a3 := Tryz.isAgg3
  z3 := Tryz.sizeOf3
  v3 := Tryz.zeroValue3
  t4 := Tryz.underlying4
  a4 := Tryz.isAgg4
  z4 := Tryz.sizeOf4
  v4 := Tryz.zeroValue4
  t9 := Tryz.underlying9
  a9 := Tryz.isAgg9
  z9 := Tryz.sizeOf9
  v9 := Tryz.zeroValue9
  t31 := Tryz.underlying24
  a31 := Tryz.isAgg24
  z31 := Tryz.sizeOf24
  v31 := Tryz.zeroValue24 }
open Go.RowKit Go.Lib Go.Sort in
theorem Tryz.slices_Compact_string (blk off cap : Nat) (zs : List (List UInt8)) (w : World) (hH : Holds encStr w blk off zs.toArray) (hsz : zs.length ≤ 9223372036854775807) (hcap : zs.length ≤ cap) :
    Calls Tryz.prog 61 #[.slice (some ⟨blk, off, none⟩) zs.length cap] w fun e w' => e = .returned (.slice (some ⟨blk, off, none⟩) (Lib.compact zs).length cap) ∧ ∃ q, w' = putRow encStr (Sort.ahead w q) blk off (Lib.compact zs ++ List.replicate (zs.length - (Lib.compact zs).length) []).toArray := Any.slices_Compact_string Tryz.lays194 blk off cap zs w hH hsz hcap
open Go.RowKit Go.Lib Go.Sort in
theorem Tryz.slices_Compact_string_empty (a : Option Addr) (cap : Nat) (w : World) :
    Calls Tryz.prog 61 #[.slice a 0 cap] w fun e w' => e = .returned (.slice a 0 cap) ∧ w' = w := Any.slices_Compact_string_empty Tryz.lays194 a cap w
open Go.RowKit Go.Sort in
theorem Tryz.slices_Sort_string_none (p : Option Addr) (cap : Nat) (w : World) :
    Calls Tryz.prog 60 #[.slice p 0 cap] w fun e w' => e = .returned (.tuple #[]) ∧ w' = w := Any.slices_Sort_string_none Tryz.lays190 p cap w
end Go.Proofs
namespace Go.Proofs.YtikboodjfanjkaaGreatDoor
open Go.RowKit Go.Sort

abbrev sortL (l : List Str) : List Str := l.mergeSort fun x y => decide (x ≤ y)
theorem flat_encS (l : List Str) : l.flatMap encS = l.map encStr := flat_one _ _
theorem sortL_len (l : List Str) : (sortL l).length = l.length := List.length_mergeSort l
theorem sortS_any (B : Nat) (v : Value) (l : List Str) (w : World) (ho : Own encS 9 1 B w v l) (hB : B ≤ w.heap.size) (hn : l.length ≤ 100000) :
    Calls Tryz.prog 60 #[v] w fun e w' => e = .returned (.tuple #[]) ∧ Own encS 9 1 B w' v (sortL l) ∧ Below B w w' := by
  have ho' : w.ownsRow B 9 1 v l.length (l.map encStr) := by rw [← flat_encS]; exact ho
  rcases ho'.2 with ⟨rfl, h0⟩ | ⟨g, cap, cur, rfl, hbase, hb, h1, h2, h3, h4⟩
  · obtain rfl := List.eq_nil_of_length_eq_zero h0
    refine (Tryz.slices_Sort_string_none none 0 w).mono ?_
    rintro e w' ⟨rfl, rfl⟩
    exact ⟨rfl, by simpa [sortL] using ho, Below.refl _ _⟩
  · refine (Tryz.slices_Sort_string g 0 cap l w (holds_of_block hb (by simpa using h4)) (Array.getElem?_eq_some_iff.1 hb).1 (by omega)).mono ?_
    rintro e w' ⟨rfl, n, os, rfl⟩
    refine ⟨rfl, ?_, (Below.refl B w).grown (grownBy_sorted _) hB (fun k hk => by cases hk; exact hbase)⟩
    have := ownsRow_sorted (n := n) (os := os) (ts := sortL l) (sortL_len l) hbase hb h1 h2 h3
    unfold Own
    rw [flat_encS, sortL_len]
    exact this
theorem compactS_any (B : Nat) (v : Value) (l : List Str) (w : World) (ho : Own encS 9 1 B w v l) (hn : l.length ≤ 100000) :
    Calls Tryz.prog 61 #[v] w fun e w' => ∃ v', e = .returned v' ∧ Own encS 9 1 B w' v' (Lib.compact l) ∧ Below B w w' := by
  have ho' : w.ownsRow B 9 1 v l.length (l.map encStr) := by rw [← flat_encS]; exact ho
  rcases ho'.2 with ⟨rfl, h0⟩ | ⟨g, cap, cur, rfl, hbase, hb, h1, h2, h3, h4⟩
  · obtain rfl := List.eq_nil_of_length_eq_zero h0
    refine (Tryz.slices_Compact_string_empty none 0 w).mono ?_
    rintro e w' ⟨rfl, rfl⟩
    exact ⟨_, rfl, by simpa [Lib.compact, Lib.compactUpTo] using ho, Below.refl _ _⟩
  · have hle := Lib.compact_length_le l
    refine (Tryz.slices_Compact_string g 0 cap l w (holds_of_block hb (by simpa using h4)) (by omega) h1).mono ?_
    rintro e w' ⟨rfl, q, rfl⟩
    refine ⟨_, rfl, ?_, Lib.below_putRow (Below.refl _ _) hbase⟩
    have hc := Lib.ownsRow_putRow (q := q) (k := (Lib.compact l).length) (ys := Lib.compact l ++ List.replicate (l.length - (Lib.compact l).length) []) ho' (by simp; omega) (by omega)
    rw [List.take_left] at hc
    unfold Own
    rw [flat_encS]
    exact hc
end Go.Proofs.YtikboodjfanjkaaGreatDoor
namespace Go.Proofs.YtikboodjfanjkaaGreatDoor
open Go.RowKit

theorem less_bef' : ∀ a b : Str, Op.bytesLess a b = bef a b
  | [], [] => by simp [Op.bytesLess, bytesBefore]
  | [], _ :: _ => by simp [Op.bytesLess, bytesBefore]
  | _ :: _, [] => by simp [Op.bytesLess, bytesBefore]
  | a :: r, b :: s => by
    have ih := less_bef' r s
    show Op.bytesLess (a :: r) (b :: s) = (decide (a < b) || (a == b && bytesBefore r s))
    unfold Op.bytesLess
    rw [ih]
theorem at_take {α : Type} {enc : α → List Value} {sz : Nat} {w : World} {a : Option Addr} {n c : Nat} {l : List α} (h : At enc sz w (.slice a n c) l) {k : Nat} (hk : k ≤ l.length) : At enc sz w (.slice a k c) (l.take k) := by
  obtain ⟨a', c', b, o, hv, ha, hc, hm, hx⟩ := h
  cases hv
  have hl : (l.take k).length = k := by rw [List.length_take]; omega
  refine ⟨a, c, b, o, by rw [hl], fun h0 => ha (by omega), by omega, hm, fun i x hi j u hu => hx i x ?_ j u hu⟩
  rw [List.getElem?_take] at hi
  split at hi
  · exact hi
  · cases hi
theorem at_drop {α : Type} {enc : α → List Value} {sz : Nat} {w : World} {b o n c : Nat} {l : List α} (h : At enc sz w (.slice (some ⟨b, o, none⟩) n c) l) {k : Nat} (hk : k ≤ l.length) : At enc sz w (.slice (some ⟨b, o + k * sz, none⟩) (n - k) (c - k)) (l.drop k) := by
  obtain ⟨a', c', b', o', hv, ha, hc, hm, hx⟩ := h
  cases hv
  have hl : (l.drop k).length = l.length - k := List.length_drop
  refine ⟨_, c - k, b, o + k * sz, by rw [hl], fun _ => rfl, by omega, by omega, fun i x hi j u hu => ?_⟩
  rw [List.getElem?_drop] at hi
  have hlt := (List.getElem?_eq_some_iff.1 hi).1
  have h1 := hx _ x hi j u hu
  have h2 := ha (by omega)
  simp only [Option.some.injEq, Addr.mk.injEq, and_true] at h2
  obtain ⟨rfl, rfl⟩ := h2
  rw [show o + k * sz + i * sz + j = o + (k + i) * sz + j by rw [Nat.add_mul]; omega]
  exact h1

/-- s[:k] and s[k:] of a slice. -/
theorem sl_to {α : Type} {P : Program} {t e : TypeId} {enc : α → List Value} {sz : Nat} {w : World} {a : Option Addr} {c : Nat} {l : List α} (ht : P.underlying t = some (.slice e)) (hsz : ∀ w, (sizeOf e).run P w = .ok sz w) (h : At enc sz w (.slice a l.length c) l) (k : Nat) (hk : k ≤ l.length) :
    (∀ W, (Instr.slice t (.slice a l.length c) none (some (.int .i64 (k : Int))) none).run P W = .ok (.slice a k c) W) ∧ At enc sz w (.slice a k c) (l.take k) := by
  refine ⟨fun W => ?_, at_take h hk⟩
  have hc : l.length ≤ c := by obtain ⟨_, _, _, _, hv, _, hc, _⟩ := h; cases hv; exact hc
  have h2 : (k : Int) ≤ (c : Int) := by omega
  cases a with
  | none => simp [Instr.slice, Instr.sliceBounds, run_underlying ht, hsz, go_sem, h2]
  | some ad =>
    simp [Instr.slice, Instr.sliceBounds, run_underlying ht, hsz, go_sem, h2]
theorem sl_from {α : Type} {P : Program} {t e : TypeId} {enc : α → List Value} {sz : Nat} {w : World} {a : Option Addr} {c : Nat} {l : List α} (ht : P.underlying t = some (.slice e)) (hsz : ∀ w, (sizeOf e).run P w = .ok sz w) (h : At enc sz w (.slice a l.length c) l) (k : Nat) (hk : k ≤ l.length) :
    ∃ a2 c2, (∀ W, (Instr.slice t (.slice a l.length c) (some (.int .i64 (k : Int))) none none).run P W = .ok (.slice a2 (l.length - k) c2) W) ∧ At enc sz w (.slice a2 (l.length - k) c2) (l.drop k) := by
  obtain ⟨a', c', b, o, hv, ha, hc, hm, hx⟩ := h
  cases hv
  rcases Nat.eq_zero_or_pos l.length with h0 | h0
  · have hk0 : k = 0 := by omega
    subst hk0
    refine ⟨a, c, fun W => ?_, ⟨a, c, b, o, by rw [List.length_drop], fun h => absurd h (by rw [List.length_drop]; omega), by rw [List.length_drop]; omega, hm, fun j y hj => absurd (List.getElem?_eq_some_iff.1 hj).1 (by rw [List.length_drop]; omega)⟩⟩
    have h3 : (0 : Int) ≤ (c : Int) := by omega
    cases a with
    | none => simp [Instr.slice, Instr.sliceBounds, run_underlying ht, hsz, go_sem, h0]
    | some ad =>
      have h0' : ad.add 0 = ad := by unfold Addr.add; split <;> simp_all
      simp [Instr.slice, Instr.sliceBounds, run_underlying ht, hsz, go_sem, h0, h0']
  · obtain rfl := ha h0
    have hadd : (⟨b, o, none⟩ : Addr).add (k * sz) = ⟨b, o + k * sz, none⟩ := by unfold Addr.add; split <;> simp_all
    by_cases h : c = k
    · refine ⟨some ⟨b, o, none⟩, c - k, fun W => ?_, ?_⟩
      · have hk' : (k : Int) ≤ l.length := by omega
        simp [Instr.slice, Instr.sliceBounds, run_underlying ht, hsz, hk, h, go_sem]
      · have hl : l.length = k := by omega
        refine ⟨_, c - k, b, o, by rw [List.length_drop], fun _ => rfl, by simp; omega, by omega, fun i x hi j u hu => ?_⟩
        rw [List.drop_of_length_le (by omega)] at hi; simp at hi
    · refine ⟨some ⟨b, o + k * sz, none⟩, c - k, fun W => ?_, ?_⟩
      · have hk' : (k : Int) ≤ l.length := by omega
        simp [Instr.slice, Instr.sliceBounds, run_underlying ht, hsz, hk, h, go_sem]
      · refine ⟨_, c - k, b, o + k * sz, by rw [List.length_drop], fun _ => rfl, by simp; omega, by omega, fun i x hi j u hu => ?_⟩
        rw [List.getElem?_drop] at hi
        have := hx (k + i) x hi j u hu
        rwa [show o + k * sz + i * sz + j = o + (k + i) * sz + j by rw [Nat.add_mul]; omega]

set_option maxRecDepth 20000 in
set_option maxHeartbeats 1000000 in
theorem with_any (v : Value) (l : List Str) (s : Str) (w : World) (hl : StrsAt w v l) (hn : l.length ≤ 100000) :
    Calls Tryz.prog 62 #[v, S s] w fun e w' => ∃ u, e = .returned u ∧ StrsAt w' u (withL l s) ∧ Below w.heap.size w w' := by
  have HL := Lib.hid hl
  obtain ⟨a, c, b, o, rfl, ha, hc, hcm, hx⟩ := hl
  unfold maxLen at hcm
  go_enter Tryz.func62, Tryz.ntmps62
  go_upto_block 0 with fail
  go_cut [5] (fun u wx => ∃ k : Nat, u = .int .i64 k ∧ k ≤ l.length ∧ (∀ j < k, ∀ x, l[j]? = some x → bef x s = true) ∧ (∀ x, l[k]? = some x → bef x s = false) ∧ Below w.heap.size w wx)
  case first =>
    go_wp2_with fail
    go_loopw [5] (fun u wx => ∃ k : Nat, u = .int .i64 k ∧ k ≤ l.length ∧ Hid (∀ j < k, ∀ x, l[j]? = some x → bef x s = true) ∧ Below w.heap.size w wx) (fun i _ => l.length - (intOf i).toNat)
    case atStart => exact ⟨0, rfl, by omega, Lib.hid fun j hj => absurd hj (by omega), Below.refl _ _⟩
    case round =>
      obtain ⟨k, rfl, hk, hj, hb⟩ := hrel
      by_cases hlt : k < l.length
      case neg =>
        have f : decide ((k : Int) < (l.length : Int)) = false := by simp; omega
        go_wp2_with fail
        go_meet
        refine ⟨k, rfl, hk, hj.out, ?_, hb⟩
        intro x hx
        rw [List.getElem?_eq_none (by omega)] at hx
        cases hx
      have f : (k : Int) < (l.length : Int) := by omega
      obtain ⟨x, hxk⟩ := get_ex hlt
      have q0 := hx k x hxk 0 _ rfl
      have q0 := (hb.cell (World.block_lt_of_cell? w _ q0)).trans q0
      have i1 := idx_at (c := c) 1 Tryz.underlying24 szStr ha k hlt
      simp only [Nat.add_zero, Nat.mul_one] at q0 i1
      have HX := Lib.hid hxk
      clear hxk
      go_wp2_with fail
      · rename_i hle
        refine ⟨⟨k + 1, by go_num, by omega, Lib.hid fun j hj' y hy => ?_, hb⟩, by simp [intOf]; omega⟩
        rcases Nat.lt_or_ge j k with h | h
        · exact hj.out j h y hy
        · obtain rfl : j = k := by omega
          rw [HX.out] at hy
          cases hy
          exact (less_bef' _ _).symm.trans hle
      · rename_i hle
        go_meet
        refine ⟨k, rfl, hk, hj.out, fun y hy => ?_, hb⟩
        rw [HX.out] at hy
        cases hy
        exact (less_bef' _ _).symm.trans hle
  case rest =>
    obtain ⟨k, rfl, hk, hj, hk2, hb⟩ := hcut
    have hwi := withL_at hk hj hk2
    have HW := Lib.hid hwi
    clear hj hk2 hwi
    obtain ⟨hs1, hsA⟩ := sl_to (P := Tryz.prog) Tryz.underlying24 szStr HL.out k hk
    obtain ⟨a2, c2, hs2, hsB⟩ := sl_from (P := Tryz.prog) Tryz.underlying24 szStr HL.out k hk
    have hlt1 : (l.take k).length = k := by rw [List.length_take]; omega
    have hld1 : (l.drop k).length = l.length - k := List.length_drop
    have hat1 : StrsAt wc (.slice a k c) (l.take k) := hsA.below hb
    have hsrc1 := hat1.src encS_enc (by decide)
    rw [hlt1] at hsrc1
    have HB := Lib.hid hsB
    have HLT := Lib.hid hlt1
    have HLD := Lib.hid hld1
    clear hsA hsB hat1 hlt1 hld1
    by_cases hlt : k < l.length
    case neg =>
      have f : decide ((k : Int) < (l.length : Int)) = false := by simp; omega
      have f' : decide (k < l.length) = false := by simp; omega
      have HR : Hid (withL l s = l.take k ++ s :: l.drop k) := Lib.hid (by rw [HW.out, if_neg (by rw [List.getElem?_eq_none (by omega)]; simp)])
      clear HW hlt
      go_wp2_with (first
      | (at_builtin; refine wpList_app rfl _ _ _ rfl w.heap.size elStr (.slice none 0 0) 0 [] rfl (Own.nil encS _ 1 _ _) _ _ _ rfl hsrc1 (by unfold maxLen; omega) (by omega) hb.size ?_; intro v1 w2 hown1 hg1 _; have hown1' : Own encS 9 1 w.heap.size w2 v1 (l.take k) := (by unfold Own; rw [HLT.out]; simpa using hown1); have hb2 : Below w.heap.size w w2 := hb.grown hg1 hb.size (fun k hk => by cases hk); clear hown1 hg1 hsrc1)
      | (at_builtin; refine wpList_app rfl _ _ _ rfl w.heap.size elStr v1 (l.take k).length _ rfl (hown1'.alloc _) (.slice (some ⟨w2.heap.size, 0, none⟩) 1 1) 1 (encS s) rfl (src_one rfl rfl (by simp [Value.oneCell'])) (by rw [HLT.out]; unfold maxLen; omega) (by rw [HLT.out]; omega) (by have := hb2.size; simp; omega) ?_; intro v2 w3 hown2 hg2 _; have hown2' := Own.snoc hown2; have hb3 : Below w.heap.size w w3 := (Bapp (hb2.alloc hb2.size _) (hown1'.alloc _) hg2 (Nat.le_refl _) (by have := hb2.size; simp; omega)); have hsrc3 := (HB.out.below hb3).src encS_enc (by decide); rw [HLD.out] at hsrc3; have hl3 : (l.take k ++ [s]).length = k + 1 := (by rw [List.length_append, HLT.out]; rfl); have HL3 := Lib.hid hl3; clear hown2 hg2 hl3)
      | (at_builtin; refine wpList_app rfl _ _ _ rfl w.heap.size elStr v2 (l.take k ++ [s]).length _ rfl hown2' _ _ _ rfl hsrc3 (by rw [HL3.out]; unfold maxLen; omega) (by rw [HL3.out]; omega) hb3.size ?_; intro v3 w4 hown3 hg3 _))
      have hown3' : Own encS 9 1 w.heap.size w4 v3 (withL l s) := by
        rw [HR.out, show l.take k ++ s :: l.drop k = (l.take k ++ [s]) ++ l.drop k by simp]
        unfold Own
        rw [List.length_append, List.flatMap_append, HLD.out]
        exact hown3
      have hb4 := Bapp hb3 hown2' hg3 (Nat.le_refl _) hb3.size
      go_ret
      exact ⟨_, rfl, hown3'.at encS_enc, hb4⟩
    have f : (k : Int) < (l.length : Int) := by omega
    obtain ⟨x, hxk⟩ := get_ex hlt
    have q0 := hx k x hxk 0 _ rfl
    have q0 := (hb.cell (World.block_lt_of_cell? w _ q0)).trans q0
    have i1 := idx_at (c := c) 1 Tryz.underlying24 szStr ha k hlt
    simp only [Nat.add_zero, Nat.mul_one] at q0 i1
    have HX := Lib.hid hxk
    clear hxk
    by_cases he : x = s
    case pos =>
      have g : (x == s) = true := by simpa using he
      have HR : Hid (withL l s = l) := Lib.hid (by rw [HW.out, HX.out, he]; simp)
      clear he HW
      go_wp2_with fail
      go_ret
      exact ⟨_, rfl, by rw [HR.out]; exact HL.out.below hb, hb⟩
    have g : (x == s) = false := by simpa using he
    have HR : Hid (withL l s = l.take k ++ s :: l.drop k) := Lib.hid (by rw [HW.out, HX.out, if_neg (by simpa using he)])
    clear he HW
    go_wp2_with (first
      | (at_builtin; refine wpList_app rfl _ _ _ rfl w.heap.size elStr (.slice none 0 0) 0 [] rfl (Own.nil encS _ 1 _ _) _ _ _ rfl hsrc1 (by unfold maxLen; omega) (by omega) hb.size ?_; intro v1 w2 hown1 hg1 _; have hown1' : Own encS 9 1 w.heap.size w2 v1 (l.take k) := (by unfold Own; rw [HLT.out]; simpa using hown1); have hb2 : Below w.heap.size w w2 := hb.grown hg1 hb.size (fun k hk => by cases hk); clear hown1 hg1 hsrc1)
      | (at_builtin; refine wpList_app rfl _ _ _ rfl w.heap.size elStr v1 (l.take k).length _ rfl (hown1'.alloc _) (.slice (some ⟨w2.heap.size, 0, none⟩) 1 1) 1 (encS s) rfl (src_one rfl rfl (by simp [Value.oneCell'])) (by rw [HLT.out]; unfold maxLen; omega) (by rw [HLT.out]; omega) (by have := hb2.size; simp; omega) ?_; intro v2 w3 hown2 hg2 _; have hown2' := Own.snoc hown2; have hb3 : Below w.heap.size w w3 := (Bapp (hb2.alloc hb2.size _) (hown1'.alloc _) hg2 (Nat.le_refl _) (by have := hb2.size; simp; omega)); have hsrc3 := (HB.out.below hb3).src encS_enc (by decide); rw [HLD.out] at hsrc3; have hl3 : (l.take k ++ [s]).length = k + 1 := (by rw [List.length_append, HLT.out]; rfl); have HL3 := Lib.hid hl3; clear hown2 hg2 hl3)
      | (at_builtin; refine wpList_app rfl _ _ _ rfl w.heap.size elStr v2 (l.take k ++ [s]).length _ rfl hown2' _ _ _ rfl hsrc3 (by rw [HL3.out]; unfold maxLen; omega) (by rw [HL3.out]; omega) hb3.size ?_; intro v3 w4 hown3 hg3 _))
    have hown3' : Own encS 9 1 w.heap.size w4 v3 (withL l s) := by
      rw [HR.out, show l.take k ++ s :: l.drop k = (l.take k ++ [s]) ++ l.drop k by simp]
      unfold Own
      rw [List.length_append, List.flatMap_append, HLD.out]
      exact hown3
    have hb4 := Bapp hb3 hown2' hg3 (Nat.le_refl _) hb3.size
    go_ret
    exact ⟨_, rfl, hown3'.at encS_enc, hb4⟩
end Go.Proofs.YtikboodjfanjkaaGreatDoor
namespace Go.Proofs.YtikboodjfanjkaaGreatDoor
open Go.RowKit Go.ChangeShapes Go.WideShapes

def errName : Nat → String
  | 1 => "deedbox/api.ErrText" | 2 => "deedbox/api.ErrBound" | 3 => "deedbox/api.ErrShape" | 4 => "deedbox/api.ErrKind" | 5 => "deedbox/api.ErrName" | 6 => "deedbox/api.ErrNone"
  | 7 => "deedbox/api.ErrExist" | 8 => "deedbox/api.ErrFull" | 9 => "deedbox/api.ErrOrder" | 10 => "deedbox/api.ErrSum" | 11 => "deedbox/api.ErrStale" | _ => "deedbox/api.ErrOff"
theorem errName_inj : ∀ c ∈ allE, ∀ d ∈ allE, errName c = errName d → c = d := by decide

theorem laidVars_get {P : Program} {w : World} : ∀ {L : List (String × DataW Unit)} {ps : List MemPlace} {i : Nat} {n : String} {d : DataW Unit}, DataW.LaidVars P w L ps → L[i]? = some (n, d) →
    ∃ g t cs fuel p, P.globalNamed n = some g ∧ (P.globals[g]?).map (·.type) = some t ∧ w.var? P n = some cs ∧ DataW.trod (fun _ => ()) P w 0 (fun _ => true) false fuel t cs.toList = some (d, p) ∧ ∀ x ∈ MemPlace.row ⟨g, 0, none⟩ cs.size ++ p, x ∈ ps
  | [], _, i, n, d, _, hi => by simp at hi
  | (n0, d0) :: r, ps, 0, n, d, h, hi => by
    obtain ⟨g, t, cs, fuel, p, q, h1, h2, h3, h4, _, rfl⟩ := h
    simp only [List.getElem?_cons_zero, Option.some.injEq, Prod.mk.injEq] at hi
    obtain ⟨rfl, rfl⟩ := hi
    exact ⟨g, t, cs, fuel, p, h1, h2, h3, h4, fun x hx => List.mem_append_left _ hx⟩
  | (n0, d0) :: r, ps, i + 1, n, d, h, hi => by
    obtain ⟨g, t, cs, fuel, p, q, _, _, _, _, h5, rfl⟩ := h
    obtain ⟨g', t', cs', fuel', p', h1, h2, h3, h4, h6⟩ := laidVars_get h5 (by simpa using hi)
    exact ⟨g', t', cs', fuel', p', h1, h2, h3, h4, fun x hx => List.mem_append_right _ (h6 x hx)⟩

theorem laidVars_apart {P : Program} {w : World} : ∀ {L : List (String × DataW Unit)} {ps : List MemPlace} {i j : Nat} {n m : String} {d e : DataW Unit}, DataW.LaidVars P w L ps → ps.Nodup → i < j → L[i]? = some (n, d) → L[j]? = some (m, e) →
    ∃ (g : Nat) (t : TypeId) (cs : Array Value) (fuel : Nat) (p : List MemPlace) (g' : Nat) (t' : TypeId) (cs' : Array Value) (fuel' : Nat) (p' : List MemPlace), P.globalNamed n = some g ∧ (P.globals[g]?).map (·.type) = some t ∧ w.var? P n = some cs ∧ DataW.trod (fun _ => ()) P w 0 (fun _ => true) false fuel t cs.toList = some (d, p) ∧
      P.globalNamed m = some g' ∧ (P.globals[g']?).map (·.type) = some t' ∧ w.var? P m = some cs' ∧ DataW.trod (fun _ => ()) P w 0 (fun _ => true) false fuel' t' cs'.toList = some (e, p') ∧ ∀ x ∈ p, x ∉ p'
  | [], _, i, j, n, m, d, e, _, _, _, hi, _ => by simp at hi
  | (n0, d0) :: r, ps, 0, j + 1, n, m, d, e, h, hnd, _, hi, hj => by
    obtain ⟨g, t, cs, fuel, p, q, h1, h2, h3, h4, h5, rfl⟩ := h
    simp only [List.getElem?_cons_zero, Option.some.injEq, Prod.mk.injEq] at hi
    obtain ⟨rfl, rfl⟩ := hi
    obtain ⟨g', t', cs', fuel', p', h1', h2', h3', h4', h6⟩ := laidVars_get h5 (by simpa using hj)
    refine ⟨g, t, cs, fuel, p, g', t', cs', fuel', p', h1, h2, h3, h4, h1', h2', h3', h4', fun x hx hx' => ?_⟩
    have hd := (List.nodup_append.1 hnd).2.2
    exact hd x (List.mem_append_right _ hx) x (h6 x (List.mem_append_right _ hx')) rfl
  | (n0, d0) :: r, ps, i + 1, j + 1, n, m, d, e, h, hnd, hij, hi, hj => by
    obtain ⟨g, t, cs, fuel, p, q, _, _, _, _, h5, rfl⟩ := h
    exact laidVars_apart (i := i) (j := j) h5 (List.nodup_append.1 hnd).2.1 (by omega) (by simpa using hi) (by simpa using hj)
  | _ :: _, _, _, 0, _, _, _, _, _, _, hij, _, _ => by omega

/-- Behind what address a variable's error lies. -/
noncomputable def addrOf (W : World) (c : Nat) : Addr :=
  match W.var? Tryz.prog (errName c) with
  | some #[.iface _ (.pointer (some a))] => a
  | _ => ⟨0, 0, none⟩

theorem gn1 : Tryz.prog.globalNamed (errName 1) = some (errG 1) := by kernel_rfl
theorem gn2 : Tryz.prog.globalNamed (errName 2) = some (errG 2) := by kernel_rfl
theorem gn3 : Tryz.prog.globalNamed (errName 3) = some (errG 3) := by kernel_rfl
theorem gn4 : Tryz.prog.globalNamed (errName 4) = some (errG 4) := by kernel_rfl
theorem gn5 : Tryz.prog.globalNamed (errName 5) = some (errG 5) := by kernel_rfl
theorem gn6 : Tryz.prog.globalNamed (errName 6) = some (errG 6) := by kernel_rfl
theorem gn7 : Tryz.prog.globalNamed (errName 7) = some (errG 7) := by kernel_rfl
theorem gn8 : Tryz.prog.globalNamed (errName 8) = some (errG 8) := by kernel_rfl
theorem gn9 : Tryz.prog.globalNamed (errName 9) = some (errG 9) := by kernel_rfl
theorem gn10 : Tryz.prog.globalNamed (errName 10) = some (errG 10) := by kernel_rfl
theorem gn11 : Tryz.prog.globalNamed (errName 11) = some (errG 11) := by kernel_rfl
theorem gn12 : Tryz.prog.globalNamed (errName 12) = some (errG 12) := by kernel_rfl
theorem gt1 : (Tryz.prog.globals[errG 1]?).map (·.type) = some 62 := by kernel_rfl
theorem gt2 : (Tryz.prog.globals[errG 2]?).map (·.type) = some 62 := by kernel_rfl
theorem gt3 : (Tryz.prog.globals[errG 3]?).map (·.type) = some 62 := by kernel_rfl
theorem gt4 : (Tryz.prog.globals[errG 4]?).map (·.type) = some 62 := by kernel_rfl
theorem gt5 : (Tryz.prog.globals[errG 5]?).map (·.type) = some 62 := by kernel_rfl
theorem gt6 : (Tryz.prog.globals[errG 6]?).map (·.type) = some 62 := by kernel_rfl
theorem gt7 : (Tryz.prog.globals[errG 7]?).map (·.type) = some 62 := by kernel_rfl
theorem gt8 : (Tryz.prog.globals[errG 8]?).map (·.type) = some 62 := by kernel_rfl
theorem gt9 : (Tryz.prog.globals[errG 9]?).map (·.type) = some 62 := by kernel_rfl
theorem gt10 : (Tryz.prog.globals[errG 10]?).map (·.type) = some 62 := by kernel_rfl
theorem gt11 : (Tryz.prog.globals[errG 11]?).map (·.type) = some 62 := by kernel_rfl
theorem gt12 : (Tryz.prog.globals[errG 12]?).map (·.type) = some 62 := by kernel_rfl
theorem starE : "*" ++ "errors.errorString" = "*errors.errorString" := by decide
theorem rowE (u : TypeId) (h : Tryz.prog.typeName? 3 u = some "*errors.errorString") : u = 294 :=
  typeName_ptr_named (nm := "errors.errorString") (by rw [starE]; kernel_rfl) (by kernel_rfl) (by decide) u (by rw [starE]; exact h)
theorem cellsErrStr : Tryz.prog.cellsOf 296 = 1 := by kernel_rfl
theorem cellsStr : Tryz.prog.cellsOf 9 = 1 := by kernel_rfl

set_option maxRecDepth 100000 in
/-- WHAT THE CONDITION GIVES THE WALKS: the sentinels of the numbers D, where the list L bears each at the place idx says. -/
theorem errs_of_laid {L : List (String × DataW Unit)} {W : World} (h : laidMet Tryz.prog L W) (D : List Nat) (idx : Nat → Nat) (hD : ∀ c ∈ D, c ∈ allE)
    (hg : ∀ c ∈ D, Tryz.prog.globalNamed (errName c) = some (errG c)) (ht : ∀ c ∈ D, (Tryz.prog.globals[errG c]?).map (·.type) = some 62)
    (hL : ∀ c ∈ D, ∃ text, L[idx c]? = some (errName c, .iface "*errors.errorString" (.ptr (.agg [.lit (.string text)])))) :
    Errs D (addrOf W) W.heap.size W := by
  obtain ⟨ps, hv, hnd, hrows⟩ := h
  have key : ∀ c ∈ D, ∀ {g t cs fuel p text}, Tryz.prog.globalNamed (errName c) = some g → (Tryz.prog.globals[g]?).map (·.type) = some t → W.var? Tryz.prog (errName c) = some cs →
      DataW.trod (fun _ => ()) Tryz.prog W 0 (fun _ => true) false fuel t cs.toList = some (.iface "*errors.errorString" (.ptr (.agg [.lit (.string text)])), p) → (∀ x ∈ MemPlace.row ⟨g, 0, none⟩ cs.size, x ∈ ps) →
      W.cell? ⟨errG c, 0, none⟩ = some (.iface 294 (.pointer (some (addrOf W c)))) ∧ (∃ s, W.cell? (addrOf W c) = some (.string s)) ∧ p = MemPlace.row (addrOf W c) 1 := by
    intro c hc g t cs fuel p text h1 h2 h3 h4 h5
    obtain rfl := Option.some.inj ((hg c hc).symm.trans h1)
    obtain rfl := Option.some.inj ((ht c hc).symm.trans h2)
    obtain ⟨l0⟩ := cs
    have ok0 : ∀ u v, l0 = [.iface u v] → Value.okWide Tryz.prog W .any 0 u v := fun u v e => by
      subst e
      exact (hrows (errG c) 0 (h5 _ (by simp [MemPlace.row]))).2 u v (by simpa using World.var?_cell h1 h3 0)
    obtain ⟨a0, s0, rfl, hc0, hs0, hz0, rfl⟩ := errorString_of_trod Tryz.underlying62 rowE Tryz.underlying294 Tryz.underlying296 rfl rfl Tryz.underlying9 cellsErrStr cellsStr h4 ok0
    have ea : addrOf W c = a0 := by
      unfold addrOf
      rw [h3]
      exact rfl
    refine ⟨?_, ⟨s0, by rw [ea]; exact hc0⟩, by rw [ea]⟩
    rw [ea]
    simpa using World.var?_cell h1 h3 0
  have get : ∀ c ∈ D, W.cell? ⟨errG c, 0, none⟩ = some (.iface 294 (.pointer (some (addrOf W c)))) ∧ (∃ s, W.cell? (addrOf W c) = some (.string s)) ∧ MemPlace.cell (addrOf W c).block (addrOf W c).off ∈ ps := by
    intro c hc
    obtain ⟨text, hl⟩ := hL c hc
    obtain ⟨g, t, cs, fuel, p, h1, h2, h3, h4, h5⟩ := laidVars_get hv hl
    obtain ⟨k1, k2, rfl⟩ := key c hc h1 h2 h3 h4 (fun x hx => h5 x (List.mem_append_left _ hx))
    exact ⟨k1, k2, h5 _ (List.mem_append_right _ (by simp [MemPlace.row]))⟩
  have apart : ∀ c ∈ D, ∀ d ∈ D, idx c < idx d → addrOf W c ≠ addrOf W d := by
    intro c hc d hd hlt he
    obtain ⟨t1, hl1⟩ := hL c hc
    obtain ⟨t2, hl2⟩ := hL d hd
    obtain ⟨g, t, cs, fuel, p, g', t', cs', fuel', p', a1, a2, a3, a4, b1, b2, b3, b4, hap⟩ := laidVars_apart hv hnd hlt hl1 hl2
    obtain ⟨g0, t0, cs0, f0, p0, u1, u2, u3, u4, u5⟩ := laidVars_get hv hl1
    obtain ⟨g0', t0', cs0', f0', p0', v1, v2, v3, v4, v5⟩ := laidVars_get hv hl2
    obtain rfl := Option.some.inj (a1.symm.trans u1)
    obtain rfl := Option.some.inj (a3.symm.trans u3)
    obtain rfl := Option.some.inj (b1.symm.trans v1)
    obtain rfl := Option.some.inj (b3.symm.trans v3)
    obtain ⟨_, _, rfl⟩ := key c hc a1 a2 a3 a4 (fun x hx => u5 x (List.mem_append_left _ hx))
    obtain ⟨_, _, rfl⟩ := key d hd b1 b2 b3 b4 (fun x hx => v5 x (List.mem_append_left _ hx))
    rw [he] at hap
    exact hap (.cell (addrOf W d).block (addrOf W d).off) (by simp [MemPlace.row]) (by simp [MemPlace.row])
  refine ⟨fun c hc => (get c hc).1, fun c hc => (hrows _ _ (get c hc).2.2).1, fun c hc => ?_, fun c hc d hd he => ?_, Nat.le_refl _⟩
  · obtain ⟨k1, ⟨s, k2⟩, _⟩ := get c hc
    exact ⟨World.block_lt_of_cell? W _ k2, World.block_lt_of_cell? W ⟨errG c, 0, none⟩ k1⟩
  · rcases Nat.lt_trichotomy (idx c) (idx d) with h | h | h
    · exact absurd he (apart c hc d hd h)
    · obtain ⟨t1, hl1⟩ := hL c hc
      obtain ⟨t2, hl2⟩ := hL d hd
      rw [h, hl2] at hl1
      have : errName d = errName c := by simpa using congrArg (fun x => x.1) (Option.some.inj hl1)
      exact errName_inj c (hD c hc) d (hD d hd) this.symm
    · exact absurd he.symm (apart d hd c hc h)

theorem etG : Tryz.prog.globalNamed "errors.errorType" = some 12 := by kernel_rfl
theorem rtT : (Tryz.prog.cutTypes.find? (·.1 == "internal/reflectlite.rtype")).map (·.2) = some 246 := by kernel_rfl
theorem oneRowE : ((List.range 323).filter fun t => Tryz.prog.rowNamed t [101, 114, 114, 111, 114]) = [62] := by kernel_rfl
theorem typesSize : Tryz.prog.types.size = 323 := by kernel_rfl
theorem asVar_of_laid {L : List (String × DataW Unit)} {W : World} (h : handlesMet Tryz.prog L W) (hm : ("errors.errorType", .iface "internal/reflectlite.rtype" (.agg [.ptr (.lit (.string [101, 114, 114, 111, 114]))])) ∈ L) : AsVar W := by
  obtain ⟨name, u, ty, e1, e2, e3, e4, e5⟩ := h _ hm
  have en : name = [101, 114, 114, 111, 114] := (Option.some.inj e1).symm
  subst en
  obtain rfl := Option.some.inj (rtT.symm.trans e2)
  have hm : ty ∈ (List.range 323).filter fun t => Tryz.prog.rowNamed t [101, 114, 114, 111, 114] := List.mem_filter.2 ⟨List.mem_range.2 (by rw [← typesSize]; exact e3), e4⟩
  rw [oneRowE] at hm
  obtain rfl := List.mem_singleton.1 hm
  have hh : typeHandle Tryz.prog 62 = .pointer (some ⟨21, 62, none⟩) := by kernel_rfl
  rw [hh] at e5
  have := World.var?_cell etG e5 0
  unfold AsVar
  simpa using this
end Go.Proofs.YtikboodjfanjkaaGreatDoor
namespace Go.Proofs.YtikboodjfanjkaaGreatDoor
open Go.ChangeShapes Go.WideShapes Go.ChangeAt Go.RowKit

theorem handed_both {H : Type} {enc : TypeId × Value → H} {a : Assume} {C : Checked} {os : Os} {f : FuncId} {fn : Func} {s : ChangeSpec} {conds : List PathCond} {apart fresh handsOn again : Bool} {X : World → Array Value → Prop}
    (hX : ∀ (w w' : World) (args : Array Value), w.heap = w'.heap → X w args → X w' args)
    (own : ownKnob C.prog.godebug = none) (started : os.Started) (noInit : C.prog.inits.idxOf? f = none) (hfn : C.prog.funcs[f]? = some fn)
    (witness : ∃ (w : World) (tape : Tape) (i : Input), w.os = os ∧ (w.forCall tape i).Shaped C.prog ∧ i.vars = [] ∧ Input.okWide C.prog (w.forCall tape i) .any w.heap.size f i ∧
      ((s.pre enc C.prog fn conds apart (w.forCall tape i).memory i.args ∧ X (w.forCall tape i).memory i.args) ∧ sizedMet enc C.prog fn (OpenSpec.ofChange s) apart (w.forCall tape i).memory i.args) ∧ a.holds C.prog (lone (Frame.enter C.prog f i.args .normal) [] (w.forCall tape i)))
    (contract : ∀ (W : World) (base : Nat) (args : Array Value) (ds gs : List (DataW H)) (before : List MemPlace),
      (∀ (j : Nat) t v, fn.params[j]? = some t → args[j]? = some v → Value.okWide C.prog W .any base t v) →
      DataW.Whole enc C.prog fn.params.toList s.vars apart W args.toList ds gs before → X W args → W.ShapedOpen C.prog →
      Calls C.prog f args W fun e W' => ∃ v, e = .returned v ∧ s.post enc C.prog fn apart fresh handsOn again W args v W') :
    ReturnsInHanded a C os f .any (fun w args => (s.pre enc C.prog fn conds apart w args ∧ X w args) ∧ sizedMet enc C.prog fn (OpenSpec.ofChange s) apart w args) (s.post enc C.prog fn apart fresh handsOn again) := by
  refine returnsInHanded_of_calls own started noInit witness ?_
  intro w tape i _ hsh _ hok hpre _
  obtain ⟨_, _, _, fn', hfn', _, _, _, _, hval⟩ := hok
  have e : fn' = fn := Option.some.inj (hfn'.symm.trans hfn)
  subst e
  obtain ⟨⟨⟨ds, gs, before, hw, hc⟩, hx⟩, hz⟩ := hpre
  have hw' := DataW.Whole.of_heap (w' := w.forCall tape i) (by rfl) hw
  refine (contract (w.forCall tape i) w.heap.size i.args ds gs before hval hw' (hX _ _ _ (by rfl) hx) hsh).mono fun e W' ⟨v, he, hp⟩ => ?_
  subst he
  exact ChangeSpec.post_blind hp

theorem cellsInt : Tryz.prog.cellsOf 3 = 1 := by kernel_rfl
theorem laidOut : laidOutB Tryz.prog = true := by kernel_rfl

set_option maxRecDepth 100000 in
/-- A slice of numbers that came in. -/
theorem ints_came {H : Type} {enc : TypeId × Value → H} {W : World} {base : Nat} {sp : Nat → Bool} {v : Value} {d : DataW H} {p : List MemPlace} (hv : Value.okWide Tryz.prog W .any base 33 v)
    (h : DataW.Trod enc Tryz.prog W 0 sp true 33 v d p) : ∃ l, IntsAt W v l ∧ ∀ x ∈ l, (Lit.int .i64 x).wf = true := by
  obtain ⟨a0, len, cap, rfl⟩ := okWide_slice Tryz.underlying33 hv
  obtain ⟨fuel, hf⟩ := h
  rcases open_ints Tryz.underlying33 Tryz.underlying3 cellsInt hf with ⟨hcs, hx⟩ | ⟨a, len', cap', zs, hcs, _, hl, hm, hz, hx, hcell, hwz⟩
  · simp [Value.cells] at hcs
    obtain ⟨rfl, rfl, rfl⟩ := hcs
    exact ⟨[], At.nil _ _ _, fun _ h => by cases h⟩
  · simp [Value.cells] at hcs
    obtain ⟨rfl, rfl, rfl⟩ := hcs
    have hzl : len ≤ zs.length := by split at hz <;> omega
    have hlen : (zs.take len).length = len := by rw [List.length_take]; omega
    refine ⟨zs.take len, ⟨some a, cap, a.block, a.off, by rw [hlen], fun h0 => ?_, by rw [hlen]; exact hl, hm, fun k x hk j u hu => ?_⟩, fun x hx => hwz x (List.mem_of_mem_take hx)⟩
    · obtain ⟨b, off, spot⟩ := a
      have hs : spot = none := by simpa [Addr.add] using World.cell?_spot (hcell 0 (by omega))
      subst hs; rfl
    · obtain rfl : j = 0 := by
        rcases Nat.eq_zero_or_pos j with h | h
        · exact h
        · rw [List.getElem?_eq_none (by simp; omega)] at hu; cases hu
      obtain rfl : .int .i64 x = u := by simpa using hu
      have hk' : k < len := by
        rcases Nat.lt_or_ge k len with h | h
        · exact h
        · rw [List.getElem?_eq_none (by omega)] at hk; cases hk
      have hc := hcell k (by omega)
      have hx : zs.getD k 0 = x := by
        rw [List.getElem?_take_of_lt hk'] at hk
        simp [List.getD, hk]
      rw [hx] at hc
      obtain ⟨b, off, spot⟩ := a
      have hs : spot = none := by simpa [Addr.add] using World.cell?_spot (hcell 0 (by omega))
      subst hs
      have hadd : (⟨b, off, none⟩ : Addr).add k = ⟨b, off + k, none⟩ := by
        unfold Addr.add; split <;> simp_all
      rw [hadd] at hc
      simpa using hc

theorem global_lt {P : Program} {W : World} {g : Nat} (h : W.ShapedOpen P) (hg : g < P.globals.size) (h0 : (((begin P (fun _ _ => 0) default).world.heap[g]?).bind Obj.row?).isSome = true) : g < W.heap.size := by
  obtain ⟨⟨zero, t⟩, hx⟩ := Option.isSome_iff_exists.1 h0
  obtain ⟨cs, hh, _⟩ := h.1 g zero t hg hx
  exact (Array.getElem?_eq_some_iff.1 hh).1
theorem lastG : ((((begin Tryz.prog (fun _ _ => 0) default).world.heap[21 - 1]?).bind Obj.row?).isSome) = true := by kernel_rfl
theorem globals_le {W : World} (h : W.ShapedOpen Tryz.prog) : 21 ≤ W.heap.size := by
  have := global_lt h (g := 21 - 1) (of_decide_eq_true (by kernel_rfl)) lastG
  omega
theorem max_begin : ((begin Tryz.prog (fun _ _ => 0) default).world.heap[13]?).bind Obj.row? = some (#[.int .i64 0], 3) := by kernel_rfl
theorem lmax_of {W : World} (h : W.ShapedOpen Tryz.prog) : LMax W.heap.size W :=
  ⟨cell_of_shapedOpen_int (g := 13) (t := 3) h (of_decide_eq_true (by kernel_rfl)) max_begin rfl (by kernel_rfl) (by kernel_rfl) Tryz.underlying3, globals_le h, Nat.le_refl _⟩

theorem tabT : (Tryz.prog.globals[14]?).map (·.type) = some 265 := by kernel_rfl
theorem synG : Tryz.prog.globalNamed "strconv.ErrSyntax" = some 19 := by kernel_rfl
theorem synT : (Tryz.prog.globals[19]?).map (·.type) = some 62 := by kernel_rfl
theorem rngG : Tryz.prog.globalNamed "strconv.ErrRange" = some 20 := by kernel_rfl
theorem rngT : (Tryz.prog.globals[20]?).map (·.type) = some 62 := by kernel_rfl
theorem cells20 : Tryz.prog.cellsOf 265 = 20 := by kernel_rfl
theorem cellsU64 : Tryz.prog.cellsOf 161 = 1 := by kernel_rfl
theorem under20 : Tryz.prog.underlying 265 = some (.array 20 161) := by kernel_rfl
theorem underU64 : Tryz.prog.underlying 161 = some (.int .u64) := by kernel_rfl

theorem iface_laid {W : World} {L : List (String × DataW Unit)} {ps : List MemPlace} {i g : Nat} {n nm : String} {d : DataW Unit} (hv : DataW.LaidVars Tryz.prog W L ps) (hi : L[i]? = some (n, .iface nm d)) (hg : Tryz.prog.globalNamed n = some g) (ht : (Tryz.prog.globals[g]?).map (·.type) = some 62) :
    ∃ te pe, W.cell? ⟨g, 0, none⟩ = some (.iface te pe) := by
  obtain ⟨g', t, cs, fuel, p, h1, h2, h3, h4, h5⟩ := laidVars_get hv hi
  obtain rfl := Option.some.inj (hg.symm.trans h1)
  obtain rfl := Option.some.inj (ht.symm.trans h2)
  obtain ⟨l0⟩ := cs
  obtain ⟨f1, u, v, rfl, _, _⟩ := iface_of_trod Tryz.underlying62 h4
  exact ⟨u, v, by simpa using World.var?_cell hg h3 0⟩

theorem lnum_of {W : World} {L : List (String × DataW Unit)} {i j k : Nat} {n1 n2 : String} {d1 d2 : DataW Unit} (h : laidMet Tryz.prog L W) (hsh : W.ShapedOpen Tryz.prog) (hi : L[i]? = some ("internal/strconv.uint64pow10", Lib.tabData .u64 Lib.pow10Tab))
    (hj : L[j]? = some ("strconv.ErrSyntax", .iface n1 d1)) (hk : L[k]? = some ("strconv.ErrRange", .iface n2 d2)) : LNum W.heap.size W := by
  obtain ⟨ps, hv, _, _⟩ := h
  refine ⟨?_, iface_laid hv hj synG synT, iface_laid hv hk rngG rngT, globals_le hsh, Nat.le_refl _⟩
  obtain ⟨g', t, cs, fuel, p, h1, h2, h3, h4, h5⟩ := laidVars_get hv hi
  obtain rfl := Option.some.inj (pow10G.symm.trans h1)
  obtain rfl := Option.some.inj (tabT.symm.trans h2)
  unfold Lib.TabIs
  rw [h3, ← Lib.cells_of_tab under20 underU64 cellsU64 cells20 h4]
end Go.Proofs.YtikboodjfanjkaaGreatDoor
namespace Go.Proofs.YtikboodjfanjkaaGreatDoor
open Go.ChangeShapes Go.WideShapes Go.ChangeAt Go.RowKit

structure LTab (B : Nat) (w : World) : Prop where
  tab : Lib.TabIs Tryz.prog w "internal/strconv.uint64pow10" .u64 Lib.pow10Tab
  low : 21 ≤ B
  le : B ≤ w.heap.size
theorem LTab.below {B : Nat} {w w' : World} (h : LTab B w) (hb : Below B w w') : LTab B w' := by
  have hl := h.low
  have hB := h.le
  refine ⟨?_, hl, Nat.le_trans hB hb.size⟩
  have ht := h.tab
  unfold Lib.TabIs World.var? at ht ⊢
  rw [pow10G] at ht ⊢
  simp only [Option.bind_some] at ht ⊢
  rw [hb.block 14 (by omega)]
  exact ht
theorem LTab.below' {B B' : Nat} {w w' : World} (h : LTab B w) (hb : Below B' w w') (hB : B ≤ B') : LTab B w' := h.below (hb.mono hB)
theorem LNum.tab' {B : Nat} {w : World} (h : LNum B w) : LTab B w := ⟨h.tab, h.low, h.le⟩
theorem itoaT_any (B : Nat) (n : Int) (h0 : -9223372036854775808 ≤ n) (h1 : n ≤ 9223372036854775807) (w : World) (hT : LTab B w) :
    Calls Tryz.prog 114 #[.int .i64 n] w fun e w' => e = .returned (S (Lib.itoa n)) ∧ Below w.heap.size w w' :=
  (Tryz.strconv_Itoa n h0 h1 w hT.tab).mono fun e w' ⟨he, k, os, hw⟩ => ⟨he, by rw [hw]; exact Bgrow w k os⟩
theorem ltab_of {W : World} {L : List (String × DataW Unit)} {i : Nat} (h : laidMet Tryz.prog L W) (hsh : W.ShapedOpen Tryz.prog) (hi : L[i]? = some ("internal/strconv.uint64pow10", Lib.tabData .u64 Lib.pow10Tab)) : LTab W.heap.size W := by
  obtain ⟨ps, hv, _, _⟩ := h
  refine ⟨?_, globals_le hsh, Nat.le_refl _⟩
  obtain ⟨g', t, cs, fuel, p, h1, h2, h3, h4, h5⟩ := laidVars_get hv hi
  obtain rfl := Option.some.inj (pow10G.symm.trans h1)
  obtain rfl := Option.some.inj (tabT.symm.trans h2)
  unfold Lib.TabIs
  rw [h3, ← Lib.cells_of_tab under20 underU64 cellsU64 cells20 h4]
end Go.Proofs.YtikboodjfanjkaaGreatDoor
namespace Go.Proofs.YtikboodjfanjkaaGreatDoor
open Go.RowKit
attribute [local go_sem] bapp

/-- What append leaves of a block that lies ahead. -/
theorem grown_cell {w w' : World} {r : Option Nat} (hg : w.grownBy w' r) {H j : Nat} {u : Value} (hr : ∀ g, r = some g → g ≠ H) (hc : w.cell? ⟨H, j, none⟩ = some u) : w'.cell? ⟨H, j, none⟩ = some u := by
  have h1 := hg.block H (World.block_lt_of_cell? w _ hc) (fun e => hr H e.symm rfl)
  unfold World.cell? at hc ⊢
  rw [h1]
  exact hc
theorem own_blk {α : Type} {enc : α → List Value} {e : TypeId} {sz B : Nat} {w : World} {v : Value} {l : List α} (h : Own enc e sz B w v l) {H : Nat} (hH : w.heap.size ≤ H) : ∀ g, v.ownBlock = some g → g ≠ H := fun g hv e => by
  have := (World.ownsRow.lt h g hv).2
  omega
/-- Snaps that are not too many, of files that are not too many, and whose numbers are numbers. -/
structure FewSn (l : List SnV) : Prop where
  len : l.length ≤ 100
  fil : ∀ x ∈ l, x.s.files.length ≤ 100
  num : ∀ x ∈ l, -9223372036854775808 ≤ x.s.id ∧ x.s.id ≤ 9223372036854775807
theorem reachAll_snoc {l : List SnV} {k : Nat} {x : SnV} (h : l[k]? = some x) : reachAll (plainS (l.take (k + 1))) = reachAll (plainS (l.take k)) ++ (nameS x.s.id :: x.s.files.map (·.path)) := by
  rw [List.take_add_one, h]
  unfold reachAll reachT
  simp
theorem take_map_snoc {l : List Fl} {k : Nat} {x : Fl} (h : l[k]? = some x) : (l.take (k + 1)).map (·.path) = (l.take k).map (·.path) ++ [x.path] := by
  rw [List.take_add_one, h]; simp

theorem nameEx_any (B : Nat) (n : Int) (h0 : -9223372036854775808 ≤ n) (h1 : n ≤ 9223372036854775807) (w : World) (hT : LTab B w) :
    Calls Tryz.prog 59 #[.int .i64 n] w fun e w' => e = .returned (S (nameS n)) ∧ Below w.heap.size w w' := by
  go_enter Tryz.func59, Tryz.ntmps59
  go_wp2_with fail
  refine (itoaT_any B n h0 h1 w hT).mono ?_
  rintro e w1 ⟨rfl, hb⟩
  have hil := itoa_len n h0 h1
  go_wp2_with fail
  go_ret
  exact ⟨rfl, hb⟩

set_option maxRecDepth 20000 in
set_option maxHeartbeats 1000000 in
theorem reach_any (B : Nat) (v : Value) (l : List SnV) (w : World) (hT : LTab B w) (hl : SnapsAt w v l) (hh : HeldSn w l) (hf : FewSn l) :
    Calls Tryz.prog 15 #[v] w fun e w' => ∃ u, e = .returned u ∧ Own encS 9 1 w.heap.size w' u (reachL (plainS l)) ∧ Below w.heap.size w w' := by
  obtain ⟨a, c, b, o, rfl, ha, hc, hcm, hx⟩ := hl
  unfold maxLen at hcm
  have hBw := hT.le
  have hn := hf.len
  go_enter Tryz.func15, Tryz.ntmps15
  go_wp2_with fail
  go_loopw [3, 10] (fun v i wr => ∃ (k : Nat) (out : List Str), i = .int .i64 k ∧ k ≤ l.length ∧ out.length ≤ k * 101 ∧ Hid (out = reachAll (plainS (l.take k))) ∧ Own encS 9 1 w.heap.size wr v out ∧ Below w.heap.size w wr) (fun _ i _ => l.length - (intOf i).toNat)
  case atStart => exact ⟨0, [], rfl, by omega, by simp, Lib.hid rfl, Own.nil encS _ 1 _ _, Below.refl _ _⟩
  case round =>
    obtain ⟨k, out, rfl, hk, hol, HO, ho, hb⟩ := hrel
    by_cases hlt : k < l.length
    case neg =>
      obtain rfl : k = l.length := by omega
      have f : decide ((l.length : Int) < (l.length : Int)) = false := by simp
      have HR : Hid (Lib.compact (sortL out) = reachL (plainS l)) := Lib.hid (by rw [HO.out, List.take_length]; rfl)
      have hsz := hb.size
      have hlo : out.length ≤ 100000 := by omega
      clear hx ha hol
      go_wp2_with fail
      refine (sortS_any w.heap.size _ out _ ho hsz hlo).mono ?_
      rintro e w2 ⟨rfl, ho2, hb2⟩
      have hb2' := hb.trans hb2
      have hlo2 : (sortL out).length ≤ 100000 := by rw [sortL_len]; exact hlo
      go_wp2_with fail
      refine (compactS_any w.heap.size _ (sortL out) _ ho2 hlo2).mono ?_
      rintro e w3 ⟨u, rfl, ho3, hb3⟩
      go_wp2_with fail
      go_ret
      exact ⟨_, rfl, by rw [← HR.out]; exact ho3, hb2'.trans hb3⟩
    obtain ⟨x, hxk⟩ := get_ex hlt
    have hxm := List.mem_of_getElem? hxk
    obtain ⟨c0, c1, c2, c3, c4, c5, c6⟩ := snAtCells hx hb hxk
    have i1 := idx_at (c := c) 7 Tryz.underlying22 szSn ha k hlt
    have f : (k : Int) < (l.length : Int) := by omega
    obtain ⟨hid0, hid1⟩ := hf.num x hxm
    have hfl := hf.fil x hxm
    obtain ⟨fa, fc, fb, fo, hv, hfa, hfc, hfcm, hfx⟩ := hh x hxm
    simp only [SnV.u, Value.slice.injEq] at hv
    obtain ⟨e1, e2, e3⟩ := hv
    rw [e1, e2, e3] at c6
    unfold maxLen at hfcm
    have HRs := Lib.hid (reachAll_snoc hxk)
    have hbA : Below wr.heap.size wr (wr.alloc (.cells #[.int .i64 x.s.id, .int .i64 x.s.parent, .int .i64 x.s.seq, .int .i64 x.s.day, .int .i64 x.s.index, S x.s.op, .slice fa x.s.files.length fc] 30)) := (Below.refl _ _).alloc (Nat.le_refl _) _
    have hbA' := hb.trans (hbA.mono hb.size)
    obtain ⟨d0, -, -, -, -, -, d6⟩ := snapCells (w := wr) (s := x.s) (v := .slice fa x.s.files.length fc) (t := 30) (Below.refl _ _)
    have hoA := ho.alloc (.cells #[.int .i64 x.s.id, .int .i64 x.s.parent, .int .i64 x.s.seq, .int .i64 x.s.day, .int .i64 x.s.index, S x.s.op, .slice fa x.s.files.length fc] 30)
    have hTA := hT.below' hbA' hBw
    have hgH := own_blk ho (Nat.le_refl wr.heap.size)
    obtain ⟨H, hH⟩ : ∃ H, wr.heap.size = H := ⟨_, rfl⟩
    rw [hH] at d0 d6 hgH
    clear hxk hxm
    go_wp2_with fail
    generalize wr.alloc (.cells #[.int .i64 x.s.id, .int .i64 x.s.parent, .int .i64 x.s.seq, .int .i64 x.s.day, .int .i64 x.s.index, S x.s.op, .slice fa x.s.files.length fc] 30) = wA at *
    refine (nameEx_any B x.s.id hid0 hid1 wA hTA).mono ?_
    rintro e w2 ⟨rfl, hb2⟩
    have d6 := (hb2.cell (World.block_lt_of_cell? _ _ d6)).trans d6
    have ho2 := hoA.below hb2
    have hbA2 := hbA'.trans (hb2.mono hbA'.size)
    clear c0 c1 c2 c3 c4 c5 c6 d0 hoA hTA hb2
    go_wp2_with (at_builtin; refine wpList_app rfl _ _ _ rfl w.heap.size elStr _ out.length _ rfl (ho2.alloc _) (.slice (some ⟨w2.heap.size, 0, none⟩) 1 1) 1 [S (nameS x.s.id)] rfl (src_one rfl rfl (by simp [Value.oneCell'])) (by unfold maxLen; omega) (by omega) (by have := hbA2.size; simp; omega) ?_; intro v3 w3 hown hg _; have hb3 := Bapp (hbA2.alloc hbA2.size _) (ho2.alloc _) hg (Nat.le_refl _) (by have := hbA2.size; simp; omega); have d6 := grown_cell hg hgH (((Below.refl w2.heap.size w2).alloc (Nat.le_refl _) _).cell (World.block_lt_of_cell? _ _ d6) |>.trans d6))
    have ho3 := Own.snoc hown
    have hol3 : (out ++ [nameS x.s.id]).length ≤ k * 101 + 1 := by simp; omega
    have hrl3 : out ++ [nameS x.s.id] = reachAll (plainS (l.take k)) ++ (nameS x.s.id :: (x.s.files.take 0).map (·.path)) := by rw [HO.out]; rfl
    have HRl3 := Lib.hid hrl3
    obtain ⟨out3, hout3⟩ : ∃ out3, out3 = out ++ [nameS x.s.id] := ⟨_, rfl⟩
    rw [← hout3] at ho3 hol3 HRl3
    obtain ⟨fl, hfe⟩ : ∃ fl, fl = x.s.files := ⟨_, rfl⟩
    rw [← hfe] at hfl hfa hfc hfx d6 HRl3 HRs ⊢
    clear ho2 ho hown hg hb hbA hbA2 hbA' hrl3 hout3 hfe hid0 hid1 hgH i1 e1 e2 e3
    go_loopw [3, 23] (fun v i wq => ∃ (m : Nat) (out : List Str), i = .int .i64 m ∧ m ≤ fl.length ∧ out.length ≤ k * 101 + 1 + m ∧ Hid (out = reachAll (plainS (l.take k)) ++ (nameS x.s.id :: (fl.take m).map (·.path))) ∧ Own encS 9 1 w.heap.size wq v out ∧ Below w.heap.size w wq) (fun _ i _ => fl.length - (intOf i).toNat)
    case atStart => exact ⟨0, out3, rfl, by omega, by omega, HRl3, ho3, hb3⟩
    case round =>
      obtain ⟨m, out4, rfl, hm, hol4, HO4, ho4, hb4⟩ := hrel
      clear d6 hb3 ho3 hol3 HRl3
      by_cases hlm : m < fl.length
      case neg =>
        obtain rfl : m = fl.length := by omega
        have f2 : decide ((fl.length : Int) < (fl.length : Int)) = false := by simp
        have HF : Hid (out4 = reachAll (plainS (l.take (k + 1)))) := Lib.hid (by rw [HO4.out, HRs.out, List.take_length])
        go_wp2_with fail
        go_roundw
        case rel => exact ⟨k + 1, out4, by go_num, by omega, by omega, HF, ho4, hb4⟩
        case measure => simp [intOf]; omega
      obtain ⟨y, hym⟩ := get_ex hlm
      obtain ⟨q0, q1, q2, q3, q4, q5⟩ := flCells hfx hb4 hym
      have i2 := idx_at (c := fc) 6 Tryz.underlying28 szFl hfa m hlm
      have f2 : (m : Int) < (fl.length : Int) := by omega
      have HRm := Lib.hid (take_map_snoc hym)
      have hbB : Below w.heap.size w (wr.alloc (fileO y)) := hb4.alloc hb4.size _
      have hoB := ho4.alloc (fileO y)
      obtain ⟨p0, -⟩ := fileCells (w := wr) (f := y) rfl (Below.refl _ _)
      clear hym
      go_upto_region 9 with fail
      generalize wr.alloc (fileO y) = wB at *
      clear q0 q1 q2 q3 q4 q5
      go_wp2_with (at_builtin; refine wpList_app rfl _ _ _ rfl w.heap.size elStr _ out4.length _ rfl (hoB.alloc _) (.slice (some ⟨wB.heap.size, 0, none⟩) 1 1) 1 [S y.path] rfl (src_one rfl rfl (by simp [Value.oneCell'])) (by unfold maxLen; omega) (by omega) (by have := hbB.size; simp; omega) ?_; intro v5 w5 hown hg _; have hb5 := Bapp (hbB.alloc hbB.size _) (hoB.alloc _) hg (Nat.le_refl _) (by have := hbB.size; simp; omega))
      go_roundw
      case rel => exact ⟨m + 1, out4 ++ [y.path], by go_num, by omega, by simp; omega, Lib.hid (by rw [HO4.out, HRm.out]; simp), Own.snoc hown, hb5⟩
      case measure => simp [intOf]; omega
end Go.Proofs.YtikboodjfanjkaaGreatDoor
