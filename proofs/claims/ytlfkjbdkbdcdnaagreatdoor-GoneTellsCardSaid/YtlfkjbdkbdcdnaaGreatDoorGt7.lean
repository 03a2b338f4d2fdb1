/- data.table, data.Sum: the walks: the table has of each byte what its bits make; the sum is the sum in plain words. strconv.FormatUint in base ten: the walk. The shelf's contracts that the walks of this seat use, in plain declarations (written by the kit's tool, trimmed by a program). strings.Builder: WriteString and String, laid at this program by hand (the tool passes over copyCheck, whose body here names no text). file.Text; list.Text. data.Head, data.Whole, data.Fits: the walks; slices.Min, slices.Max, strings.Join as they use them. slices.Grow at the nil slice of texts, slices.Concat of two slices of texts; strings.Cut by one byte. -/
import Derived.Test.YtlfkjbdkbdcdnaaGreatDoorGt3
import Derived.Test.YtlfkjbdkbdcdnaaGreatDoorGt5
import Derived.Deep.WholeRow
import Derived.Laws.Tables
import Derived.Laws.Rows
import Derived.Laws.BitsAll
import Derived.Outline
import Derived.Test.YtlfkjbdkbdcdnaaGreatDoorGt2
import Derived.Lib.AppendIntMem
import Derived.Shelf.Strings.Builder1
import Derived.Shelf.Strings.Builder2
import Derived.Shelf.Strings.OnBuilder
import Derived.Shelf.Strings.Trim
import Derived.Shelf.Small.Utf8
import Derived.Shelf.Small.Bits
import Derived.Shelf.Small.Strs
import Derived.Shelf.Small.Wraps
import Derived.Shelf.Utf8.RuneCount
import Derived.Shelf.Strconv.Atoi
import Derived.Shelf.Strconv.Itoa0
import Derived.Shelf.Strconv.Itoa1
import Derived.Shelf.LaysM
import Derived.Shelf.Strconv.Itoa2
import Derived.Shelf.Strconv.Itoa3
import Derived.Shelf.Strconv.AtoiErrFast
import Derived.Shelf.Strconv.ParseIntEmpty
import Derived.Shelf.Strconv.AtoiFail
import Derived.Shelf.Strconv.Clone
import Derived.Shelf.Strconv.SyntaxError
import Derived.Shelf.LaysC
import Derived.Shelf.Strconv.ToError
import Derived.Shelf.Strconv.Lower
import Derived.Shelf.Strconv.ParseUint10
import Derived.Shelf.Strconv.ParseUint10Empty
import Derived.Shelf.Strconv.ParseUint10Any
import Derived.Shelf.Strconv.ParseInt10
import Derived.Shelf.Strconv.AtoiLong
import Derived.Shelf.Strconv.AtoiInnerAll
import Derived.Shelf.Strconv.RangeError
import Derived.Shelf.Strconv.ToErrorRange
import Derived.Shelf.Strconv.AtoiAll
import Derived.Shelf.Strconv.ErrVarAll
import Derived.Shelf.Strings.Search1
import Derived.Shelf.Strings.Search2
import Derived.Shelf.Strings.Search3
import Derived.Shelf.Strings.Cut
import Derived.Shelf.Strings.Count
import Derived.Shelf.Strings.Shaped
import Derived.Shelf.Sort.Plain
import Derived.Shelf.Strings.Split
import Derived.Shelf.Strings.SplitShaped
import Derived.Shelf.Unicode.Decode
import Derived.Shelf.Strings.Runes
import Derived.Shelf.Strings.RuneCount
import Derived.Shelf.Strings.AsciiSet
import Derived.Shelf.Strings.Explode
import Derived.Shelf.Unicode.DecodeSlow
import Derived.Shelf.Unicode.DecodeAny
import Derived.Shelf.Unicode.DecodeLast
import Derived.Shelf.Slices.Turned
import Derived.Ground.Names2Prog
import Derived.Shelf.Slices.CompactI
import Derived.Shelf.Slices.SearchI
import Derived.Shelf.Slices.Cells
import Derived.Shelf.Slices.In.SortNone
import Derived.Shelf.Slices.Empties
import Derived.Test.YtlfkjbdkbdcdnaaGreatDoorProg
import Derived.Test.YtlfkjbdkbdcdnaaGreatDoorGt1
import Derived.Test.YtlfkjbdkbdcdnaaGreatDoorGt6
import Derived.Deep.RegionHeld3
import Derived.Test.YtlfkjbdkbdcdnaaGreatDoorGt4
namespace Go.Proofs.YtlfkjbdkbdcdnaaGreatDoor
open Go.RowKit

theorem zero256 : Tryz.zeroCells137 = (List.replicate 256 (Value.int .u32 0)).toArray := by kernel_rfl
/-- The table's cells when k of them are laid. -/
def tabCells (k : Nat) : List Value := (List.range 256).map fun i => Value.int .u32 (if i < k then (crcIter 8 i : Nat) else 0)
theorem tab_zero : (List.replicate 256 (Value.int .u32 0)) = tabCells 0 := by
  unfold tabCells
  generalize 256 = n
  apply List.ext_getElem
  · simp
  · intro i h1 h2; simp
theorem tab_len (k : Nat) : (tabCells k).length = 256 := by simp [tabCells]
theorem tab_set {k : Nat} : (tabCells k).set k (.int .u32 (crcIter 8 k : Nat)) = tabCells (k + 1) := by
  apply List.ext_getElem
  · simp [tabCells]
  · intro i h1 h2
    rw [List.getElem_set]
    split
    · rename_i h; subst h; simp [tabCells]
    · rename_i h
      simp only [tabCells, List.getElem_map, List.getElem_range]
      by_cases h3 : i < k
      · rw [if_pos h3, if_pos (by omega)]
      · rw [if_neg h3, if_neg (by omega)]
theorem tab_at {i : Nat} (hi : i < 256) : (tabCells 256)[i]? = some (.int .u32 (crcIter 8 i : Nat)) := by
  rw [List.getElem?_eq_getElem (by rw [tab_len]; exact hi)]
  simp [tabCells, hi]
theorem tab_one (k : Nat) : (tabCells k).toArray.all (·.oneCell') = true := by
  rw [Array.all_eq_true_iff_forall_mem]
  intro v hv
  simp only [tabCells, List.mem_toArray, List.mem_map] at hv
  obtain ⟨i, _, rfl⟩ := hv
  rfl
/-- The same as an array: not to be opened. -/
def tabA (k : Nat) : Array Value := (tabCells k).toArray
theorem tabA_size (k : Nat) : (tabA k).size = 256 := by unfold tabA; rw [List.size_toArray, tab_len]
theorem tabA_set (k : Nat) : (tabA k).setIfInBounds k (.int .u32 (crcIter 8 k : Nat)) = tabA (k + 1) := by
  unfold tabA; rw [List.setIfInBounds_toArray, tab_set]
theorem tabA_cell (k : Nat) (hk : k < 256) : (tabA k)[k]? = some (.int .u32 0) := by
  unfold tabA
  rw [List.getElem?_toArray, List.getElem?_eq_getElem (by rw [tab_len]; exact hk)]
  simp [tabCells]
theorem tabA_at {i : Nat} (hi : i < 256) : (tabA 256)[i]? = some (.int .u32 (crcIter 8 i : Nat)) := by
  unfold tabA; rw [List.getElem?_toArray, tab_at hi]
theorem tabA_one (k : Nat) : (tabA k).all (·.oneCell') = true := tab_one k
theorem tabA_zero : Tryz.zeroCells137 = tabA 0 := by rw [zero256, tab_zero]; rfl
theorem size256 : (Tryz.prog.info? 137).map (·.size) = some 256 := by kernel_rfl
/-- A bit's round, as the walk spells it. -/
theorem bit_round {c : Nat} (h : c < 4294967296) : bits .xor .u32 ((c : Int) / 2) (IntKind.u32.wrap (3988292384 * bits .and .u32 (c : Int) 1)) = (crcBit c : Nat) ∧ bits .xor .u32 ((c : Int) / 2) (3988292384 * bits .and .u32 (c : Int) 1 % 4294967296) = (crcBit c : Nat) := by
  rw [← IntKind.wrap_u32', and_self]
  have h1 : bits .and .u32 (c : Int) 1 = ((c % 2 : Nat) : Int) := by
    have := u32_and_nat c 1 h (by omega)
    rw [show ((1 : Nat) : Int) = 1 from rfl] at this
    rw [this, Nat.and_one_is_mod]
  rw [h1]
  have h2 : IntKind.u32.wrap (3988292384 * ((c % 2 : Nat) : Int)) = ((crcP * (c % 2) : Nat) : Int) := by
    rw [IntKind.wrap_u32']; unfold crcP; omega
  rw [h2, show ((c : Int) / 2) = ((c / 2 : Nat) : Int) by omega, u32_xor_nat _ _ (by omega) (by unfold crcP; omega)]
  congr 1
  unfold crcBit
  rcases Nat.mod_two_eq_zero_or_one c with h3 | h3
  · rw [h3, if_neg (by omega)]; simp
  · rw [h3, if_pos rfl]; simp
set_option maxHeartbeats 1000000 in
set_option maxRecDepth 20000 in
theorem table_any (w : World) :
    Calls Tryz.prog 95 #[] w fun e w' => e = .returned (.agg (tabA 256)) ∧ Below w.heap.size w w' := by
  have hg1 : ((w.alloc (.cells Tryz.zeroCells137 137)).alloc (.cells Tryz.zeroCells137 137)).heap[w.heap.size + 1]? = some (.cells (tabA 0) 137 (0, 0)) := by
    rw [heap_alloc2_new, tabA_zero]
  have hg0 : ((w.alloc (.cells Tryz.zeroCells137 137)).alloc (.cells Tryz.zeroCells137 137)).heap[w.heap.size]? = some (.cells (tabA 0) 137 (0, 0)) := by
    rw [heap_alloc2_old, tabA_zero]
  have hb0 : Below w.heap.size w ((w.alloc (.cells Tryz.zeroCells137 137)).alloc (.cells Tryz.zeroCells137 137)) := ((Below.refl _ _).alloc (Nat.le_refl _) _).alloc (by simp) _
  have G1 := Lib.hid hg1; have G0 := Lib.hid hg0
  clear hg1 hg0
  go_enter Tryz.func95, Tryz.ntmps95
  go_wp2_with fail
  generalize (w.alloc (.cells Tryz.zeroCells137 137)).alloc (.cells Tryz.zeroCells137 137) = w0 at *
  obtain ⟨H, hH⟩ : ∃ H, w.heap.size = H := ⟨_, rfl⟩
  rw [hH] at G1 G0 hb0 ⊢
  have HH := Lib.hid hH; clear hH
  go_loopw [2, 3, 4, 9] (fun _ _ i _ wr => ∃ k : Nat, k ≤ 256 ∧ i = .int .i64 k ∧ Hid (wr.heap[H + 1]? = some (.cells (tabA k) 137 (0, 0))) ∧ Hid (wr.heap[H]? = some (.cells (tabA 0) 137 (0, 0))) ∧ Below H w wr) (fun _ _ i _ _ => 256 - (intOf i).toNat)
  case atStart => exact ⟨0, by omega, rfl, G1, G0, hb0⟩
  case round =>
    obtain ⟨k, hk, rfl, hg1, hg0, hb⟩ := hrel
    clear G1 G0 hb0
    by_cases hlt : k < 256
    case neg =>
      have f : decide ((k : Int) < 256) = false := by simp; omega
      obtain rfl : k = 256 := by omega
      go_wp2_with (first | (refine wpList_load_row rfl 137 _ rfl (H + 1) rfl 137 (tabA 256) (0, 0) _ hg1.out Tryz.underlying137 rfl (by rw [tabA_size]; exact size256) ?_) | (refine wpList_store_row rfl _ _ _ rfl H (tabA 256) rfl rfl 137 (tabA 0) hg0.out (by rw [tabA_size]; exact size256) (by rw [tabA_size, tabA_size]) (tabA_one _) ?_))
      exact bodyPost_ret (results_cell_row rfl _ _ H 137 (tabA 256) (0, 0) _ rfl (setRow_heap _ H _ _ _ _ hg0.out) Tryz.underlying137 rfl (by rw [tabA_size]; exact size256)) rfl ⟨rfl, by rw [HH.out]; exact hb.grown (grown_setRow wr H _) (Nat.le_of_lt (Array.getElem?_eq_some_iff.1 hg0.out).1) (fun k hk => by cases hk; exact Nat.le_refl _)⟩
    have hlt' : (k : Int) < 256 := by omega
    have hcv : IntKind.u32.wrap (k : Int) = k := by rw [IntKind.wrap_u32']; omega
    go_wp2_with fail
    obtain ⟨wo, rfl⟩ : ∃ wo : World, wo = wr := ⟨_, rfl⟩
    go_loop [3, 9] (fun c j => ∃ m : Nat, m ≤ 8 ∧ j = .int .i64 m ∧ c = .int .u32 (crcIter m k : Nat)) (fun _ j => 8 - (intOf j).toNat)
    case atStart => exact ⟨0, by omega, rfl, rfl⟩
    case round =>
      obtain ⟨m, hm, rfl, rfl⟩ := hrel
      by_cases hm8 : m < 8
      · have hm8' : (m : Int) < 8 := by omega
        have hc : crcIter m k < 4294967296 := crcIter_lt m (by omega)
        have hsu : crcIter (m + 1) k = crcBit (crcIter m k) := crcIter_succ m k
        have HSu := Lib.hid hsu; clear hsu
        generalize crcIter m k = c at *
        have hbr := (bit_round hc).2
        have h1 : (0 : Int) ≤ c := by omega
        have h2 : (c : Int) < 4294967296 := by omega
        go_wp2_with fail
        refine ⟨⟨m + 1, by omega, by go_num, by rw [HSu.out]⟩, ?_⟩
        simp [intOf]; omega
      · obtain rfl : m = 8 := by omega
        have c0 := cell_of_row wo (H + 1) k _ _ _ hg1.out
        rw [tabA_cell k hlt] at c0
        have f0 : wo.frozen? ⟨H + 1, k, none⟩ = false := frozen_row hg1.out
        generalize hcr : crcIter 8 k = cr at *
        go_wp2_with fail
        go_roundw
        case rel => exact ⟨k + 1, by omega, by go_num, Lib.hid (by rw [row_setCell hg1.out, ← hcr, tabA_set]), Lib.hid ((heap_setCell_other _ _ _ _ (by simp)).trans hg0.out), hb.setCell (p := ⟨H + 1, k, none⟩) (by simp) _⟩
        case measure => simp [intOf]; omega
/-- A byte's round, as the walk spells it. -/
theorem sum_round (c : Nat) (b : UInt8) : bits .xor .u8 ((c : Int) % 256) (b.toNat : Int) = ((c % 256 ^^^ b.toNat : Nat) : Int) := by
  rw [show ((c : Int) % 256) = ((c % 256 : Nat) : Int) by omega]
  exact u8_xor_nat _ _ (by omega) (byte_lt b)
theorem sum_round2 {c : Nat} (h : c < 4294967296) (b : UInt8) : bits .xor .u32 ((c : Int) / 256) ((crcIter 8 (c % 256 ^^^ b.toNat) : Nat) : Int) = (crcStep c b : Nat) := by
  have hx : c % 256 ^^^ b.toNat < 2 ^ 8 := Nat.xor_lt_two_pow (by omega) (byte_lt b)
  rw [show ((c : Int) / 256) = ((c / 256 : Nat) : Int) by omega, u32_xor_nat _ _ (by omega) (crcIter_lt 8 (by omega)), crc_table]
set_option maxHeartbeats 1000000 in
set_option maxRecDepth 200000 in
theorem sum_any (s : Str) (w : World) (hs : s.length ≤ 100000) :
    Calls Tryz.prog 39 #[S s] w fun e w' => e = .returned (.int .u32 (sumOf s : Nat)) ∧ Below w.heap.size w w' := by
  go_enter Tryz.func39, Tryz.ntmps39
  go_wp2_with fail
  refine (table_any w).mono ?_
  rintro e w1 ⟨rfl, hb1⟩
  go_wp2_with (refine wpList_store_row rfl _ _ _ rfl w1.heap.size (tabA 256) rfl rfl 137 (tabA 0) (by rw [heap_alloc_new, tabA_zero]) (by rw [tabA_size]; exact size256) (by rw [tabA_size, tabA_size]) (tabA_one _) ?_)
  have hb2 : Below w.heap.size w ((w1.alloc (.cells Tryz.zeroCells137 137)).setRow w1.heap.size (tabA 256)) := (hb1.alloc hb1.size _).grown (grown_setRow _ _ _) (by have := hb1.size; simp; omega) (fun k hk => by cases hk; exact hb1.size)
  have hg2 := setRow_heap (w1.alloc (.cells Tryz.zeroCells137 137)) w1.heap.size _ (tabA 256) _ _ (heap_alloc_new w1 _)
  have G2 := Lib.hid hg2; clear hg2
  generalize (w1.alloc (.cells Tryz.zeroCells137 137)).setRow w1.heap.size (tabA 256) = w2 at *
  generalize w1.heap.size = g at *
  generalize htb : tabA 256 = tb at *
  have HTb := Lib.hid htb; clear htb
  go_loop [4, 9] (fun c i => ∃ k : Nat, k ≤ s.length ∧ i = .int .i64 k ∧ c = .int .u32 (crcFold 4294967295 (s.take k) : Nat)) (fun _ i => s.length - (intOf i).toNat)
  case atStart => exact ⟨0, by omega, rfl, rfl⟩
  case round =>
    obtain ⟨k, hk, rfl, rfl⟩ := hrel
    have hc : crcFold 4294967295 (s.take k) < 4294967296 := crcFold_lt _ (by omega)
    by_cases hlt : k < s.length
    · have hk1 : (k : Int) < s.length := by omega
      have hsn : crcFold 4294967295 (s.take (k + 1)) = crcStep (crcFold 4294967295 (s.take k)) s[k] := by
        rw [take_snoc' (x := s[k]) (by simp [hlt]), crcFold_snoc]
      have HSn := Lib.hid hsn; clear hsn
      generalize crcFold 4294967295 (s.take k) = c at *
      have hbk : (({ data := s.toArray } : ByteArray)[k]'(by simpa [ByteArray.size] using hlt)) = s[k] := rfl
      have hr1 := sum_round c s[k]
      have hr2 := sum_round2 hc s[k]
      have hx8 : c % 256 ^^^ s[k].toNat < 2 ^ 8 := Nat.xor_lt_two_pow (by omega) (byte_lt s[k])
      have hca := cell_of_row w2 g (c % 256 ^^^ s[k].toNat) _ _ _ G2.out
      rw [← HTb.out, tabA_at (by omega)] at hca
      have hx0 : (0 : Int) ≤ ((c % 256 ^^^ s[k].toNat : Nat) : Int) := by omega
      have hx1 : ((c % 256 ^^^ s[k].toNat : Nat) : Int) < 256 := by omega
      have h1 : (0 : Int) ≤ c := by omega
      have h2 : (c : Int) < 4294967296 := by omega
      generalize c % 256 ^^^ s[k].toNat = x at *
      clear hc hb1 hb2 h1 h2
      go_wp2_with fail
      refine ⟨⟨k + 1, by omega, by go_num, by rw [HSn.out]⟩, ?_⟩
      simp [intOf]; omega
    · obtain rfl : k = s.length := by omega
      have hf : bits .xor .u32 IntKind.u32.max ((crcFold 4294967295 (s.take s.length) : Nat) : Int) = (sumOf s : Nat) := by
        rw [List.take_length] at hc ⊢
        have := u32_xor_nat 4294967295 (crcFold 4294967295 s) (by omega) hc
        unfold sumOf
        rw [Nat.xor_comm]
        exact this
      have HF := Lib.hid hf; clear hf
      generalize crcFold 4294967295 (s.take s.length) = c at *
      have HB2 := Lib.hid hb2
      have HS := Lib.hid hs
      clear hc hb1 hb2 hs
      go_wp2_with fail
      go_ret
      exact ⟨show Ending.returned (.int .u32 (bits .xor .u32 IntKind.u32.max (c : Int))) = _ by rw [HF.out], HB2.out⟩
end Go.Proofs.YtlfkjbdkbdcdnaaGreatDoor
namespace Go.Proofs.YtlfkjbdkbdcdnaaGreatDoor
open Go.RowKit Go.Sort Go.Lib

theorem formatUintI_any (u : Nat) (hu64 : u < 18446744073709551616) (w : World) (htab : Lib.TabIs Tryz.prog w "internal/strconv.uint64pow10" .u64 Lib.pow10Tab) :
    Calls Tryz.prog 191 #[.int .u64 u, .int .i64 10] w fun e w' => e = .returned (.string ⟨(Lib.decDigits u).toArray⟩) ∧ Below w.heap.size w w' := by
  by_cases hs : u < 100
  · have g : (u : Int) < 100 := by omega
    have hc : IntKind.i64.wrap (u : Int) = u := by rw [IntKind.wrap_i64]; omega
    go_enter Tryz.func191, Tryz.ntmps191
    go_wp2_with (go_at_call 185; refine (Tryz.internal_strconv_small u hs _).mono ?_; rintro e w' ⟨rfl, rfl⟩)
    go_ret
    exact ⟨rfl, Below.refl _ _⟩
  · have hu1 : 1 ≤ u := by omega
    have g : decide ((u : Int) < 100) = false := by simp; omega
    have hnd20 : Lib.nDigits u ≤ 20 := by have := Lib.numDigits_eq u hu1 hu64; split at this <;> omega
    have hal : Tryz.prog.arrayLen 227 = 24 := by simp [Program.arrayLen, Tryz.underlying227]
    have hsl : ∀ W, (Instr.sliceAt 227 (.pointer (some ⟨w.heap.size, 0, none⟩)) none (some (.int .i64 (Lib.nDigits u : Int))) none).run Tryz.prog W = .ok (.slice (some ⟨w.heap.size, 0, none⟩) (Lib.nDigits u) 24) W := fun W => by
      rw [run_sliceAt_array_h W 227 ⟨w.heap.size, 0, none⟩ (by simp [Program.arrayLen, Program.elem, Tryz.underlying227]) .i64 (Lib.nDigits u : Int) (by omega) (by rw [hal]; omega)]
      go_simp
    have hH0 := Lib.holds_zero0 w 227 (Lib.nDigits u) (by omega)
    have hfmt := Tryz.internal_strconv_formatBase10 w.heap.size 0 24 u (Array.replicate (Lib.nDigits u) 0) (w.alloc (.cells Lib.zeros24 227)) hH0 (by rw [Array.size_replicate]; exact Lib.lt_pow_nDigits u) hu64 (by rw [Array.size_replicate]; omega)
    rw [Array.size_replicate] at hfmt
    have HH0 := Lib.hid hH0
    clear hH0 hal
    go_enter Tryz.func191, Tryz.ntmps191
    go_wp2_with (go_at_call 186; refine (Tryz.internal_strconv_numDigits u hu1 hu64 _ (Lib.tabIs_alloc htab _)).mono ?_; rintro e w' ⟨rfl, rfl⟩)
    refine hfmt.mono ?_
    rintro e w' ⟨rfl, k, v', dk, rfl, hF⟩
    have hcv : (convert 46 9 (.slice (some ⟨w.heap.size, 0, none⟩) (Lib.nDigits u) 24)).run Tryz.prog ((putRow (fun (b : UInt8) => Value.int .u8 (b.toNat : Int)) (w.alloc (.cells Lib.zeros24 227)) w.heap.size 0 dk).drewN k) = .ok (.string ⟨(Lib.decDigits u).toArray⟩) ((putRow (fun (b : UInt8) => Value.int .u8 (b.toNat : Int)) (w.alloc (.cells Lib.zeros24 227)) w.heap.size 0 dk).drewN k) := by
      have h := run_convert_bytes_back (P := Tryz.prog) ((putRow (fun (b : UInt8) => Value.int .u8 (b.toNat : Int)) (w.alloc (.cells Lib.zeros24 227)) w.heap.size 0 dk).drewN k) 46 9 5 ⟨w.heap.size, 0, none⟩ 24 (Lib.decDigits u) Tryz.underlying46 Tryz.underlying5 Tryz.underlying9 (fun j hj => by
        rw [Lib.row_is_numeral hF j hj, Lib.add_plain, World.cell?_drewN]
        exact cell?_putRow (fun (b : UInt8) => Value.int .u8 (b.toNat : Int)) _ w.heap.size 0 _ dk HH0.out (by rw [hF.size, Array.size_replicate]) j (by rw [hF.size]; rw [Lib.decDigits_length] at hj; exact hj))
      rw [Lib.decDigits_length] at h
      exact h
    go_wp2_with fail
    go_ret
    obtain ⟨os, eo⟩ := Lib.fin_at w (.cells Lib.zeros24 227) dk k 0
    refine ⟨rfl, ?_⟩
    rw [eo]
    exact Bgrow w k os
theorem formatUint_any (B : Nat) (u : Nat) (hu64 : u < 18446744073709551616) (w : World) (hT : LNum B w) :
    Calls Tryz.prog 153 #[.int .u64 u, .int .i64 10] w fun e w' => e = .returned (S (Lib.itoa u)) ∧ Below w.heap.size w w' := by
  have h := formatUintI_any u hu64 w hT.tab
  rw [show Lib.decDigits u = Lib.itoa u from (Lib.itoa_nonneg u).symm] at h
  go_enter Tryz.func153, Tryz.ntmps153
  go_wp2_with fail
  refine h.mono ?_
  rintro e w1 ⟨rfl, hb⟩
  go_wp2_with fail
  go_ret
  exact ⟨rfl, hb⟩
end Go.Proofs.YtlfkjbdkbdcdnaaGreatDoor
namespace Go.Proofs
open Go.Shelf
def Tryz.lays156_ren : Go.Shelf.Ren := ⟨fun | 156 => 117 | 165 => 150 | 166 => 151 | 169 => 152 | 240 => 189 | 241 => 190 | 276 => 230 | 277 => 231 | n => n, fun | 31 => 107 | 9 => 9 | 3 => 3 | 4 => 4 | 0 => 0 | 20 => 20 | 72 => 189 | 76 => 161 | 70 => 187 | 37 => 46 | 75 => 27 | 127 => 231 | 164 => 194 | 5 => 5 | 80 => 191 | n => n, fun | n => n⟩
theorem Tryz.lays156 : Go.Proofs.Lays.n156 Tryz.prog Tryz.lays156_ren := {
  mixed := by kernel_rfl
  f156 := Tryz.func117.trans (congrArg some (by kernel_rfl))
  f165 := Tryz.func150.trans (congrArg some (by kernel_rfl))
  f166 := Tryz.func151.trans (congrArg some (by kernel_rfl))
  f169 := Tryz.func152.trans (congrArg some (by kernel_rfl))
  f240 := Tryz.func189.trans (congrArg some (by kernel_rfl))
  f241 := Tryz.func190.trans (congrArg some (by kernel_rfl))
  f276 := Tryz.func230.trans (congrArg some (by kernel_rfl))
  f277 := Tryz.func231.trans (congrArg some (by kernel_rfl))
  t0 := Tryz.underlying0
  a0 := Tryz.isAgg0
  z0 := Tryz.sizeOf0
  v0 := Tryz.zeroValue0
  t3 := Tryz.underlying3
  a3 := Tryz.isAgg3
  z3 := Tryz.sizeOf3
  v3 := Tryz.zeroValue3
  t4 := Tryz.underlying4
  a4 := Tryz.isAgg4
  z4 := Tryz.sizeOf4
  v4 := Tryz.zeroValue4
  t9 := Tryz.underlying9
  a9 := Tryz.isAgg9
  z9 := Tryz.sizeOf9
  v9 := Tryz.zeroValue9
  t20 := Tryz.underlying20
  a20 := Tryz.isAgg20
  z20 := Tryz.sizeOf20
  v20 := Tryz.zeroValue20
  t31 := Tryz.underlying107
  a31 := Tryz.isAgg107
  z31 := Tryz.sizeOf107
  v31 := Tryz.zeroValue107
  t37 := Tryz.underlying46
  a37 := Tryz.isAgg46
  z37 := Tryz.sizeOf46
  v37 := Tryz.zeroValue46
  t70 := Tryz.underlying187
  a70 := Tryz.isAgg187
  z70 := Tryz.sizeOf187
  v70 := Tryz.zeroValue187
  t72 := Tryz.underlying189
  a72 := Tryz.isAgg189
  z72 := Tryz.sizeOf189
  v72 := Tryz.zeroValue189
  t75 := Tryz.underlying27
  a75 := Tryz.isAgg27
  z75 := Tryz.sizeOf27
  v75 := Tryz.zeroValue27
  t76 := Tryz.underlying161
  a76 := Tryz.isAgg161
  z76 := Tryz.sizeOf161
  v76 := Tryz.zeroValue161
  t127 := Tryz.underlying231
  a127 := Tryz.isAgg231
  z127 := Tryz.sizeOf231
  v127 := Tryz.zeroValue231
  t164 := Tryz.underlying194
  a164 := Tryz.isAgg194
  z164 := Tryz.sizeOf194
  v164 := Tryz.zeroValue194 }
theorem Tryz.Builder_Extra_156 : Builder.Extra Tryz.prog Tryz.lays156_ren := {
  sizeBuilder := by kernel_rfl
  liesBuilder := by kernel_rfl
  t5 := Tryz.underlying5
  a5 := Tryz.isAgg5
  z5 := Tryz.sizeOf5
  v5 := Tryz.zeroValue5
  infoByte := by kernel_rfl
  cellsByte := by kernel_rfl
  sizeByte := by kernel_rfl
  neB5 := by decide }
open Go.RowKit in
theorem Tryz.strings_Join_none (a : Option Addr) (c : Nat) (sep : ByteArray) (w : World) :
    Calls Tryz.prog 117 #[.slice a 0 c, .string sep] w fun e w' => e = .returned (.string ⟨#[]⟩) ∧ w' = w := Any.strings_Join_none Tryz.lays156 Tryz.Builder_Extra_156 a c sep w
open Go.RowKit in
theorem Tryz.strings_Join (bk o c : Nat) (xs : List ByteArray) (sep : ByteArray) (w : World) (hcells : ∀ (j : Nat) x, xs[j]? = some x → w.cell? ⟨bk, o + j, none⟩ = some (.string x)) (hbk : bk < w.heap.size) (hN : xs.length ≤ 140737488355328) (hcap : xs.length ≤ c) (hlen : (Lib.join (xs.map (·.data.toList)) sep.data.toList).length ≤ 140737488355328) :
    Calls Tryz.prog 117 #[.slice (some ⟨bk, o, none⟩) xs.length c, .string sep] w fun e w' => e = .returned (.string ⟨(Lib.join (xs.map (·.data.toList)) sep.data.toList).toArray⟩) ∧ Below w.heap.size w w' := Any.strings_Join Tryz.lays156 Tryz.Builder_Extra_156 bk o c xs sep w hcells hbk hN hcap hlen
def Tryz.lays189_ren : Go.Shelf.Ren := ⟨fun | 189 => 147 | 125 => 111 | 257 => 184 | 128 => 143 | 129 => 144 | 294 => 218 | 295 => 219 | 296 => 220 | 297 => 221 | 298 => 222 | 299 => 223 | 216 => 120 | 300 => 224 | 301 => 225 | 328 => 243 | 329 => 179 | 330 => 180 | 331 => 244 | 332 => 245 | 215 => 156 | 343 => 253 | n => n, fun | 28 => 39 | 3 => 3 | 46 => 139 | 0 => 0 | 51 => 72 | 53 => 184 | 4 => 4 | 183 => 177 | 182 => 176 | 131 => 113 | 5 => 5 | 9 => 9 | 218 => 219 | 222 => 223 | 228 => 264 | 229 => 118 | n => n, fun | n => n⟩
theorem Tryz.lays189 : Go.Proofs.Lays.n189 Tryz.prog Tryz.lays189_ren := {
  mixed := by kernel_rfl
  f125 := Tryz.func111.trans (congrArg some (by kernel_rfl))
  f128 := Tryz.func143.trans (congrArg some (by kernel_rfl))
  f129 := Tryz.func144.trans (congrArg some (by kernel_rfl))
  f189 := Tryz.func147.trans (congrArg some (by kernel_rfl))
  f215 := Tryz.func156.trans (congrArg some (by kernel_rfl))
  f216 := Tryz.func120.trans (congrArg some (by kernel_rfl))
  f257 := Tryz.func184.trans (congrArg some (by kernel_rfl))
  f294 := Tryz.func218.trans (congrArg some (by kernel_rfl))
  f295 := Tryz.func219.trans (congrArg some (by kernel_rfl))
  f296 := Tryz.func220.trans (congrArg some (by kernel_rfl))
  f297 := Tryz.func221.trans (congrArg some (by kernel_rfl))
  f298 := Tryz.func222.trans (congrArg some (by kernel_rfl))
  f299 := Tryz.func223.trans (congrArg some (by kernel_rfl))
  f300 := Tryz.func224.trans (congrArg some (by kernel_rfl))
  f301 := Tryz.func225.trans (congrArg some (by kernel_rfl))
  f328 := Tryz.func243.trans (congrArg some (by kernel_rfl))
  f329 := Tryz.func179.trans (congrArg some (by kernel_rfl))
  f330 := Tryz.func180.trans (congrArg some (by kernel_rfl))
  f331 := Tryz.func244.trans (congrArg some (by kernel_rfl))
  f332 := Tryz.func245.trans (congrArg some (by kernel_rfl))
  f343 := Tryz.func253.trans (congrArg some (by kernel_rfl))
  t0 := Tryz.underlying0
  a0 := Tryz.isAgg0
  z0 := Tryz.sizeOf0
  v0 := Tryz.zeroValue0
  t3 := Tryz.underlying3
  a3 := Tryz.isAgg3
  z3 := Tryz.sizeOf3
  v3 := Tryz.zeroValue3
  t4 := Tryz.underlying4
  a4 := Tryz.isAgg4
  z4 := Tryz.sizeOf4
  v4 := Tryz.zeroValue4
  t5 := Tryz.underlying5
  a5 := Tryz.isAgg5
  z5 := Tryz.sizeOf5
  v5 := Tryz.zeroValue5
  t9 := Tryz.underlying9
  a9 := Tryz.isAgg9
  z9 := Tryz.sizeOf9
  v9 := Tryz.zeroValue9
  t28 := Tryz.underlying39
  a28 := Tryz.isAgg39
  z28 := Tryz.sizeOf39
  v28 := Tryz.zeroValue39
  t46 := Tryz.underlying139
  a46 := Tryz.isAgg139
  z46 := Tryz.sizeOf139
  v46 := Tryz.zeroValue139
  t51 := Tryz.underlying72
  a51 := Tryz.isAgg72
  z51 := Tryz.sizeOf72
  v51 := Tryz.zeroValue72
  t53 := Tryz.underlying184
  a53 := Tryz.isAgg184
  z53 := Tryz.sizeOf184
  v53 := Tryz.zeroValue184
  t131 := Tryz.underlying113
  a131 := Tryz.isAgg113
  z131 := Tryz.sizeOf113
  v131 := Tryz.zeroValue113
  t182 := Tryz.underlying176
  a182 := Tryz.isAgg176
  z182 := Tryz.sizeOf176
  v182 := Tryz.zeroValue176
  t183 := Tryz.underlying177
  a183 := Tryz.isAgg177
  z183 := Tryz.sizeOf177
  v183 := Tryz.zeroValue177
  t218 := Tryz.underlying219
  a218 := Tryz.isAgg219
  z218 := Tryz.sizeOf219
  v218 := Tryz.zeroValue219
  t222 := Tryz.underlying223
  a222 := Tryz.isAgg223
  z222 := Tryz.sizeOf223
  v222 := Tryz.zeroValue223
  t228 := Tryz.underlying264
  a228 := Tryz.isAgg264
  z228 := Tryz.sizeOf264
  v228 := Tryz.zeroValue264
  t229 := Tryz.underlying118
  a229 := Tryz.isAgg118
  z229 := Tryz.sizeOf118
  v229 := Tryz.zeroValue118 }
open Go.Sort Go.RowKit in
theorem Tryz.slices_Sort_int (blk off cap : Nat) (zs : List Int) (w : World) (hH : Holds (Value.int .i64) w blk off zs.toArray) (hblk : blk < w.heap.size) (hsz : zs.length < 4611686018427387904) :
    Calls Tryz.prog 147 #[.slice (some ⟨blk, off, none⟩) zs.length cap] w fun e w' =>
      e = .returned (.tuple #[]) ∧ ∃ n os, w' = grow (putRow (Value.int .i64) (Sort.ahead w n) blk off (zs.mergeSort fun x y => decide (x ≤ y)).toArray) os := Any.slices_Sort_int Tryz.lays189 blk off cap zs w hH hblk hsz
def Tryz.lays113_ren : Go.Shelf.Ren := ⟨fun | 113 => 105 | n => n, fun | 28 => 39 | 3 => 3 | 4 => 4 | 9 => 9 | 20 => 20 | 0 => 0 | n => n, fun | n => n⟩
theorem Tryz.lays113 : Go.Proofs.Lays.n113 Tryz.prog Tryz.lays113_ren := {
  mixed := by kernel_rfl
  f113 := Tryz.func105.trans (congrArg some (by kernel_rfl))
  t0 := Tryz.underlying0
  a0 := Tryz.isAgg0
  z0 := Tryz.sizeOf0
  v0 := Tryz.zeroValue0
  t3 := Tryz.underlying3
  a3 := Tryz.isAgg3
  z3 := Tryz.sizeOf3
  v3 := Tryz.zeroValue3
  t4 := Tryz.underlying4
  a4 := Tryz.isAgg4
  z4 := Tryz.sizeOf4
  v4 := Tryz.zeroValue4
  t9 := Tryz.underlying9
  a9 := Tryz.isAgg9
  z9 := Tryz.sizeOf9
  v9 := Tryz.zeroValue9
  t20 := Tryz.underlying20
  a20 := Tryz.isAgg20
  z20 := Tryz.sizeOf20
  v20 := Tryz.zeroValue20
  t28 := Tryz.underlying39
  a28 := Tryz.isAgg39
  z28 := Tryz.sizeOf39
  v28 := Tryz.zeroValue39 }
open Go.Lib in
theorem Tryz.slices_Max_int (b off n c : Nat) (zs : List Int) (w : World) (hn : 0 < n) (hz : n ≤ zs.length) (hbig : n ≤ 9223372036854775807) (hc : ∀ j, j < zs.length → w.cell? ⟨b, off + j, none⟩ = some (.int .i64 (zs.getD j 0))) :
    Calls Tryz.prog 105 #[.slice (some ⟨b, off, none⟩) n c] w fun e w' => e = .returned (.int .i64 (Lib.maxOf (zs.take n))) ∧ w' = w := Any.slices_Max_int Tryz.lays113 b off n c zs w hn hz hbig hc
def Tryz.lays114_ren : Go.Shelf.Ren := ⟨fun | 114 => 104 | n => n, fun | 28 => 39 | 3 => 3 | 4 => 4 | 9 => 9 | 20 => 20 | 0 => 0 | n => n, fun | n => n⟩
theorem Tryz.lays114 : Go.Proofs.Lays.n114 Tryz.prog Tryz.lays114_ren := {
  mixed := by kernel_rfl
  f114 := Tryz.func104.trans (congrArg some (by kernel_rfl))
  t0 := Tryz.underlying0
  a0 := Tryz.isAgg0
  z0 := Tryz.sizeOf0
  v0 := Tryz.zeroValue0
  t3 := Tryz.underlying3
  a3 := Tryz.isAgg3
  z3 := Tryz.sizeOf3
  v3 := Tryz.zeroValue3
  t4 := Tryz.underlying4
  a4 := Tryz.isAgg4
  z4 := Tryz.sizeOf4
  v4 := Tryz.zeroValue4
  t9 := Tryz.underlying9
  a9 := Tryz.isAgg9
  z9 := Tryz.sizeOf9
  v9 := Tryz.zeroValue9
  t20 := Tryz.underlying20
  a20 := Tryz.isAgg20
  z20 := Tryz.sizeOf20
  v20 := Tryz.zeroValue20
  t28 := Tryz.underlying39
  a28 := Tryz.isAgg39
  z28 := Tryz.sizeOf39
  v28 := Tryz.zeroValue39 }
open Go.Lib in
theorem Tryz.slices_Min_int (b off n c : Nat) (zs : List Int) (w : World) (hn : 0 < n) (hz : n ≤ zs.length) (hbig : n ≤ 9223372036854775807) (hc : ∀ j, j < zs.length → w.cell? ⟨b, off + j, none⟩ = some (.int .i64 (zs.getD j 0))) :
    Calls Tryz.prog 104 #[.slice (some ⟨b, off, none⟩) n c] w fun e w' => e = .returned (.int .i64 (Lib.minOf (zs.take n))) ∧ w' = w := Any.slices_Min_int Tryz.lays114 b off n c zs w hn hz hbig hc
def Tryz.laysNm220_ren : Go.Shelf.Ren := ⟨fun | 20 => 115 | n => n, fun | 22 => 39 | 3 => 3 | 4 => 4 | 0 => 0 | n => n, fun | n => n⟩
theorem Tryz.laysNm220 : Go.Proofs.Lays2.n20 Tryz.prog Tryz.laysNm220_ren := {
  mixed := by kernel_rfl
  f20 := Tryz.func115.trans (congrArg some (by kernel_rfl))
  t0 := Tryz.underlying0
  a0 := Tryz.isAgg0
  z0 := Tryz.sizeOf0
  v0 := Tryz.zeroValue0
  t3 := Tryz.underlying3
  a3 := Tryz.isAgg3
  z3 := Tryz.sizeOf3
  v3 := Tryz.zeroValue3
  t4 := Tryz.underlying4
  a4 := Tryz.isAgg4
  z4 := Tryz.sizeOf4
  v4 := Tryz.zeroValue4
  t22 := Tryz.underlying39
  a22 := Tryz.isAgg39
  z22 := Tryz.sizeOf39
  v22 := Tryz.zeroValue39
  i3 := by kernel_rfl }
open Go.RowKit Go.Lib Go.Sort in
theorem Tryz.slices_Compact_int (blk off cap : Nat) (zs : List Int) (w : World) (hH : Holds (Value.int .i64) w blk off zs.toArray) (hsz : zs.length ≤ 9223372036854775807) (hcap : zs.length ≤ cap) :
    Calls Tryz.prog 115 #[.slice (some ⟨blk, off, none⟩) zs.length cap] w fun e w' => e = .returned (.slice (some ⟨blk, off, none⟩) (Lib.compact zs).length cap) ∧ ∃ q, w' = putRow (Value.int .i64) (Sort.ahead w q) blk off (Lib.compact zs ++ List.replicate (zs.length - (Lib.compact zs).length) 0).toArray := Any.slices_Compact_int Tryz.laysNm220 blk off cap zs w hH hsz hcap
open Go.RowKit Go.Lib Go.Sort in
theorem Tryz.slices_Compact_int_empty (a : Option Addr) (cap : Nat) (w : World) :
    Calls Tryz.prog 115 #[.slice a 0 cap] w fun e w' => e = .returned (.slice a 0 cap) ∧ w' = w := Any.slices_Compact_int_empty Tryz.laysNm220 a cap w
def Tryz.laysNm225_ren : Go.Shelf.Ren := ⟨fun | 25 => 72 | 31 => 120 | 32 => 121 | 37 => 156 | n => n, fun | 22 => 39 | 3 => 3 | 4 => 4 | 40 => 139 | 0 => 0 | n => n, fun | n => n⟩
theorem Tryz.laysNm225 : Go.Proofs.Lays2.n25 Tryz.prog Tryz.laysNm225_ren := {
  mixed := by kernel_rfl
  f25 := Tryz.func72.trans (congrArg some (by kernel_rfl))
  f31 := Tryz.func120.trans (congrArg some (by kernel_rfl))
  f32 := Tryz.func121.trans (congrArg some (by kernel_rfl))
  f37 := Tryz.func156.trans (congrArg some (by kernel_rfl))
  t0 := Tryz.underlying0
  a0 := Tryz.isAgg0
  z0 := Tryz.sizeOf0
  v0 := Tryz.zeroValue0
  t3 := Tryz.underlying3
  a3 := Tryz.isAgg3
  z3 := Tryz.sizeOf3
  v3 := Tryz.zeroValue3
  t4 := Tryz.underlying4
  a4 := Tryz.isAgg4
  z4 := Tryz.sizeOf4
  v4 := Tryz.zeroValue4
  t22 := Tryz.underlying39
  a22 := Tryz.isAgg39
  z22 := Tryz.sizeOf39
  v22 := Tryz.zeroValue39
  t40 := Tryz.underlying139
  a40 := Tryz.isAgg139
  z40 := Tryz.sizeOf139
  v40 := Tryz.zeroValue139 }
open Go.RowKit Go.Lib in
theorem Tryz.slices_BinarySearch_int (b off n c : Nat) (zs : List Int) (x : Int) (w : World) (hz : n ≤ zs.length) (hbig : n < 4611686018427387904) (hc : ∀ j, j < zs.length → w.cell? ⟨b, off + j, none⟩ = some (.int .i64 (zs.getD j 0))) (hs : (zs.take n).Pairwise (· ≤ ·)) :
    Calls Tryz.prog 72 #[.slice (some ⟨b, off, none⟩) n c, .int .i64 x] w fun e w' => e = .returned (.tuple #[.int .i64 ((zs.take n).countP (· < x) : Nat), .bool ((zs.take n).contains x)]) ∧ ∃ q, w' = w.drewN q := Any.slices_BinarySearch_int Tryz.laysNm225 b off n c zs x w hz hbig hc hs
open Go.RowKit Go.Sort in
theorem Tryz.slices_Sort_int_none (p : Option Addr) (cap : Nat) (w : World) :
    Calls Tryz.prog 147 #[.slice p 0 cap] w fun e w' => e = .returned (.tuple #[]) ∧ w' = w := Any.slices_Sort_int_none Tryz.lays189 p cap w
open Go.RowKit Go.Lib in
theorem Tryz.slices_BinarySearch_int_empty (a : Option Addr) (c : Nat) (x : Int) (w : World) :
    Calls Tryz.prog 72 #[.slice a 0 c, .int .i64 x] w fun e w' => e = .returned (.tuple #[.int .i64 0, .bool false]) ∧ w' = w := Any.slices_BinarySearch_int_empty Tryz.laysNm225 a c x w
end Go.Proofs
namespace Go.Proofs
open Go.Shelf
def Tryz.bld166_ren : Go.Shelf.Ren := ⟨fun | 166 => 151 | 240 => 189 | 276 => 230 | n => n, fun | 0 => 0 | 3 => 3 | 4 => 4 | 5 => 5 | 9 => 9 | 20 => 20 | 37 => 46 | 70 => 187 | 72 => 189 | 75 => 27 | 80 => 191 | 164 => 194 | n => n, fun | n => n⟩
theorem Tryz.bld166 : Go.Proofs.Lays.n166 Tryz.prog Tryz.bld166_ren := {
  mixed := by kernel_rfl
  f166 := Tryz.func151.trans (congrArg some (by kernel_rfl))
  f240 := Tryz.func189.trans (congrArg some (by kernel_rfl))
  f276 := Tryz.func230.trans (congrArg some (by kernel_rfl))
  t0 := Tryz.underlying0
  a0 := Tryz.isAgg0
  z0 := Tryz.sizeOf0
  v0 := Tryz.zeroValue0
  t3 := Tryz.underlying3
  a3 := Tryz.isAgg3
  z3 := Tryz.sizeOf3
  v3 := Tryz.zeroValue3
  t4 := Tryz.underlying4
  a4 := Tryz.isAgg4
  z4 := Tryz.sizeOf4
  v4 := Tryz.zeroValue4
  t9 := Tryz.underlying9
  a9 := Tryz.isAgg9
  z9 := Tryz.sizeOf9
  v9 := Tryz.zeroValue9
  t20 := Tryz.underlying20
  a20 := Tryz.isAgg20
  z20 := Tryz.sizeOf20
  v20 := Tryz.zeroValue20
  t37 := Tryz.underlying46
  a37 := Tryz.isAgg46
  z37 := Tryz.sizeOf46
  v37 := Tryz.zeroValue46
  t70 := Tryz.underlying187
  a70 := Tryz.isAgg187
  z70 := Tryz.sizeOf187
  v70 := Tryz.zeroValue187
  t72 := Tryz.underlying189
  a72 := Tryz.isAgg189
  z72 := Tryz.sizeOf189
  v72 := Tryz.zeroValue189
  t75 := Tryz.underlying27
  a75 := Tryz.isAgg27
  z75 := Tryz.sizeOf27
  v75 := Tryz.zeroValue27
  t164 := Tryz.underlying194
  a164 := Tryz.isAgg194
  z164 := Tryz.sizeOf194
  v164 := Tryz.zeroValue194 }
theorem Tryz.bldX166 : Builder.Extra Tryz.prog Tryz.bld166_ren where
  sizeBuilder := by kernel_rfl
  liesBuilder := by kernel_rfl
  t5 := Tryz.underlying5
  a5 := Tryz.isAgg5
  z5 := Tryz.sizeOf5
  v5 := Tryz.zeroValue5
  infoByte := by kernel_rfl
  cellsByte := by kernel_rfl
  sizeByte := by kernel_rfl
  neB5 := by decide
end Go.Proofs
namespace Go.Proofs.YtlfkjbdkbdcdnaaGreatDoor
open Go.RowKit
/-- A builder of the call's own that holds the text s. -/
abbrev BldAt (B b : Nat) (s : Str) (w : World) : Prop := Lib.IsBuilder 189 5 B b (Lib.byteCells s) w
theorem bldWrite_any (B b : Nat) (s t : Str) (w : World) (h : BldAt B b s w) (hl : s.length + t.length ≤ 1000000) (hB : B ≤ w.heap.size) :
    Calls Tryz.prog 151 #[.pointer (some ⟨b, 0, none⟩), S t] w fun e w' => e = .returned (.tuple #[.int .i64 t.length, .nilIface]) ∧ BldAt B b (s ++ t) w' ∧ Below B w w' := by
  refine (Any.Builder_WriteString Tryz.bld166 Tryz.bldX166 B b (Lib.byteCells s) ⟨t.toArray⟩ w h (by simp [Lib.byteCells, ByteArray.size]; omega) hB).mono ?_
  rintro e w' ⟨rfl, h1, h2⟩
  refine ⟨by simp [ByteArray.size], .inr ?_, h2⟩
  have e1 : Lib.byteCells s ++ Lib.strCells ⟨t.toArray⟩ = Lib.byteCells (s ++ t) := by simp [Lib.byteCells, Lib.strCells]
  rw [← e1]
  exact h1
theorem bldString_any (B b : Nat) (s : Str) (w : World) (h : BldAt B b s w) (hB : B ≤ w.heap.size) :
    Calls Tryz.prog 152 #[.pointer (some ⟨b, 0, none⟩)] w fun e w' => e = .returned (S s) ∧ Below B w w' :=
  Tryz.Builder_String_any B b s w h hB
end Go.Proofs.YtlfkjbdkbdcdnaaGreatDoor
namespace Go.Proofs.YtlfkjbdkbdcdnaaGreatDoor
open Go.RowKit
attribute [local go_sem] bapp

theorem numsTail_snoc (l : List Int) (x : Int) : numsTail (l ++ [x]) = numsTail l ++ 32 :: Lib.itoa x := by simp [numsTail]
theorem numsTail_len (l : List Int) (h : ∀ x ∈ l, -9223372036854775808 ≤ x ∧ x ≤ 9223372036854775807) : (numsTail l).length ≤ l.length * 22 := by
  induction l with
  | nil => simp [numsTail]
  | cons x r ih =>
    have h1 := h x (by simp)
    have h2 := itoa_len x (by omega) (by omega)
    have h3 := ih fun y hy => h y (by simp [hy])
    simp only [numsTail, List.flatMap_cons, List.length_append, List.length_cons] at h3 ⊢
    omega

theorem cat_run (a b : ByteArray) (n m : Nat) (ha : a.size = n) (hb : b.size = m) (h : n + m ≤ 1000000) : ∀ w, (Op.stringOp .add a b).run Tryz.prog w = .ok (.string (a ++ b)) w := fun w => run_string_add_sum w a b (by omega)
set_option maxHeartbeats 1000000 in
set_option maxRecDepth 20000 in
theorem fileText_any (E : Nat → Addr) (B : Nat) (f : Fl) (w : World) (hE : Errs [2, 4, 5] E B w) (hT : LNum B w) (hM : LMax B w) (hs : midF f) :
    Calls Tryz.prog 48 #[fileV f] w fun e w' => e = .returned (S (fileText f)) ∧ Below w.heap.size w w' := by
  have hBw := hE.le
  have hb0 : Below w.heap.size w (w.alloc (.cells #[S f.path, S f.part, .int .i64 f.n, .int .i64 f.lo, .int .i64 f.hi, .int .i64 f.seq] 79)) := (Below.refl _ _).alloc (Nat.le_refl _) _
  have Cs := Lib.hid (fun w6 (h : Below (w.alloc (.cells #[S f.path, S f.part, .int .i64 f.n, .int .i64 f.lo, .int .i64 f.hi, .int .i64 f.seq] 79)).heap.size (w.alloc (.cells #[S f.path, S f.part, .int .i64 f.n, .int .i64 f.lo, .int .i64 f.hi, .int .i64 f.seq] 79)) w6) => fileCells rfl h)
  have hE1 := hE.below' hb0 hE.le; have hT1 := hT.below' hb0 hE.le; have hM1 := hM.below' hb0 hE.le
  obtain ⟨c0, c1, c2, c3, c4, c5⟩ := Cs.out _ (Below.refl _ _)
  go_enter Tryz.func48, Tryz.ntmps48
  go_wp2_with fail
  generalize w.alloc (.cells #[S f.path, S f.part, .int .i64 f.n, .int .i64 f.lo, .int .i64 f.hi, .int .i64 f.seq] 79) = w1 at *
  refine (fileCheck_any E B f _ hE1 hT1 hM1 hs).mono ?_
  rintro e w2 ⟨ev, rfl, hev, hb2⟩
  clear c0 c1 c2 c3 c4 c5
  have hb2' := hb0.trans (hb2.mono hb0.size)
  by_cases hck : checkF f = 0
  case neg =>
    have HF : Hid (fileText f = []) := Lib.hid (if_neg hck)
    rw [fileEr_bad rfl hck] at hev
    obtain ⟨hcr, rfl⟩ := hev
    have HK := Lib.hid hck; clear hck
    go_wp2_with fail
    go_ret
    exact ⟨by rw [HF.out]; rfl, hb2'⟩
  have HF : Hid (fileText f = fileLine f) := Lib.hid (if_pos hck)
  rw [fileEr_nil hck] at hev
  obtain rfl : ev = .nilIface := hev
  have hbd : ∀ x ∈ [f.n, f.lo, f.hi, f.seq], -9223372036854775808 ≤ x ∧ x ≤ 9223372036854775807 := by
    obtain ⟨-, -, -, -, h⟩ := checkF_zero hck
    unfold boundF farN at h
    intro x hx
    simp only [List.mem_cons, List.mem_nil_iff, or_false] at hx
    rcases hx with rfl | rfl | rfl | rfl <;> omega
  have HB := Lib.hid hbd; clear hbd
  have HK := Lib.hid hck; clear hck
  obtain ⟨c0, c1, c2, c3, c4, c5⟩ := Cs.out w2 hb2
  have hl1 := hs.1
  have hl2 := hs.2
  have hil := ints_new [f.n, f.lo, f.hi, f.seq] w2 3 _ 4 #[.int .i64 f.n, .int .i64 f.lo, .int .i64 f.hi, .int .i64 f.seq] rfl rfl rfl (by decide)
  have hb3 := hb2'.alloc hb2'.size (.cells #[.int .i64 f.n, .int .i64 f.lo, .int .i64 f.hi, .int .i64 f.seq] 3)
  go_wp2_with fail
  generalize w2.alloc (.cells #[.int .i64 f.n, .int .i64 f.lo, .int .i64 f.hi, .int .i64 f.seq] 3) = w3 at *
  have hT3 := hT.below' hb3 hBw
  obtain ⟨a, c, b, o, hv, ha, hc, hcm, hx⟩ := hil
  simp only [Value.slice.injEq] at hv
  obtain ⟨rfl, -, rfl⟩ := hv
  have hp0 : [f.n, f.lo, f.hi, f.seq].length = 4 := rfl
  have hab := ha (by simp)
  simp only [Option.some.injEq, Addr.mk.injEq, and_true] at hab
  obtain ⟨rfl, rfl⟩ := hab
  have HL : Hid (fileLine f = f.path ++ 32 :: (f.part ++ numsTail [f.n, f.lo, f.hi, f.seq])) := Lib.hid (by simp [fileLine])
  generalize [f.n, f.lo, f.hi, f.seq] = l at *
  go_loopw [3, 25] (fun s i wr => ∃ k : Nat, k ≤ l.length ∧ i = .int .i64 k ∧ s = S ((f.path ++ 32 :: f.part) ++ numsTail (l.take k)) ∧ Below w3.heap.size w3 wr) (fun _ i _ => l.length - (intOf i).toNat)
  case atStart => exact ⟨0, by omega, rfl, by simp [numsTail], Below.refl _ _⟩
  case round =>
    obtain ⟨k, hk, rfl, rfl, hb⟩ := hrel
    have hl4 := numsTail_len (l.take k) (fun y hy => HB.out y (List.mem_of_mem_take hy))
    have hl5 : (l.take k).length ≤ 4 := by rw [List.length_take]; omega
    have hl6 : (numsTail (l.take k)).length ≤ 88 := by omega
    clear hl4 hl5
    by_cases hlt : k < l.length
    case neg =>
      obtain rfl : k = l.length := by omega
      rw [List.take_length] at hl6 ⊢
      rw [hp0]
      go_wp2_with fail
      go_ret
      exact ⟨by rw [HF.out, HL.out]; rfl, hb3.trans (hb.mono hb3.size)⟩
    obtain ⟨x, hxk⟩ := get_ex hlt
    have c1 := hx k x hxk 0 _ rfl
    have c1 := (hb.cell (World.block_lt_of_cell? w3 _ c1)).trans c1
    have i1 := idx_at (c := 4) 1 Tryz.underlying39 szInt ha k hlt
    have hk1 : (k : Int) < (l.length : Int) := by omega
    simp only [Nat.mul_one, Nat.add_zero, Nat.zero_add] at c1 i1
    rw [hp0] at hk1 i1
    obtain ⟨h1, h2⟩ := HB.out x (List.mem_of_getElem? hxk)
    have hsn := take_snoc' hxk
    have hl1 := itoa_len x h1 h2
    have Hx := Lib.hid hsn; clear hsn hxk
    go_wp2_with fail
    refine (itoa_any B x h1 h2 _ (hT3.below' hb hT3.le)).mono ?_
    rintro e w4 ⟨rfl, hb4⟩
    go_wp2_with fail
    go_roundw
    case rel => exact ⟨k + 1, by omega, by go_num, by rw [Hx.out, numsTail_snoc]; simp, hb.trans (hb4.mono hb.size)⟩
    case measure => simp [intOf]; omega

end Go.Proofs.YtlfkjbdkbdcdnaaGreatDoor
namespace Go.Proofs.YtlfkjbdkbdcdnaaGreatDoor
open Go.RowKit

theorem getD_of {l : List Int} {j : Nat} (hj : j < l.length) : l[j]? = some (l.getD j 0) := by
  rw [List.getD_eq_getElem?_getD, List.getElem?_eq_getElem hj]; rfl
theorem minI_any (v : Value) (l : List Int) (w : World) (hl : IntsAt w v l) (hn : l ≠ []) (hb : l.length ≤ 100000) :
    Calls Tryz.prog 104 #[v] w fun e w' => e = .returned (.int .i64 (endsI l).1) ∧ w = w' := by
  obtain ⟨a, c, b, o, rfl, ha, hc, hcm, hx⟩ := hl
  have hpos : 0 < l.length := List.length_pos_iff.2 hn
  obtain rfl := ha hpos
  refine (Tryz.slices_Min_int b o l.length c l w hpos (Nat.le_refl _) (by omega) (fun j hj => ?_)).mono ?_
  · have := hx j _ (getD_of hj) 0 _ rfl
    simpa using this
  · rintro e w' ⟨rfl, rfl⟩
    refine ⟨?_, rfl⟩
    rw [List.take_length]
    unfold endsI
    rw [if_neg hn]
theorem maxI_any (v : Value) (l : List Int) (w : World) (hl : IntsAt w v l) (hn : l ≠ []) (hb : l.length ≤ 100000) :
    Calls Tryz.prog 105 #[v] w fun e w' => e = .returned (.int .i64 (endsI l).2) ∧ w = w' := by
  obtain ⟨a, c, b, o, rfl, ha, hc, hcm, hx⟩ := hl
  have hpos : 0 < l.length := List.length_pos_iff.2 hn
  obtain rfl := ha hpos
  refine (Tryz.slices_Max_int b o l.length c l w hpos (Nat.le_refl _) (by omega) (fun j hj => ?_)).mono ?_
  · have := hx j _ (getD_of hj) 0 _ rfl
    simpa using this
  · rintro e w' ⟨rfl, rfl⟩
    refine ⟨?_, rfl⟩
    rw [List.take_length]
    unfold endsI
    rw [if_neg hn]
theorem join_plain (c : UInt8) : ∀ l : List Str, Lib.join l [c] = joinC c l
  | [] => by simp [Lib.join, joinC]
  | [x] => by simp [Lib.join, joinC]
  | x :: y :: r => by
    have ih := join_plain c (y :: r)
    rw [joinC_two, ← ih]
    simp [Lib.join]
theorem join_any (c : UInt8) (v : Value) (l : List Str) (w : World) (hl : StrsAt w v l) (hn : l.length ≤ 100000) (hlen : (joinC c l).length ≤ 1000000) :
    Calls Tryz.prog 117 #[v, .string ⟨#[c]⟩] w fun e w' => e = .returned (S (joinC c l)) ∧ Below w.heap.size w w' := by
  obtain ⟨a, cp, b, o, rfl, ha, hc, hcm, hx⟩ := hl
  rcases Nat.eq_zero_or_pos l.length with h0 | hpos
  · obtain rfl := List.eq_nil_of_length_eq_zero h0
    refine (Tryz.strings_Join_none a cp ⟨#[c]⟩ w).mono ?_
    rintro e w' ⟨rfl, rfl⟩
    exact ⟨rfl, Below.refl _ _⟩
  · obtain rfl := ha hpos
    have hm : (l.map fun s => (⟨s.toArray⟩ : ByteArray)).map (·.data.toList) = l := by simp [List.map_map, Function.comp_def]
    have hblk : b < w.heap.size := by
      obtain ⟨x, hxk⟩ := get_ex hpos
      exact World.block_lt_of_cell? w ⟨b, o + 0 * 1 + 0, none⟩ (hx 0 x hxk 0 _ rfl)
    have h := Tryz.strings_Join b o cp (l.map fun s => (⟨s.toArray⟩ : ByteArray)) ⟨#[c]⟩ w (fun j x hj => by
      rw [List.getElem?_map] at hj
      cases hs : l[j]? with
      | none => rw [hs] at hj; cases hj
      | some s =>
        rw [hs] at hj
        cases hj
        have := hx j s hs 0 _ rfl
        simpa using this) hblk (by simp; omega) (by simpa using hc) (by
        rw [hm]
        show (Lib.join l [c]).length ≤ _
        rw [join_plain]; omega)
    rw [hm] at h
    rw [List.length_map] at h
    refine h.mono ?_
    rintro e w' ⟨rfl, hb⟩
    refine ⟨?_, hb⟩
    show Ending.returned (.string ⟨(Lib.join l [c]).toArray⟩) = _
    rw [join_plain]
theorem strs_new (w : World) (t : TypeId) (l : List Str) (n : Nat) (hl : l.length = n) (hn : n ≤ 100000) {H : Nat} (hH : w.heap.size = H) : StrsAt (w.alloc (.cells (l.map S).toArray t)) (.slice (some ⟨H, 0, none⟩) n n) l := by
  subst hl
  subst hH
  refine ⟨_, l.length, w.heap.size, 0, rfl, fun _ => rfl, Nat.le_refl _, by unfold maxLen; omega, fun k x hk j u hu => ?_⟩
  have hj : j = 0 := by
    have := (List.getElem?_eq_some_iff.1 hu).1
    simpa using this
  subst hj
  have hu' : u = S x := by simpa using hu.symm
  rw [cell_of_row (w.alloc _) w.heap.size _ (l.map S).toArray t (0, 0) (heap_alloc_new w _)]
  simp [hk, hu']
theorem S_app (a b : Str) : (⟨a.toArray⟩ : ByteArray) ++ ⟨b.toArray⟩ = ⟨(a ++ b).toArray⟩ := bapp a b
set_option maxHeartbeats 1000000 in
theorem dataHead_any (B : Nat) (word : Str) (n lo hi : Int) (body : Str) (w : World) (hT : LNum B w) (hw : word.length ≤ 10) (hn : -9223372036854775808 ≤ n ∧ n ≤ 9223372036854775807) (hlo : -9223372036854775808 ≤ lo ∧ lo ≤ 9223372036854775807) (hhi : -9223372036854775808 ≤ hi ∧ hi ≤ 9223372036854775807) (hb : body.length ≤ 100000) :
    Calls Tryz.prog 118 #[S word, .int .i64 n, .int .i64 lo, .int .i64 hi, S body] w fun e w' => e = .returned (S (headT word n lo hi (sumOf body) ++ [10])) ∧ Below w.heap.size w w' := by
  have X := Lib.hid (fun W (h : Below w.heap.size w W) => hT.below' h hT.le)
  have hsl := sumOf_lt body
  have hhl := head_len (word := word) n lo hi (sumOf body) hw hn hlo hhi (by omega)
  have hj : joinC 32 [word, Lib.itoa n, Lib.itoa lo, Lib.itoa hi, Lib.itoa (sumOf body)] = headT word n lo hi (sumOf body) := joinC_itoa word [n, lo, hi, (sumOf body : Int)]
  have hu : (((sumOf body : Nat) : Int) % 18446744073709551616) = ((sumOf body : Nat) : Int) := by omega
  have HI := Lib.hid (fun m (h0 : -9223372036854775808 ≤ m) (h1 : m ≤ 9223372036854775807) W (h : Below w.heap.size w W) => itoa_any B m h0 h1 W (X.out W h))
  have HSm := Lib.hid (fun W => sum_any body W hb)
  have HFm := Lib.hid (fun W (h : Below w.heap.size w W) => formatUint_any B (sumOf body) (by omega) W (X.out W h))
  have HJn := Lib.hid (fun v W (h : StrsAt W v [word, Lib.itoa n, Lib.itoa lo, Lib.itoa hi, Lib.itoa (sumOf body)]) => join_any 32 v _ W h (by simp) (by rw [hj]; omega))
  have hcat := cat_run ⟨(headT word n lo hi (sumOf body)).toArray⟩ ⟨#[10]⟩ (headT word n lo hi (sumOf body)).length 1 rfl rfl (by omega)
  rw [hj] at HJn
  have hca : (⟨(headT word n lo hi (sumOf body)).toArray⟩ : ByteArray) ++ ⟨#[10]⟩ = ⟨(headT word n lo hi (sumOf body) ++ [10]).toArray⟩ := S_app _ [10]
  rw [hca] at hcat
  clear hca
  have Hsl := Lib.hid hsl
  clear hj hhl hT hsl
  generalize headT word n lo hi (sumOf body) = hd at *
  generalize sumOf body = sm at *
  go_enter Tryz.func118, Tryz.ntmps118
  go_wp2_with fail
  refine (HI.out n hn.1 hn.2 _ (Below.refl _ _)).mono ?_
  rintro e w1 ⟨rfl, hb1⟩
  go_wp2_with fail
  refine (HI.out lo hlo.1 hlo.2 _ hb1).mono ?_
  rintro e w2 ⟨rfl, hb2⟩
  have hb2' := hb1.trans (hb2.mono hb1.size)
  go_wp2_with fail
  refine (HI.out hi hhi.1 hhi.2 _ hb2').mono ?_
  rintro e w3 ⟨rfl, hb3⟩
  have hb3' := hb2'.trans (hb3.mono hb2'.size)
  go_wp2_with fail
  refine (HSm.out _).mono ?_
  rintro e w4 ⟨rfl, hb4⟩
  have hb4' := hb3'.trans (hb4.mono hb3'.size)
  go_wp2_with fail
  refine (HFm.out _ hb4').mono ?_
  rintro e w5 ⟨rfl, hb5⟩
  have hb5' := hb4'.trans (hb5.mono hb4'.size)
  go_wp2_with fail
  refine (HJn.out _ _ (strs_new w5 9 [word, Lib.itoa n, Lib.itoa lo, Lib.itoa hi, Lib.itoa sm] 5 rfl (by decide) rfl)).mono ?_
  rintro e w6 ⟨rfl, hb6⟩
  have hba := hb5'.alloc hb5'.size (.cells ([word, Lib.itoa n, Lib.itoa lo, Lib.itoa hi, Lib.itoa sm].map S).toArray 9)
  go_wp2_with fail
  go_ret
  exact ⟨rfl, hba.trans (hb6.mono hba.size)⟩
theorem bodyT_join : ∀ {ls : List Str}, ls ≠ [] → bodyT ls = joinC 10 ls ++ [10]
  | [], h => absurd rfl h
  | [x], _ => by simp [bodyT, joinC]
  | x :: y :: r, _ => by
    have ih := bodyT_join (ls := y :: r) (by simp)
    have : bodyT (x :: y :: r) = x ++ 10 :: bodyT (y :: r) := by simp [bodyT]
    rw [this, ih, joinC_two]
    simp
set_option maxHeartbeats 1000000 in
theorem dataWhole_any (B : Nat) (word : Str) (v : Value) (keys : List Int) (u : Value) (ls : List Str) (w : World) (hT : LNum B w) (hw : word.length ≤ 10) (hk : IntsAt w v keys) (hl : StrsAt w u ls) (hkn : keys.length ≤ 1000) (hln : ls.length ≤ 1000) (hend : (-9223372036854775808 ≤ (endsI keys).1 ∧ (endsI keys).1 ≤ 9223372036854775807) ∧ (-9223372036854775808 ≤ (endsI keys).2 ∧ (endsI keys).2 ≤ 9223372036854775807)) (hb : (bodyT ls).length ≤ 100000) :
    Calls Tryz.prog 66 #[S word, v, u] w fun e w' => e = .returned (S (wholeT word keys (bodyT ls))) ∧ Below w.heap.size w w' := by
  have X := Lib.hid (fun W (h : Below w.heap.size w W) => (⟨hT.below' h hT.le, hk.below h, hl.below h⟩ : LNum B W ∧ IntsAt W v keys ∧ StrsAt W u ls))
  obtain ⟨a, c, rfl, -, -⟩ := hk.form'
  obtain ⟨a2, c2, rfl, -, -⟩ := hl.form'
  have hsl := sumOf_lt (bodyT ls)
  have hhl := head_len (word := word) keys.length (endsI keys).1 (endsI keys).2 (sumOf (bodyT ls)) hw (by omega) hend.1 hend.2 (by omega)
  have HHd := Lib.hid (fun W (h : Below w.heap.size w W) => dataHead_any B word keys.length (endsI keys).1 (endsI keys).2 (bodyT ls) W (X.out W h).1 hw (by omega) hend.1 hend.2 hb)
  have HMin := Lib.hid (fun (h0 : keys ≠ []) W (h : Below w.heap.size w W) => minI_any _ keys W (X.out W h).2.1 h0 (by omega))
  have HMax := Lib.hid (fun (h0 : keys ≠ []) W (h : Below w.heap.size w W) => maxI_any _ keys W (X.out W h).2.1 h0 (by omega))
  have HWh : Hid (wholeT word keys (bodyT ls) = (headT word keys.length (endsI keys).1 (endsI keys).2 (sumOf (bodyT ls)) ++ [10]) ++ bodyT ls) := Lib.hid (by unfold wholeT; simp)
  have hcat := cat_run ⟨(headT word keys.length (endsI keys).1 (endsI keys).2 (sumOf (bodyT ls)) ++ [10]).toArray⟩ ⟨(bodyT ls).toArray⟩ (headT word keys.length (endsI keys).1 (endsI keys).2 (sumOf (bodyT ls)) ++ [10]).length (bodyT ls).length rfl rfl (by rw [List.length_append]; simp only [List.length_cons, List.length_nil]; omega)
  rw [S_app] at hcat
  rw [HWh.out]
  have HE0 : Hid (keys = [] → (endsI keys).1 = 0 ∧ (endsI keys).2 = 0) := Lib.hid fun h => by rw [h]; exact ⟨rfl, rfl⟩
  have HB0 : Hid (ls = [] → bodyT ls = []) := Lib.hid fun h => by rw [h]; rfl
  have HBj : Hid (ls ≠ [] → bodyT ls = joinC 10 ls ++ [10]) := Lib.hid bodyT_join
  clear HWh hsl hhl
  generalize headT word keys.length (endsI keys).1 (endsI keys).2 (sumOf (bodyT ls)) ++ [10] = hd at *
  obtain ⟨lo, hlo⟩ : ∃ lo, (endsI keys).1 = lo := ⟨_, rfl⟩
  obtain ⟨hi, hhi⟩ : ∃ hi, (endsI keys).2 = hi := ⟨_, rfl⟩
  simp only [hlo, hhi] at HHd HMin HMax HE0
  clear hlo hhi hend hk hl
  obtain ⟨body, hbody⟩ : ∃ body, bodyT ls = body := ⟨_, rfl⟩
  rw [hbody] at HHd HB0 HBj hcat hb ⊢
  clear hbody
  have hlens : Hid (ls ≠ [] → (joinC 10 ls).length ≤ 1000000) := Lib.hid fun h => by
    have := congrArg List.length (HBj.out h)
    rw [List.length_append] at this
    omega
  have HJn := Lib.hid (fun (h0 : ls ≠ []) W (h : Below w.heap.size w W) => join_any 10 _ ls W (X.out W h).2.2 (by omega) (hlens.out h0))
  have hj : ls ≠ [] → ∀ w, (Op.stringOp .add ⟨(joinC 10 ls).toArray⟩ ⟨#[10]⟩).run Tryz.prog w = .ok (S body) w := fun h0 => by
    have := cat_run ⟨(joinC 10 ls).toArray⟩ ⟨#[10]⟩ (joinC 10 ls).length 1 rfl rfl (by have := congrArg List.length (HBj.out h0); rw [List.length_append] at this; simp only [List.length_cons, List.length_nil] at this; omega)
    have e := S_app (joinC 10 ls) [10]
    rw [← HBj.out h0] at e
    have e' : (⟨(joinC 10 ls).toArray⟩ : ByteArray) ++ ⟨#[10]⟩ = ⟨body.toArray⟩ := e
    rwa [e'] at this
  have HJ := Lib.hid hj
  clear hj HBj hlens
  generalize joinC 10 ls = js at *
  by_cases hk0 : keys = []
  case' pos =>
    obtain ⟨rfl, rfl⟩ := HE0.out hk0
    have f1 : decide ((0 : Int) < (keys.length : Int)) = false := by rw [hk0]; rfl
    have f1' : decide (0 < keys.length) = false := by rw [hk0]; rfl
    clear hk0
    go_enter Tryz.func66, Tryz.ntmps66
    go_upto_region 4 with fail
  case' neg =>
    have hkp : 0 < keys.length := List.length_pos_iff.2 hk0
    have f1 : (0 : Int) < (keys.length : Int) := by omega
    have HMi := Lib.hid (HMin.out hk0 w (Below.refl _ _))
    have HMa := Lib.hid (HMax.out hk0 w (Below.refl _ _))
    clear hk0
    go_enter Tryz.func66, Tryz.ntmps66
    go_wp2_with fail
    refine HMi.out.mono ?_
    rintro e w1 ⟨rfl, rfl⟩
    go_wp2_with fail
    refine HMa.out.mono ?_
    rintro e w1 ⟨rfl, rfl⟩
    go_upto_region 4 with fail
  all_goals
    by_cases hl0 : ls = []
    case' pos =>
      have f2 : decide ((0 : Int) < (ls.length : Int)) = false := by rw [hl0]; rfl
      have f2' : decide (0 < ls.length) = false := by rw [hl0]; rfl
      obtain rfl := HB0.out hl0
      have hbw : Below w.heap.size w w := Below.refl _ _
      clear hl0
      go_wp2_with fail
    case' neg =>
      have hlp : 0 < ls.length := List.length_pos_iff.2 hl0
      have f2 : (0 : Int) < (ls.length : Int) := by omega
      have HJo := Lib.hid (HJn.out hl0 w (Below.refl _ _))
      have hjr := HJ.out hl0
      clear hl0
      go_wp2_with fail
      refine HJo.out.mono ?_
      rintro e w2 ⟨rfl, hbw⟩
      go_wp2_with fail
    all_goals
      refine (HHd.out _ hbw).mono ?_
      rintro e w3 ⟨rfl, hb3⟩
      go_wp2_with fail
      go_ret
      exact ⟨by first | rfl | (rw [List.append_nil]; rfl), hbw.trans (hb3.mono hbw.size)⟩
end Go.Proofs.YtlfkjbdkbdcdnaaGreatDoor
namespace Go.Proofs.YtlfkjbdkbdcdnaaGreatDoor
open Go.RowKit

theorem cut1_any (c : UInt8) (B : Nat) (s : Str) (w : World) (hM : LMax B w) (hs : s.length ≤ 100000) :
    Calls Tryz.prog 98 #[S s, .string ⟨#[c]⟩] w fun e w' => e = .returned (.tuple #[S (Lib.cut s [c]).1, S (Lib.cut s [c]).2.1, .bool (Lib.cut s [c]).2.2]) ∧ Below w.heap.size w w' := by
  obtain ⟨m, hm⟩ := hM.max
  refine (Tryz.strings_Cut ⟨s.toArray⟩ ⟨#[c]⟩ m w (by show s.toArray.size < _; simp; omega) hm).mono ?_
  rintro e w' ⟨rfl, n, rfl⟩
  exact ⟨rfl, Bdn (Below.refl _ _) n⟩
end Go.Proofs.YtlfkjbdkbdcdnaaGreatDoor
