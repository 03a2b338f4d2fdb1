/- Snaps in memory; snap.in, snap.Check, slices.Contains at texts. data.table, data.Sum: the walks: the table has of each byte what its bits make; the sum is the sum in plain words. strconv.FormatUint in base ten: the walk. snap.Text: the walk. DERIVED: THE SHELF's CONTRACTS AT THIS DUMP, IN PLAIN WORDS (tools/lay-plain.mjs out of 'TryzGrow.lean', which tools/lay-shelf.mjs wrote): THE SAME DECLARATIONS UNDER THE SAME NAMES: 'import', 'namespace', 'open', 'def', 'theorem' AND NOTHING ELSE: no command of the shelf's: FOR A HAND-IN. Each laying: the table of numbers ('.._ren') and one theorem, a field a fact of the dump's own or the kernel's comparison; each contract: ONE APPLICATION. slices.Grow at the nil slice of texts, slices.Concat of two slices of texts; strings.Cut by one byte. -/
import Derived.Test.YtcdcfolhnjgigaaGreatDoorBx11
import Derived.Test.YtcdcfolhnjgigaaGreatDoorBx5
import Derived.Test.YtcdcfolhnjgigaaGreatDoorBx7
import Derived.Test.YtcdcfolhnjgigaaGreatDoorBx6
import Derived.Test.YtcdcfolhnjgigaaGreatDoorBx3
import Derived.Deep.WholeRow
import Derived.Laws.Tables
import Derived.Laws.Rows
import Derived.Laws.BitsAll
import Derived.Outline
import Derived.Test.YtcdcfolhnjgigaaGreatDoorBx2
import Derived.Lib.AppendIntMem
import Derived.Deep.RegionHeld3
import Derived.Shelf.Spec.SlicesGrow
import Derived.Test.YtcdcfolhnjgigaaGreatDoorProg
import Derived.Test.YtcdcfolhnjgigaaGreatDoorBx4
import Derived.Test.YtcdcfolhnjgigaaGreatDoorBx9
namespace Go.Proofs.YtcdcfolhnjgigaaGreatDoor
open Go.RowKit

/-- A cell of a block that was laid anew, later. -/
theorem newCell {w w6 : World} {cs : Array Value} {t : TypeId} (h : Below (w.alloc (.cells cs t)).heap.size (w.alloc (.cells cs t)) w6) (j : Nat) {x : Value} (hx : cs[j]? = some x) : w6.cell? ⟨w.heap.size, j, none⟩ = some x := by
  have h1 : (w.alloc (.cells cs t)).cell? ⟨w.heap.size, j, none⟩ = some x := by
    rw [cell_of_row (w.alloc _) w.heap.size _ _ t (0, 0) (heap_alloc_new w _)]; exact hx
  exact (h.cell (World.block_lt_of_cell? _ _ h1)).trans h1
abbrev snapV (s : Sn) (v : Value) : Value := .agg #[.int .i64 s.id, .int .i64 s.parent, .int .i64 s.seq, .int .i64 s.day, .int .i64 s.index, S s.op, v]
theorem snapCells {w w6 : World} {s : Sn} {v : Value} {t : TypeId} (h : Below (w.alloc (.cells #[.int .i64 s.id, .int .i64 s.parent, .int .i64 s.seq, .int .i64 s.day, .int .i64 s.index, S s.op, v] t)).heap.size (w.alloc (.cells #[.int .i64 s.id, .int .i64 s.parent, .int .i64 s.seq, .int .i64 s.day, .int .i64 s.index, S s.op, v] t)) w6) :
    w6.cell? ⟨w.heap.size, 0, none⟩ = some (.int .i64 s.id) ∧ w6.cell? ⟨w.heap.size, 1, none⟩ = some (.int .i64 s.parent) ∧ w6.cell? ⟨w.heap.size, 2, none⟩ = some (.int .i64 s.seq) ∧ w6.cell? ⟨w.heap.size, 3, none⟩ = some (.int .i64 s.day) ∧ w6.cell? ⟨w.heap.size, 4, none⟩ = some (.int .i64 s.index) ∧ w6.cell? ⟨w.heap.size, 5, none⟩ = some (S s.op) ∧ w6.cell? ⟨w.heap.size, 6, none⟩ = some v :=
  ⟨newCell h 0 rfl, newCell h 1 rfl, newCell h 2 rfl, newCell h 3 rfl, newCell h 4 rfl, newCell h 5 rfl, newCell h 6 rfl⟩

theorem strs_new (l : List Str) (w : World) (t : TypeId) (H n : Nat) (cs : Array Value) (hH : w.heap.size = H) (hcs : cs = (l.map S).toArray) (hn : l.length = n) (hm : n ≤ 100000) : StrsAt (w.alloc (.cells cs t)) (.slice (some ⟨H, 0, none⟩) n n) l := by
  subst hH hcs hn
  refine ⟨_, _, w.heap.size, 0, rfl, fun _ => rfl, Nat.le_refl _, by unfold maxLen; omega, fun k z hk j u hu => ?_⟩
  obtain rfl : j = 0 := by
    rcases Nat.eq_zero_or_pos j with h | h
    · exact h
    · rw [List.getElem?_eq_none (by simp; omega)] at hu; cases hu
  obtain rfl : S z = u := by simpa using hu
  rw [cell_of_row (w.alloc _) w.heap.size _ _ t (0, 0) (heap_alloc_new w _)]
  simp [hk]

theorem containsB_mem : ∀ (l : List Str) (x : Str), Lib.containsS (l.map fun s => (⟨s.toArray⟩ : ByteArray)) ⟨x.toArray⟩ = decide (x ∈ l) := by
  intro l x
  rw [Bool.eq_iff_iff]
  unfold Lib.containsS
  rw [decide_eq_true_eq, decide_eq_true_eq, Lib.idxOfS_nonneg_iff]
  simp
theorem containsS_any (v : Value) (l : List Str) (x : Str) (w : World) (hl : StrsAt w v l) (hn : l.length ≤ 100000) :
    Calls Tryz.prog 101 #[v, S x] w fun e w' => e = .returned (.bool (decide (x ∈ l))) ∧ w = w' := by
  obtain ⟨a, c, b, o, rfl, ha, hc, hcm, hx⟩ := hl
  by_cases h0 : 0 < l.length
  · obtain rfl := ha h0
    refine (Tryz.slices_Contains_string b o l.length c (l.map fun s => (⟨s.toArray⟩ : ByteArray)) ⟨x.toArray⟩ w (by simp) (by omega) (fun j hj => ?_)).mono ?_
    · have hj' : j < l.length := by simpa using hj
      have := hx j l[j] (by simp [hj']) 0 _ rfl
      simpa [List.getD, hj'] using this
    · rintro e w' ⟨rfl, rfl⟩
      refine ⟨?_, rfl⟩
      rw [List.take_of_length_le (by simp), containsB_mem]
  · have : l = [] := List.eq_nil_of_length_eq_zero (by omega)
    subst this
    refine (Tryz.slices_Contains_string_empty a c ⟨x.toArray⟩ w).mono ?_
    rintro e w' ⟨rfl, rfl⟩
    exact ⟨by simp, rfl⟩

theorem in_any (n lo hi : Int) (w : World) : Calls Tryz.prog 100 #[.int .i64 n, .int .i64 lo, .int .i64 hi] w fun e w' => e = .returned (.bool (inB n lo hi)) ∧ w = w' := by
  unfold inB
  by_cases h1 : lo ≤ n
  · by_cases h2 : n ≤ hi
    · rw [decide_eq_true h1, decide_eq_true h2]
      go_enter Tryz.func100, Tryz.ntmps100
      go_wp2_with fail
      go_ret
      exact ⟨rfl, rfl⟩
    · have g2 := decide_eq_false h2
      rw [decide_eq_true h1, g2]
      clear h2
      go_enter Tryz.func100, Tryz.ntmps100
      go_wp2_with fail
      go_ret
      exact ⟨rfl, rfl⟩
  · have g1 := decide_eq_false h1
    rw [g1]
    clear h1
    go_enter Tryz.func100, Tryz.ntmps100
    go_wp2_with fail
    go_ret
    exact ⟨rfl, rfl⟩

theorem snap_ways (s : Sn) : (snapBound s = true ∧ (inB s.id 1 1073741824 = false ∨ (inB s.id 1 1073741824 = true ∧ (s.parent < 0 ∨ (decide (s.parent < 0) = false ∧ (s.id ≤ s.parent ∨ (decide (s.id ≤ s.parent) = false ∧
    (inB s.seq 0 1073741824 = false ∨ (inB s.seq 0 1073741824 = true ∧ (inB s.day 0 100000 = false ∨ (inB s.day 0 100000 = true ∧ inB s.index 0 1073741824 = false))))))))))) ∨
    (snapBound s = false ∧ inB s.id 1 1073741824 = true ∧ decide (s.parent < 0) = false ∧ decide (s.id ≤ s.parent) = false ∧ inB s.seq 0 1073741824 = true ∧ inB s.day 0 100000 = true ∧ inB s.index 0 1073741824 = true) := by
  unfold snapBound
  cases inB s.id 1 1073741824 <;> cases inB s.seq 0 1073741824 <;> cases inB s.day 0 100000 <;> cases inB s.index 0 1073741824 <;> simp <;> omega

set_option maxHeartbeats 1000000 in
set_option maxRecDepth 20000 in
theorem snapCheck_any (E : Nat → Addr) (B : Nat) (s : Sn) (v : Value) (w : World) (hE : Errs [2, 4, 5, 8, 9] E B w) (hT : LNum B w) (hM : LMax B w) (hl : FilesAt w v s.files) (hs : ∀ x ∈ s.files, midF x) :
    Calls Tryz.prog 37 #[snapV s v] w fun e w' => ∃ ev, e = .returned ev ∧ ErV E w' ev (snapCheck s) ∧ Below w.heap.size w w' := by
  have hBw := hE.le
  have hif := isIfaceE
  have hSC : snapCheck s = if snapBound s = true then .bare 2 else if s.op ∉ kOps then .bare 4 else if listCheck s.files ≠ .nil then listCheck s.files else firstErr (seqFault s) s.files.length := rfl
  have HSC := Lib.hid hSC; clear hSC
  have Hs := Lib.hid hs; clear hs
  have hb0 : Below w.heap.size w (w.alloc (.cells #[.int .i64 s.id, .int .i64 s.parent, .int .i64 s.seq, .int .i64 s.day, .int .i64 s.index, S s.op, v] 58)) := (Below.refl _ _).alloc (Nat.le_refl _) _
  have CS := Lib.hid (fun w6 (h : Below (w.alloc (.cells #[.int .i64 s.id, .int .i64 s.parent, .int .i64 s.seq, .int .i64 s.day, .int .i64 s.index, S s.op, v] 58)).heap.size (w.alloc (.cells #[.int .i64 s.id, .int .i64 s.parent, .int .i64 s.seq, .int .i64 s.day, .int .i64 s.index, S s.op, v] 58)) w6) => snapCells h)
  have V2 := fun w6 (h : Below w.heap.size w w6) => (hE.below' h hBw).var 2 (by decide)
  have V4 := fun w6 (h : Below w.heap.size w w6) => (hE.below' h hBw).var 4 (by decide)
  have V9 := fun w6 (h : Below w.heap.size w w6) => (hE.below' h hBw).var 9 (by decide)
  simp only [errG] at V2 V4 V9
  have U2 := Lib.hid V2; have U4 := Lib.hid V4; have U9 := Lib.hid V9
  clear V2 V4 V9
  have v2 := U2.out _ hb0
  obtain ⟨c0, c1, c2, c3, c4, c5, c6⟩ := CS.out _ (Below.refl _ _)
  go_enter Tryz.func37, Tryz.ntmps37
  go_wp2_with fail
  generalize w.alloc (.cells #[.int .i64 s.id, .int .i64 s.parent, .int .i64 s.seq, .int .i64 s.day, .int .i64 s.index, S s.op, v] 58) = w0 at *
  rcases snap_ways s with ⟨hbd, hw⟩ | ⟨hbd, g1, g2, g3, g4, g5, g6⟩
  · have HC : Hid (snapCheck s = .bare 2) := Lib.hid (by rw [HSC.out, if_pos hbd])
    clear hbd
    rcases hw with g1 | ⟨g1, g2 | ⟨g2, g3 | ⟨g3, g4 | ⟨g4, g5 | ⟨g5, g6⟩⟩⟩⟩⟩
    all_goals
      refine (in_any _ _ _ _).mono ?_
      rintro e w' ⟨rfl, rfl⟩
      go_wp2_with (refine (in_any _ _ _ _).mono ?_; rintro e w' ⟨rfl, rfl⟩)
      go_ret
      exact ⟨_, rfl, by rw [HC.out]; exact ⟨by decide, rfl⟩, hb0⟩
  have hba : Below w0.heap.size w0 (w0.alloc (.cells #[S kStart, S kAppend, S kDelete, S kRewrite] 9)) := (Below.refl _ _).alloc (Nat.le_refl _) _
  have hops : StrsAt (w0.alloc (.cells #[S kStart, S kAppend, S kDelete, S kRewrite] 9)) (.slice (some ⟨w0.heap.size, 0, none⟩) 4 4) kOps := strs_new kOps w0 9 _ 4 _ rfl rfl rfl (by decide)
  have hbw := hb0.trans (hba.mono hb0.size)
  have k5 := (CS.out _ hba).2.2.2.2.2.1
  have v4 := U4.out _ hbw
  have hcn := containsS_any _ kOps s.op _ hops (by decide)
  refine (in_any _ _ _ _).mono ?_
  rintro e w' ⟨rfl, rfl⟩
  by_cases hop : s.op ∈ kOps
  case neg =>
    rw [decide_eq_false hop] at hcn
    have HCn := Lib.hid hcn
    have HC : Hid (snapCheck s = .bare 4) := Lib.hid (by rw [HSC.out, if_neg (by rw [hbd]; simp), if_pos hop])
    clear hop hbd hcn hops
    go_wp2_with (first | (go_at_call 100; refine (in_any _ _ _ _).mono ?_; rintro e w' ⟨rfl, rfl⟩) | (go_at_call 101; refine HCn.out.mono ?_; rintro e w' ⟨rfl, rfl⟩))
    go_ret
    exact ⟨_, rfl, by rw [HC.out]; exact ⟨by decide, rfl⟩, hbw⟩
  rw [decide_eq_true hop] at hcn
  have HCn := Lib.hid hcn
  have HC : Hid (snapCheck s = if listCheck s.files ≠ .nil then listCheck s.files else firstErr (seqFault s) s.files.length) := Lib.hid (by rw [HSC.out, if_neg (by rw [hbd]; simp), if_neg (fun h => h hop)])
  clear hop hbd hcn hops HSC
  go_wp2_with (first | (go_at_call 100; refine (in_any _ _ _ _).mono ?_; rintro e w' ⟨rfl, rfl⟩) | (go_at_call 101; refine HCn.out.mono ?_; rintro e w' ⟨rfl, rfl⟩; have k6 := (CS.out _ hba).2.2.2.2.2.2))
  clear HCn k5 v4 v2 c0 c1 c2 c3 c4 c5 c6 g1 g2 g3 g4 g5 g6
  generalize w0.alloc (.cells #[S kStart, S kAppend, S kDelete, S kRewrite] 9) = w1 at *
  refine (listCheck_any E B v s.files w1 (hE.below' hbw hBw) (hT.below' hbw hBw) (hM.below' hbw hBw) (hl.below hbw) Hs.out).mono ?_
  rintro e w2 ⟨ev, rfl, hev, hb2⟩
  have hb02 := hba.trans (hb2.mono hba.size)
  have hbw2 := hbw.trans (hb2.mono hbw.size)
  by_cases hck : listCheck s.files = .nil
  case neg =>
    obtain ⟨u, x, rfl⟩ := hev.iface hck
    have HC' : Hid (snapCheck s = listCheck s.files) := Lib.hid (by rw [HC.out, if_pos hck])
    have HEv := Lib.hid hev
    clear hck hev
    go_wp2_with fail
    go_ret
    exact ⟨_, rfl, by rw [HC'.out]; exact HEv.out, hbw2⟩
  rw [hck] at hev
  obtain rfl : ev = .nilIface := hev
  have HF : Hid (snapCheck s = firstErr (seqFault s) s.files.length) := Lib.hid (by rw [HC.out, if_neg (fun h => h hck)])
  clear hck HC
  obtain ⟨a, c, b, o, rfl, ha, hc, hcm, hx⟩ := hl
  unfold maxLen at hcm
  have k6 := (CS.out _ hb02).2.2.2.2.2.2
  obtain ⟨fl, hfl⟩ : ∃ fl, s.files = fl := ⟨_, rfl⟩
  rw [hfl] at hx ha hc k6 HF ⊢
  have HFl := Lib.hid hfl; clear hfl
  go_wp2_with fail
  clear k6
  go_loopw [58] (fun i wr => ∃ k : Nat, k ≤ fl.length ∧ i = .int .i64 k ∧ Hid (∀ j < k, seqFault s j = 0) ∧ Below w2.heap.size w2 wr) (fun i _ => fl.length - (intOf i).toNat)
  case atStart => exact ⟨0, by omega, rfl, Lib.hid fun j hj => absurd hj (by omega), Below.refl _ _⟩
  case round =>
    obtain ⟨k, hk, rfl, hj, hb⟩ := hrel
    have hb0r := hb02.trans (hb.mono hb02.size)
    have hbr := hbw2.trans (hb.mono hbw2.size)
    by_cases hlt : k < fl.length
    case neg =>
      obtain rfl : k = fl.length := by omega
      have f : decide ((fl.length : Int) < (fl.length : Int)) = false := by simp
      go_wp2_with fail
      go_ret
      exact ⟨_, rfl, by rw [HF.out, firstErr_all hj.out]; rfl, hbr⟩
    obtain ⟨x, hxk⟩ := get_ex hlt
    obtain ⟨c0, c1, c2, c3, c4, c5⟩ := flCells hx hbr hxk
    have i1 := idx_at (c := c) 6 Tryz.underlying56 szFl ha k hlt
    have hk1 : (k : Int) < (fl.length : Int) := by omega
    have hb3 : Below wr.heap.size wr (wr.alloc (.cells #[S x.path, S x.part, .int .i64 x.n, .int .i64 x.lo, .int .i64 x.hi, .int .i64 x.seq] 69)) := (Below.refl _ _).alloc (Nat.le_refl _) _
    have k2 := (CS.out _ (hb0r.trans (hb3.mono hb0r.size))).2.2.1
    have v9 := U9.out _ (hbr.trans (hb3.mono hbr.size))
    by_cases hsq : s.seq < x.seq
    · have hf : seqFault s k = 9 := by unfold seqFault; rw [HFl.out, hxk]; simp only; rw [if_pos hsq]
      have HL : Hid (snapCheck s = .loc 9 k) := Lib.hid (HF.out.trans ((firstErr_hit hlt hj.out (by rw [hf]; decide)).trans (by rw [hf])))
      clear hf hxk
      go_wp2_with fail
      go_ret
      exact ⟨_, rfl, by rw [HL.out]; exact ErV.fresh (by decide) _ _ _ _ (by simp), (hbr.trans (hb3.mono hbr.size)).alloc (hbr.trans (hb3.mono hbr.size)).size _⟩
    · have hf : seqFault s k = 0 := by unfold seqFault; rw [HFl.out, hxk]; simp only; rw [if_neg hsq]
      have Hf := Lib.hid hf
      have g : decide (s.seq < x.seq) = false := by simpa using hsq
      clear hf hxk hsq
      go_wp2_with fail
      refine ⟨⟨k + 1, by omega, by go_num, (Lib.hid fun j hj' => by
        rcases Nat.lt_or_ge j k with h | h
        · exact hj.out j h
        · obtain rfl : j = k := by omega
          exact Hf.out), hb.trans (hb3.mono hb.size)⟩, ?_⟩
      simp [intOf]; omega
end Go.Proofs.YtcdcfolhnjgigaaGreatDoor
namespace Go.Proofs.YtcdcfolhnjgigaaGreatDoor
open Go.RowKit

theorem zero256 : Tryz.zeroCells193 = (List.replicate 256 (Value.int .u32 0)).toArray := by kernel_rfl
/-- The table's cells when k of them are laid. -/
def tabCells (k : Nat) : List Value := (List.range 256).map fun i => Value.int .u32 (if i < k then (crcIter 8 i : Nat) else 0)
theorem tab_zero : (List.replicate 256 (Value.int .u32 0)) = tabCells 0 := by
  unfold tabCells
  generalize 256 = n
  apply List.ext_getElem
  · simp
  · intro i h1 h2; simp
theorem tab_len (k : Nat) : (tabCells k).length = 256 := by simp [tabCells]
theorem tab_set {k : Nat} : (tabCells k).set k (.int .u32 (crcIter 8 k : Nat)) = tabCells (k + 1) := by
  apply List.ext_getElem
  · simp [tabCells]
  · intro i h1 h2
    rw [List.getElem_set]
    split
    · rename_i h; subst h; simp [tabCells]
    · rename_i h
      simp only [tabCells, List.getElem_map, List.getElem_range]
      by_cases h3 : i < k
      · rw [if_pos h3, if_pos (by omega)]
      · rw [if_neg h3, if_neg (by omega)]
theorem tab_at {i : Nat} (hi : i < 256) : (tabCells 256)[i]? = some (.int .u32 (crcIter 8 i : Nat)) := by
  rw [List.getElem?_eq_getElem (by rw [tab_len]; exact hi)]
  simp [tabCells, hi]
theorem tab_one (k : Nat) : (tabCells k).toArray.all (·.oneCell') = true := by
  rw [Array.all_eq_true_iff_forall_mem]
  intro v hv
  simp only [tabCells, List.mem_toArray, List.mem_map] at hv
  obtain ⟨i, _, rfl⟩ := hv
  rfl
/-- The same as an array: not to be opened. -/
def tabA (k : Nat) : Array Value := (tabCells k).toArray
theorem tabA_size (k : Nat) : (tabA k).size = 256 := by unfold tabA; rw [List.size_toArray, tab_len]
theorem tabA_set (k : Nat) : (tabA k).setIfInBounds k (.int .u32 (crcIter 8 k : Nat)) = tabA (k + 1) := by
  unfold tabA; rw [List.setIfInBounds_toArray, tab_set]
theorem tabA_cell (k : Nat) (hk : k < 256) : (tabA k)[k]? = some (.int .u32 0) := by
  unfold tabA
  rw [List.getElem?_toArray, List.getElem?_eq_getElem (by rw [tab_len]; exact hk)]
  simp [tabCells]
theorem tabA_at {i : Nat} (hi : i < 256) : (tabA 256)[i]? = some (.int .u32 (crcIter 8 i : Nat)) := by
  unfold tabA; rw [List.getElem?_toArray, tab_at hi]
theorem tabA_one (k : Nat) : (tabA k).all (·.oneCell') = true := tab_one k
theorem tabA_zero : Tryz.zeroCells193 = tabA 0 := by rw [zero256, tab_zero]; rfl
theorem size256 : (Tryz.prog.info? 193).map (·.size) = some 256 := by kernel_rfl
/-- A bit's round, as the walk spells it. -/
theorem bit_round {c : Nat} (h : c < 4294967296) : bits .xor .u32 ((c : Int) / 2) (IntKind.u32.wrap (3988292384 * bits .and .u32 (c : Int) 1)) = (crcBit c : Nat) ∧ bits .xor .u32 ((c : Int) / 2) (3988292384 * bits .and .u32 (c : Int) 1 % 4294967296) = (crcBit c : Nat) := by
  rw [← IntKind.wrap_u32', and_self]
  have h1 : bits .and .u32 (c : Int) 1 = ((c % 2 : Nat) : Int) := by
    have := u32_and_nat c 1 h (by omega)
    rw [show ((1 : Nat) : Int) = 1 from rfl] at this
    rw [this, Nat.and_one_is_mod]
  rw [h1]
  have h2 : IntKind.u32.wrap (3988292384 * ((c % 2 : Nat) : Int)) = ((crcP * (c % 2) : Nat) : Int) := by
    rw [IntKind.wrap_u32']; unfold crcP; omega
  rw [h2, show ((c : Int) / 2) = ((c / 2 : Nat) : Int) by omega, u32_xor_nat _ _ (by omega) (by unfold crcP; omega)]
  congr 1
  unfold crcBit
  rcases Nat.mod_two_eq_zero_or_one c with h3 | h3
  · rw [h3, if_neg (by omega)]; simp
  · rw [h3, if_pos rfl]; simp
set_option maxHeartbeats 1000000 in
set_option maxRecDepth 20000 in
theorem table_any (w : World) :
    Calls Tryz.prog 151 #[] w fun e w' => e = .returned (.agg (tabA 256)) ∧ Below w.heap.size w w' := by
  have hg1 : ((w.alloc (.cells Tryz.zeroCells193 193)).alloc (.cells Tryz.zeroCells193 193)).heap[w.heap.size + 1]? = some (.cells (tabA 0) 193 (0, 0)) := by
    rw [heap_alloc2_new, tabA_zero]
  have hg0 : ((w.alloc (.cells Tryz.zeroCells193 193)).alloc (.cells Tryz.zeroCells193 193)).heap[w.heap.size]? = some (.cells (tabA 0) 193 (0, 0)) := by
    rw [heap_alloc2_old, tabA_zero]
  have hb0 : Below w.heap.size w ((w.alloc (.cells Tryz.zeroCells193 193)).alloc (.cells Tryz.zeroCells193 193)) := ((Below.refl _ _).alloc (Nat.le_refl _) _).alloc (by simp) _
  have G1 := Lib.hid hg1; have G0 := Lib.hid hg0
  clear hg1 hg0
  go_enter Tryz.func151, Tryz.ntmps151
  go_wp2_with fail
  generalize (w.alloc (.cells Tryz.zeroCells193 193)).alloc (.cells Tryz.zeroCells193 193) = w0 at *
  obtain ⟨H, hH⟩ : ∃ H, w.heap.size = H := ⟨_, rfl⟩
  rw [hH] at G1 G0 hb0 ⊢
  have HH := Lib.hid hH; clear hH
  go_loopw [2, 3, 4, 9] (fun _ _ i _ wr => ∃ k : Nat, k ≤ 256 ∧ i = .int .i64 k ∧ Hid (wr.heap[H + 1]? = some (.cells (tabA k) 193 (0, 0))) ∧ Hid (wr.heap[H]? = some (.cells (tabA 0) 193 (0, 0))) ∧ Below H w wr) (fun _ _ i _ _ => 256 - (intOf i).toNat)
  case atStart => exact ⟨0, by omega, rfl, G1, G0, hb0⟩
  case round =>
    obtain ⟨k, hk, rfl, hg1, hg0, hb⟩ := hrel
    clear G1 G0 hb0
    by_cases hlt : k < 256
    case neg =>
      have f : decide ((k : Int) < 256) = false := by simp; omega
      obtain rfl : k = 256 := by omega
      go_wp2_with (first | (refine wpList_load_row rfl 193 _ rfl (H + 1) rfl 193 (tabA 256) (0, 0) _ hg1.out Tryz.underlying193 rfl (by rw [tabA_size]; exact size256) ?_) | (refine wpList_store_row rfl _ _ _ rfl H (tabA 256) rfl rfl 193 (tabA 0) hg0.out (by rw [tabA_size]; exact size256) (by rw [tabA_size, tabA_size]) (tabA_one _) ?_))
      exact bodyPost_ret (results_cell_row rfl _ _ H 193 (tabA 256) (0, 0) _ rfl (setRow_heap _ H _ _ _ _ hg0.out) Tryz.underlying193 rfl (by rw [tabA_size]; exact size256)) rfl ⟨rfl, by rw [HH.out]; exact hb.grown (grown_setRow wr H _) (Nat.le_of_lt (Array.getElem?_eq_some_iff.1 hg0.out).1) (fun k hk => by cases hk; exact Nat.le_refl _)⟩
    have hlt' : (k : Int) < 256 := by omega
    have hcv : IntKind.u32.wrap (k : Int) = k := by rw [IntKind.wrap_u32']; omega
    go_wp2_with fail
    obtain ⟨wo, rfl⟩ : ∃ wo : World, wo = wr := ⟨_, rfl⟩
    go_loop [3, 9] (fun c j => ∃ m : Nat, m ≤ 8 ∧ j = .int .i64 m ∧ c = .int .u32 (crcIter m k : Nat)) (fun _ j => 8 - (intOf j).toNat)
    case atStart => exact ⟨0, by omega, rfl, rfl⟩
    case round =>
      obtain ⟨m, hm, rfl, rfl⟩ := hrel
      by_cases hm8 : m < 8
      · have hm8' : (m : Int) < 8 := by omega
        have hc : crcIter m k < 4294967296 := crcIter_lt m (by omega)
        have hsu : crcIter (m + 1) k = crcBit (crcIter m k) := crcIter_succ m k
        have HSu := Lib.hid hsu; clear hsu
        generalize crcIter m k = c at *
        have hbr := (bit_round hc).2
        have h1 : (0 : Int) ≤ c := by omega
        have h2 : (c : Int) < 4294967296 := by omega
        go_wp2_with fail
        refine ⟨⟨m + 1, by omega, by go_num, by rw [HSu.out]⟩, ?_⟩
        simp [intOf]; omega
      · obtain rfl : m = 8 := by omega
        have c0 := cell_of_row wo (H + 1) k _ _ _ hg1.out
        rw [tabA_cell k hlt] at c0
        have f0 : wo.frozen? ⟨H + 1, k, none⟩ = false := frozen_row hg1.out
        generalize hcr : crcIter 8 k = cr at *
        go_wp2_with fail
        go_roundw
        case rel => exact ⟨k + 1, by omega, by go_num, Lib.hid (by rw [row_setCell hg1.out, ← hcr, tabA_set]), Lib.hid ((heap_setCell_other _ _ _ _ (by simp)).trans hg0.out), hb.setCell (p := ⟨H + 1, k, none⟩) (by simp) _⟩
        case measure => simp [intOf]; omega
/-- A byte's round, as the walk spells it. -/
theorem sum_round (c : Nat) (b : UInt8) : bits .xor .u8 ((c : Int) % 256) (b.toNat : Int) = ((c % 256 ^^^ b.toNat : Nat) : Int) := by
  rw [show ((c : Int) % 256) = ((c % 256 : Nat) : Int) by omega]
  exact u8_xor_nat _ _ (by omega) (byte_lt b)
theorem sum_round2 {c : Nat} (h : c < 4294967296) (b : UInt8) : bits .xor .u32 ((c : Int) / 256) ((crcIter 8 (c % 256 ^^^ b.toNat) : Nat) : Int) = (crcStep c b : Nat) := by
  have hx : c % 256 ^^^ b.toNat < 2 ^ 8 := Nat.xor_lt_two_pow (by omega) (byte_lt b)
  rw [show ((c : Int) / 256) = ((c / 256 : Nat) : Int) by omega, u32_xor_nat _ _ (by omega) (crcIter_lt 8 (by omega)), crc_table]
set_option maxHeartbeats 1000000 in
set_option maxRecDepth 200000 in
theorem sum_any (s : Str) (w : World) (hs : s.length ≤ 100000) :
    Calls Tryz.prog 98 #[S s] w fun e w' => e = .returned (.int .u32 (sumOf s : Nat)) ∧ Below w.heap.size w w' := by
  go_enter Tryz.func98, Tryz.ntmps98
  go_wp2_with fail
  refine (table_any w).mono ?_
  rintro e w1 ⟨rfl, hb1⟩
  go_wp2_with (refine wpList_store_row rfl _ _ _ rfl w1.heap.size (tabA 256) rfl rfl 193 (tabA 0) (by rw [heap_alloc_new, tabA_zero]) (by rw [tabA_size]; exact size256) (by rw [tabA_size, tabA_size]) (tabA_one _) ?_)
  have hb2 : Below w.heap.size w ((w1.alloc (.cells Tryz.zeroCells193 193)).setRow w1.heap.size (tabA 256)) := (hb1.alloc hb1.size _).grown (grown_setRow _ _ _) (by have := hb1.size; simp; omega) (fun k hk => by cases hk; exact hb1.size)
  have hg2 := setRow_heap (w1.alloc (.cells Tryz.zeroCells193 193)) w1.heap.size _ (tabA 256) _ _ (heap_alloc_new w1 _)
  have G2 := Lib.hid hg2; clear hg2
  generalize (w1.alloc (.cells Tryz.zeroCells193 193)).setRow w1.heap.size (tabA 256) = w2 at *
  generalize w1.heap.size = g at *
  generalize htb : tabA 256 = tb at *
  have HTb := Lib.hid htb; clear htb
  go_loop [4, 9] (fun c i => ∃ k : Nat, k ≤ s.length ∧ i = .int .i64 k ∧ c = .int .u32 (crcFold 4294967295 (s.take k) : Nat)) (fun _ i => s.length - (intOf i).toNat)
  case atStart => exact ⟨0, by omega, rfl, rfl⟩
  case round =>
    obtain ⟨k, hk, rfl, rfl⟩ := hrel
    have hc : crcFold 4294967295 (s.take k) < 4294967296 := crcFold_lt _ (by omega)
    by_cases hlt : k < s.length
    · have hk1 : (k : Int) < s.length := by omega
      have hsn : crcFold 4294967295 (s.take (k + 1)) = crcStep (crcFold 4294967295 (s.take k)) s[k] := by
        rw [take_snoc' (x := s[k]) (by simp [hlt]), crcFold_snoc]
      have HSn := Lib.hid hsn; clear hsn
      generalize crcFold 4294967295 (s.take k) = c at *
      have hbk : (({ data := s.toArray } : ByteArray)[k]'(by simpa [ByteArray.size] using hlt)) = s[k] := rfl
      have hr1 := sum_round c s[k]
      have hr2 := sum_round2 hc s[k]
      have hx8 : c % 256 ^^^ s[k].toNat < 2 ^ 8 := Nat.xor_lt_two_pow (by omega) (byte_lt s[k])
      have hca := cell_of_row w2 g (c % 256 ^^^ s[k].toNat) _ _ _ G2.out
      rw [← HTb.out, tabA_at (by omega)] at hca
      have hx0 : (0 : Int) ≤ ((c % 256 ^^^ s[k].toNat : Nat) : Int) := by omega
      have hx1 : ((c % 256 ^^^ s[k].toNat : Nat) : Int) < 256 := by omega
      have h1 : (0 : Int) ≤ c := by omega
      have h2 : (c : Int) < 4294967296 := by omega
      generalize c % 256 ^^^ s[k].toNat = x at *
      clear hc hb1 hb2 h1 h2
      go_wp2_with fail
      refine ⟨⟨k + 1, by omega, by go_num, by rw [HSn.out]⟩, ?_⟩
      simp [intOf]; omega
    · obtain rfl : k = s.length := by omega
      have hf : bits .xor .u32 IntKind.u32.max ((crcFold 4294967295 (s.take s.length) : Nat) : Int) = (sumOf s : Nat) := by
        rw [List.take_length] at hc ⊢
        have := u32_xor_nat 4294967295 (crcFold 4294967295 s) (by omega) hc
        unfold sumOf
        rw [Nat.xor_comm]
        exact this
      have HF := Lib.hid hf; clear hf
      generalize crcFold 4294967295 (s.take s.length) = c at *
      have HB2 := Lib.hid hb2
      have HS := Lib.hid hs
      clear hc hb1 hb2 hs
      go_wp2_with fail
      go_ret
      exact ⟨show Ending.returned (.int .u32 (bits .xor .u32 IntKind.u32.max (c : Int))) = _ by rw [HF.out], HB2.out⟩
end Go.Proofs.YtcdcfolhnjgigaaGreatDoor
namespace Go.Proofs.YtcdcfolhnjgigaaGreatDoor
open Go.RowKit Go.Sort Go.Lib

theorem formatUintI_any (u : Nat) (hu64 : u < 18446744073709551616) (w : World) (htab : Lib.TabIs Tryz.prog w "internal/strconv.uint64pow10" .u64 Lib.pow10Tab) :
    Calls Tryz.prog 150 #[.int .u64 u, .int .i64 10] w fun e w' => e = .returned (.string ⟨(Lib.decDigits u).toArray⟩) ∧ Below w.heap.size w w' := by
  by_cases hs : u < 100
  · have g : (u : Int) < 100 := by omega
    have hc : IntKind.i64.wrap (u : Int) = u := by rw [IntKind.wrap_i64]; omega
    go_enter Tryz.func150, Tryz.ntmps150
    go_wp2_with (go_at_call 198; refine (Tryz.internal_strconv_small u hs _).mono ?_; rintro e w' ⟨rfl, rfl⟩)
    go_ret
    exact ⟨rfl, Below.refl _ _⟩
  · have hu1 : 1 ≤ u := by omega
    have g : decide ((u : Int) < 100) = false := by simp; omega
    have hnd20 : Lib.nDigits u ≤ 20 := by have := Lib.numDigits_eq u hu1 hu64; split at this <;> omega
    have hal : Tryz.prog.arrayLen 232 = 24 := by simp [Program.arrayLen, Tryz.underlying232]
    have hsl : ∀ W, (Instr.sliceAt 232 (.pointer (some ⟨w.heap.size, 0, none⟩)) none (some (.int .i64 (Lib.nDigits u : Int))) none).run Tryz.prog W = .ok (.slice (some ⟨w.heap.size, 0, none⟩) (Lib.nDigits u) 24) W := fun W => by
      rw [run_sliceAt_array_h W 232 ⟨w.heap.size, 0, none⟩ (by simp [Program.arrayLen, Program.elem, Tryz.underlying232]) .i64 (Lib.nDigits u : Int) (by omega) (by rw [hal]; omega)]
      go_simp
    have hH0 := Lib.holds_zero0 w 232 (Lib.nDigits u) (by omega)
    have hfmt := Tryz.internal_strconv_formatBase10 w.heap.size 0 24 u (Array.replicate (Lib.nDigits u) 0) (w.alloc (.cells Lib.zeros24 232)) hH0 (by rw [Array.size_replicate]; exact Lib.lt_pow_nDigits u) hu64 (by rw [Array.size_replicate]; omega)
    rw [Array.size_replicate] at hfmt
    have HH0 := Lib.hid hH0
    clear hH0 hal
    go_enter Tryz.func150, Tryz.ntmps150
    go_wp2_with (go_at_call 199; refine (Tryz.internal_strconv_numDigits u hu1 hu64 _ (Lib.tabIs_alloc htab _)).mono ?_; rintro e w' ⟨rfl, rfl⟩)
    refine hfmt.mono ?_
    rintro e w' ⟨rfl, k, v', dk, rfl, hF⟩
    have hcv : (convert 46 9 (.slice (some ⟨w.heap.size, 0, none⟩) (Lib.nDigits u) 24)).run Tryz.prog ((putRow (fun (b : UInt8) => Value.int .u8 (b.toNat : Int)) (w.alloc (.cells Lib.zeros24 232)) w.heap.size 0 dk).drewN k) = .ok (.string ⟨(Lib.decDigits u).toArray⟩) ((putRow (fun (b : UInt8) => Value.int .u8 (b.toNat : Int)) (w.alloc (.cells Lib.zeros24 232)) w.heap.size 0 dk).drewN k) := by
      have h := run_convert_bytes_back (P := Tryz.prog) ((putRow (fun (b : UInt8) => Value.int .u8 (b.toNat : Int)) (w.alloc (.cells Lib.zeros24 232)) w.heap.size 0 dk).drewN k) 46 9 5 ⟨w.heap.size, 0, none⟩ 24 (Lib.decDigits u) Tryz.underlying46 Tryz.underlying5 Tryz.underlying9 (fun j hj => by
        rw [Lib.row_is_numeral hF j hj, Lib.add_plain, World.cell?_drewN]
        exact cell?_putRow (fun (b : UInt8) => Value.int .u8 (b.toNat : Int)) _ w.heap.size 0 _ dk HH0.out (by rw [hF.size, Array.size_replicate]) j (by rw [hF.size]; rw [Lib.decDigits_length] at hj; exact hj))
      rw [Lib.decDigits_length] at h
      exact h
    go_wp2_with fail
    go_ret
    obtain ⟨os, eo⟩ := Lib.fin_at w (.cells Lib.zeros24 232) dk k 0
    refine ⟨rfl, ?_⟩
    rw [eo]
    exact Bgrow w k os
theorem formatUint_any (B : Nat) (u : Nat) (hu64 : u < 18446744073709551616) (w : World) (hT : LNum B w) :
    Calls Tryz.prog 97 #[.int .u64 u, .int .i64 10] w fun e w' => e = .returned (S (Lib.itoa u)) ∧ Below w.heap.size w w' := by
  have h := formatUintI_any u hu64 w hT.tab
  rw [show Lib.decDigits u = Lib.itoa u from (Lib.itoa_nonneg u).symm] at h
  go_enter Tryz.func97, Tryz.ntmps97
  go_wp2_with fail
  refine h.mono ?_
  rintro e w1 ⟨rfl, hb⟩
  go_wp2_with fail
  go_ret
  exact ⟨rfl, hb⟩
end Go.Proofs.YtcdcfolhnjgigaaGreatDoor
namespace Go.Proofs.YtcdcfolhnjgigaaGreatDoor
open Go.RowKit

def snapTextR (s : Sn) : Str := if snapCheck s = .nil then snapText s else []
theorem seven_ints (h : Int → Prop) (a b c d e : Int) (ha : h a) (hb : h b) (hc : h c) (hd : h d) (he : h e) : ∀ x ∈ [a, b, c, d, e], h x := by
  intro x hx
  simp only [List.mem_cons, List.not_mem_nil, or_false] at hx
  rcases hx with rfl | rfl | rfl | rfl | rfl <;> assumption

set_option maxHeartbeats 1000000 in
set_option maxRecDepth 20000 in
theorem snapText_any (E : Nat → Addr) (B : Nat) (s : Sn) (v : Value) (w : World) (hE : Errs [2, 4, 5, 8, 9] E B w) (hT : LNum B w) (hM : LMax B w) (hl : FilesAt w v s.files) (hs : ∀ x ∈ s.files, midF x) :
    Calls Tryz.prog 35 #[snapV s v] w fun e w' => ∃ ev, e = .returned (.tuple #[S (snapTextR s), ev]) ∧ ErV E w' ev (snapCheck s) ∧ Below w.heap.size w w' := by
  have hBw := hE.le
  have hif := isIfaceE
  have Hs := Lib.hid hs; clear hs
  have hb0 : Below w.heap.size w (w.alloc (.cells #[.int .i64 s.id, .int .i64 s.parent, .int .i64 s.seq, .int .i64 s.day, .int .i64 s.index, S s.op, v] 58)) := (Below.refl _ _).alloc (Nat.le_refl _) _
  have CS := Lib.hid (fun w6 (h : Below (w.alloc (.cells #[.int .i64 s.id, .int .i64 s.parent, .int .i64 s.seq, .int .i64 s.day, .int .i64 s.index, S s.op, v] 58)).heap.size (w.alloc (.cells #[.int .i64 s.id, .int .i64 s.parent, .int .i64 s.seq, .int .i64 s.day, .int .i64 s.index, S s.op, v] 58)) w6) => snapCells h)
  obtain ⟨c0, c1, c2, c3, c4, c5, c6⟩ := CS.out _ (Below.refl _ _)
  go_enter Tryz.func35, Tryz.ntmps35
  go_wp2_with fail
  generalize w.alloc (.cells #[.int .i64 s.id, .int .i64 s.parent, .int .i64 s.seq, .int .i64 s.day, .int .i64 s.index, S s.op, v] 58) = w0 at *
  refine (snapCheck_any E B s v w0 (hE.below' hb0 hBw) (hT.below' hb0 hBw) (hM.below' hb0 hBw) (hl.below hb0) Hs.out).mono ?_
  rintro e w1 ⟨ev, rfl, hev, hb1⟩
  have hb1' := hb0.trans (hb1.mono hb0.size)
  clear c0 c1 c2 c3 c4 c5 c6
  by_cases hck : snapCheck s = .nil
  case neg =>
    obtain ⟨u, x, rfl⟩ := hev.iface hck
    have HF : Hid (snapTextR s = []) := Lib.hid (if_neg hck)
    have HEv := Lib.hid hev
    clear hck hev
    go_wp2_with fail
    go_ret2
    exact ⟨_, by rw [HF.out]; rfl, HEv.out, hb1'⟩
  have hr := (snap_iff s).1 hck
  have HF : Hid (snapTextR s = snapText s) := Lib.hid (if_pos hck)
  rw [hck] at hev
  obtain rfl : ev = .nilIface := hev
  have HCk := Lib.hid hck; clear hck
  obtain ⟨c0, c1, c2, c3, c4, c5, c6⟩ := CS.out _ hb1
  have hlc := (right_iff _).2 hr.lst
  have hlt : listTextR s.files = listText s.files := if_pos hlc
  have hT2 := listText_any E B v s.files w1 (hE.below' hb1' hBw) (hT.below' hb1' hBw) (hM.below' hb1' hBw) (hl.below hb1') Hs.out
  rw [hlc, hlt] at hT2
  have HT2 := Lib.hid hT2
  clear hT2 hlt hlc
  have hbl := text_len hr
  have hopl := (op_sign hr.op).2
  obtain ⟨a1, a2, a3, a4, a5⟩ := hr.nums
  have HR := Lib.hid hr; clear hr
  go_wp2_with fail
  refine HT2.out.mono ?_
  rintro e w2 ⟨ev, rfl, hev, hb2⟩
  obtain rfl : ev = .nilIface := hev
  have hb2' := hb1'.trans (hb2.mono hb1'.size)
  have hb02 := hb1.trans (hb2.mono hb1.size)
  clear c0 c1 c2 c3 c4 c5 c6 HT2
  obtain ⟨c0, c1, c2, c3, c4, c5, c6⟩ := CS.out _ hb02
  obtain ⟨body, hbody⟩ : ∃ b, listText s.files = b := ⟨_, rfl⟩
  have HX : Hid (snapText s = kSnap ++ (numsTail [s.id, s.parent, s.seq, s.day, s.index] ++ 32 :: (s.op ++ 32 :: Lib.itoa (sumOf body))) ++ 10 :: body) := Lib.hid (by rw [← hbody]; rfl)
  rw [hbody] at hbl ⊢
  clear hbody
  have hbd : ∀ x ∈ [s.id, s.parent, s.seq, s.day, s.index], -9223372036854775808 ≤ x ∧ x ≤ 9223372036854775807 := seven_ints _ _ _ _ _ _ (by omega) (by omega) (by omega) (by omega) (by omega)
  have HB := Lib.hid hbd; clear hbd a1 a2 a3 a4 a5
  have hil := ints_new [s.id, s.parent, s.seq, s.day, s.index] w2 3 _ 5 #[.int .i64 s.id, .int .i64 s.parent, .int .i64 s.seq, .int .i64 s.day, .int .i64 s.index] rfl rfl rfl (by decide)
  have hb3 := hb2'.alloc hb2'.size (.cells #[.int .i64 s.id, .int .i64 s.parent, .int .i64 s.seq, .int .i64 s.day, .int .i64 s.index] 3)
  have hb03 := hb02.alloc hb02.size (.cells #[.int .i64 s.id, .int .i64 s.parent, .int .i64 s.seq, .int .i64 s.day, .int .i64 s.index] 3)
  go_wp2_with fail
  clear c0 c1 c2 c3 c4 c5 c6
  generalize w2.alloc (.cells #[.int .i64 s.id, .int .i64 s.parent, .int .i64 s.seq, .int .i64 s.day, .int .i64 s.index] 3) = w3 at *
  have hT3 := hT.below' hb3 hBw
  obtain ⟨a, c, b, o, hv, ha, hc, hcm, hx⟩ := hil
  simp only [Value.slice.injEq] at hv
  obtain ⟨rfl, -, rfl⟩ := hv
  have hp0 : [s.id, s.parent, s.seq, s.day, s.index].length = 5 := rfl
  have hab := ha (by simp)
  simp only [Option.some.injEq, Addr.mk.injEq, and_true] at hab
  obtain ⟨rfl, rfl⟩ := hab
  generalize [s.id, s.parent, s.seq, s.day, s.index] = l at *
  go_loopw [7, 36] (fun t i wr => ∃ k : Nat, k ≤ l.length ∧ i = .int .i64 k ∧ t = S (kSnap ++ numsTail (l.take k)) ∧ Below w3.heap.size w3 wr) (fun _ i _ => l.length - (intOf i).toNat)
  case atStart => exact ⟨0, by omega, rfl, by simp [numsTail], Below.refl _ _⟩
  case round =>
    obtain ⟨k, hk, rfl, rfl, hb⟩ := hrel
    have hl4 := numsTail_len (l.take k) (fun y hy => HB.out y (List.mem_of_mem_take hy))
    have hl5 : (l.take k).length ≤ 5 := by rw [List.length_take]; omega
    have hl6 : (numsTail (l.take k)).length ≤ 110 := by omega
    clear hl4 hl5
    by_cases hlt : k < l.length
    case neg =>
      obtain rfl : k = l.length := by omega
      rw [List.take_length] at hl6 ⊢
      rw [hp0]
      have hb0r := hb03.trans (hb.mono hb03.size)
      have hbr := hb3.trans (hb.mono hb3.size)
      have k5 := (CS.out _ (hb0r.drew)).2.2.2.2.2.1
      have hsl := sumOf_lt body
      have hw6 : IntKind.u64.wrap ((sumOf body : Nat) : Int) = (sumOf body : Nat) := by rw [IntKind.wrap_u64]; omega
      have hbrd := hbr.drew
      have hsm := fun W => sum_any body W (by omega)
      generalize sumOf body = sb at *
      have HSm := Lib.hid hsm; clear hsm
      have hsl2 := itoa_len sb (by omega) (by omega)
      obtain ⟨tx, htx⟩ : ∃ tx, Lib.itoa sb = tx := ⟨_, rfl⟩
      obtain ⟨hd, hhd⟩ : ∃ hd, kSnap ++ numsTail l = hd := ⟨_, rfl⟩
      have hhl : hd.length ≤ 120 := by rw [← hhd, List.length_append]; simp; omega
      rw [htx] at hsl2
      have r1 := cat_run ⟨hd.toArray⟩ ⟨#[32]⟩ hd.length 1 rfl rfl (by omega)
      have r2 := cat_run (⟨hd.toArray⟩ ++ ⟨#[32]⟩) ⟨s.op.toArray⟩ (hd.length + 1) s.op.length (by simp only [ByteArray.size_append]; rfl) rfl (by omega)
      have r3 := cat_run (⟨hd.toArray⟩ ++ ⟨#[32]⟩ ++ ⟨s.op.toArray⟩) ⟨#[32]⟩ (hd.length + 1 + s.op.length) 1 (by simp only [ByteArray.size_append]; rfl) rfl (by omega)
      have r4 := cat_run (⟨hd.toArray⟩ ++ ⟨#[32]⟩ ++ ⟨s.op.toArray⟩ ++ ⟨#[32]⟩) ⟨tx.toArray⟩ (hd.length + 1 + s.op.length + 1) tx.length (by simp only [ByteArray.size_append]; rfl) rfl (by omega)
      have r5 := cat_run (⟨hd.toArray⟩ ++ ⟨#[32]⟩ ++ ⟨s.op.toArray⟩ ++ ⟨#[32]⟩ ++ ⟨tx.toArray⟩) ⟨#[10]⟩ (hd.length + 1 + s.op.length + 1 + tx.length) 1 (by simp only [ByteArray.size_append]; rfl) rfl (by omega)
      have r6 := cat_run (⟨hd.toArray⟩ ++ ⟨#[32]⟩ ++ ⟨s.op.toArray⟩ ++ ⟨#[32]⟩ ++ ⟨tx.toArray⟩ ++ ⟨#[10]⟩) ⟨body.toArray⟩ (hd.length + 1 + s.op.length + 1 + tx.length + 1) body.length (by simp only [ByteArray.size_append]; rfl) rfl (by omega)
      have HS6 : Hid ((⟨hd.toArray⟩ : ByteArray) ++ ⟨#[32]⟩ ++ ⟨s.op.toArray⟩ ++ ⟨#[32]⟩ ++ ⟨tx.toArray⟩ ++ ⟨#[10]⟩ ++ ⟨body.toArray⟩ = ⟨(kSnap ++ (numsTail l ++ 32 :: (s.op ++ 32 :: Lib.itoa sb)) ++ 10 :: body).toArray⟩) := Lib.hid (by rw [← htx]; rw [← List.append_assoc kSnap, hhd]; apply ByteArray.ext; simp)
      have HTx := Lib.hid htx
      rw [hhd]
      clear htx hhd
      go_wp2_with fail
      go_region_held3 (fun w' => w'.cell? ⟨w.heap.size, 5, none⟩ = some (S s.op)) (exact k5) (first | (go_at_call 98; refine (HSm.out _).mono ?_; rintro e w6 ⟨rfl, hb6⟩; have k5' := (hb6.cell (World.block_lt_of_cell? _ _ k5)).trans k5; clear k5; have k5 := k5'; clear k5') | (go_at_call 97; refine (formatUint_any B sb (by omega) _ (hT.below' (hbrd.trans (hb6.mono hbrd.size)) hBw)).mono ?_; rintro e w7 ⟨rfl, hb7⟩; rw [HTx.out]; have k5' := (hb7.cell (World.block_lt_of_cell? _ _ k5)).trans k5; clear k5; have k5 := k5'; clear k5'))
      go_wp2_with fail
      go_ret2
      exact ⟨_, by rw [HF.out, HX.out]; show Ending.returned (.tuple #[.string ((⟨hd.toArray⟩ : ByteArray) ++ ⟨#[32]⟩ ++ ⟨s.op.toArray⟩ ++ ⟨#[32]⟩ ++ ⟨tx.toArray⟩ ++ ⟨#[10]⟩ ++ ⟨body.toArray⟩), _]) = _; rw [HS6.out], by rw [HCk.out]; rfl, hbrd.trans ((hb6.trans (hb7.mono hb6.size)).mono hbrd.size)⟩
    obtain ⟨x, hxk⟩ := get_ex hlt
    have c1 := hx k x hxk 0 _ rfl
    have c1 := (hb.cell (World.block_lt_of_cell? w3 _ c1)).trans c1
    have i1 := idx_at (c := 5) 1 Tryz.underlying39 szInt ha k hlt
    have hk1 : (k : Int) < (l.length : Int) := by omega
    simp only [Nat.mul_one, Nat.add_zero, Nat.zero_add] at c1 i1
    rw [hp0] at hk1 i1
    obtain ⟨h1, h2⟩ := HB.out x (List.mem_of_getElem? hxk)
    have hsn := take_snoc' hxk
    have hl1 := itoa_len x h1 h2
    have Hx := Lib.hid hsn; clear hsn hxk
    go_wp2_with fail
    refine (itoa_any B x h1 h2 _ (hT3.below' hb hT3.le)).mono ?_
    rintro e w4 ⟨rfl, hb4⟩
    go_wp2_with fail
    go_roundw
    case rel => exact ⟨k + 1, by omega, by go_num, by rw [Hx.out, numsTail_snoc]; simp; apply ByteArray.ext; simp, hb.trans (hb4.mono hb.size)⟩
    case measure => simp [intOf]; omega
end Go.Proofs.YtcdcfolhnjgigaaGreatDoor
namespace Go.Proofs
open Go.Shelf
def Tryz.growS_ren : Go.Shelf.Ren := ⟨fun | 4 => 160 | n => n, fun | 22 => 115 | 25 => 9 | 3 => 3 | 4 => 4 | 9 => 9 | 20 => 20 | 0 => 0 | n => n, fun | n => n⟩
theorem Tryz.growS : Go.Proofs.Lays8.n4 Tryz.prog Tryz.growS_ren := {
  mixed := by kernel_rfl
  f4 := ⟨Tryz.f160.name, by decide, Tryz.func160.trans (congrArg some (by kernel_rfl))⟩
  t0 := Tryz.underlying0
  a0 := Tryz.isAgg0
  z0 := Tryz.sizeOf0
  v0 := Tryz.zeroValue0
  t3 := Tryz.underlying3
  a3 := Tryz.isAgg3
  z3 := Tryz.sizeOf3
  v3 := Tryz.zeroValue3
  t4 := Tryz.underlying4
  a4 := Tryz.isAgg4
  z4 := Tryz.sizeOf4
  v4 := Tryz.zeroValue4
  t9 := Tryz.underlying9
  a9 := Tryz.isAgg9
  z9 := Tryz.sizeOf9
  v9 := Tryz.zeroValue9
  t20 := Tryz.underlying20
  a20 := Tryz.isAgg20
  z20 := Tryz.sizeOf20
  v20 := Tryz.zeroValue20
  t22 := Tryz.underlying115
  a22 := Tryz.isAgg115
  z22 := Tryz.sizeOf115
  v22 := Tryz.zeroValue115 }
end Go.Proofs
namespace Go.Proofs.YtcdcfolhnjgigaaGreatDoor
open Go.RowKit

theorem cut1_any (c : UInt8) (B : Nat) (s : Str) (w : World) (hM : LMax B w) (hs : s.length ≤ 100000) :
    Calls Tryz.prog 106 #[S s, .string ⟨#[c]⟩] w fun e w' => e = .returned (.tuple #[S (Lib.cut s [c]).1, S (Lib.cut s [c]).2.1, .bool (Lib.cut s [c]).2.2]) ∧ Below w.heap.size w w' := by
  obtain ⟨m, hm⟩ := hM.max
  refine (Tryz.strings_Cut ⟨s.toArray⟩ ⟨#[c]⟩ m w (by show s.toArray.size < _; simp; omega) hm).mono ?_
  rintro e w' ⟨rfl, n, rfl⟩
  exact ⟨rfl, Bdn (Below.refl _ _) n⟩
theorem growS_any (n : Nat) (hn0 : 0 < n) (hn : n ≤ 10000) (w : World) :
    Calls Tryz.prog 160 #[.slice none 0 0, .int .i64 n] w fun e w' => ∃ cap, e = .returned (.slice (some ⟨w.heap.size, 0, none⟩) 0 cap) ∧ n ≤ cap ∧ Own encS 9 1 w.heap.size w' (.slice (some ⟨w.heap.size, 0, none⟩) 0 cap) [] ∧ Below w.heap.size w w' := by
  obtain ⟨i0, z, hu, hi, hz, hsz, hby, hzs, hpos⟩ := elStr
  have h := Any8.slices_Grow_grow Tryz.growS i0 z hi hz (by omega) none 0 0 n [] w (Nat.le_refl _) (by omega) (by rw [hby]; omega) (by omega) (by simp) (fun _ => rfl) (fun a h => by cases h)
  rw [show (Tryz.growS_ren).t 25 = 9 from rfl] at h
  have hge := grownCap_ge w (0 + n) 0 9
  have hle : grownCap w (0 + n) 0 9 ≤ maxLen := grownCap_le_maxLen w (0 + n) 0 9 (by unfold maxLen; omega)
  refine h.mono ?_
  rintro e w' ⟨rfl, rfl⟩
  refine ⟨_, rfl, by have := hge; omega, ?_, (Below.refl _ _).drew.alloc (Nat.le_refl _) _⟩
  refine Own.put encS_enc rfl (Nat.le_refl _) (heap_alloc_new w.drew _) (Nat.zero_le _) hle ?_ rfl
  simp only [Array.size_append, List.size_toArray, size_zeroCells, hzs, List.length_nil]
  omega
set_option maxRecDepth 20000 in
theorem concat2_any (v1 v2 : Value) (l1 l2 : List Str) (g c : Nat) (w : World) (h1 : StrsAt w v1 l1) (h2 : StrsAt w v2 l2) (c1 : w.cell? ⟨g, 0, none⟩ = some v1) (c2 : w.cell? ⟨g, 1, none⟩ = some v2) (_hc : 2 ≤ c) (_hcm : c ≤ maxLen) (hpos : 0 < l1.length + l2.length) (hn : l1.length + l2.length ≤ 10000) :
    Calls Tryz.prog 107 #[.slice (some ⟨g, 0, none⟩) 2 c] w fun e w' => ∃ v', e = .returned v' ∧ Own encS 9 1 w.heap.size w' v' (l1 ++ l2) ∧ Below w.heap.size w w' := by
  obtain ⟨a1, n1, hv1, -, -⟩ := h1.form'
  obtain ⟨a2, n2, hv2, -, -⟩ := h2.form'
  have sz2 : ∀ w, (sizeOf 115).run Tryz.prog w = .ok 1 w := fun w => by kernel_rfl
  have ix := fun (k : Nat) (hk : k < 2) => idx_at (P := Tryz.prog) (c := c) (o := 0) (b := g) (n := 2) 1 Tryz.underlying201 sz2 (fun _ => rfl) k hk
  have i0 := ix 0 (by omega); have i1 := ix 1 (by omega)
  simp only [Nat.mul_one, Nat.zero_add] at i0 i1
  have e0 : ((0 : Nat) : Int) = 0 := rfl
  have e1 : ((1 : Nat) : Int) = 1 := rfl
  rw [e0] at i0; rw [e1] at i1
  clear ix e0 e1
  unfold maxLen at _hcm
  have H1 := Lib.hid h1; have H2 := Lib.hid h2
  obtain ⟨m1, hm1⟩ : ∃ m, l1.length = m := ⟨_, rfl⟩
  obtain ⟨m2, hm2⟩ : ∃ m, l2.length = m := ⟨_, rfl⟩
  rw [hm1] at hv1 hpos hn; rw [hm2] at hv2 hpos hn
  subst hv1 hv2
  clear h1 h2
  have HM1 := Lib.hid hm1; have HM2 := Lib.hid hm2
  clear hm1 hm2
  have g0 : decide ((0 : Int) < 0) = false := rfl
  go_enter Tryz.func107, Tryz.ntmps107
  go_wp2_with fail
  go_loop [3, 11] (fun s i => (s = .int .i64 0 ∧ i = .int .i64 0) ∨ (s = .int .i64 m1 ∧ i = .int .i64 1) ∨ (s = .int .i64 ((m1 + m2 : Nat) : Int) ∧ i = .int .i64 2)) (fun _ i => 2 - (intOf i).toNat)
  case atStart => exact .inl ⟨rfl, rfl⟩
  case round =>
    rcases hrel with ⟨rfl, rfl⟩ | ⟨rfl, rfl⟩ | ⟨rfl, rfl⟩
    · go_wp2_with fail
      exact ⟨.inr (.inl ⟨rfl, rfl⟩), by decide⟩
    · go_wp2_with fail
      exact ⟨.inr (.inr ⟨by go_num, rfl⟩), by decide⟩
    · go_wp2_with fail
      refine (growS_any (m1 + m2) hpos hn w).mono ?_
      rintro e w1 ⟨cap, rfl, hcap, hown, hb1⟩
      go_wp2_with fail
      have HC := Lib.hid (fun W (h : Below w.heap.size w W) => (⟨(h.cell (World.block_lt_of_cell? w _ c1)).trans c1, (h.cell (World.block_lt_of_cell? w _ c2)).trans c2⟩ : W.cell? ⟨g, 0, none⟩ = _ ∧ W.cell? ⟨g, 1, none⟩ = _))
      have hs1 := fun W (h : Below w.heap.size w W) => (H1.out.below h).src encS_enc (by decide)
      have hs2 := fun W (h : Below w.heap.size w W) => (H2.out.below h).src encS_enc (by decide)
      rw [HM1.out] at hs1; rw [HM2.out] at hs2
      have HS1 := Lib.hid hs1; have HS2 := Lib.hid hs2
      clear hs1 hs2 c1 c2
      go_loopw [6, 27] (fun v i wr => Below w.heap.size w wr ∧ ((i = .int .i64 0 ∧ Own encS 9 1 w.heap.size wr v []) ∨ (i = .int .i64 1 ∧ Own encS 9 1 w.heap.size wr v l1) ∨ (i = .int .i64 2 ∧ Own encS 9 1 w.heap.size wr v (l1 ++ l2)))) (fun _ i _ => 2 - (intOf i).toNat)
      case atStart => exact ⟨hb1, .inl ⟨rfl, hown⟩⟩
      case round =>
        obtain ⟨hb, ⟨rfl, ho⟩ | ⟨rfl, ho⟩ | ⟨rfl, ho⟩⟩ := hrel
        · obtain ⟨c1, c2⟩ := HC.out _ hb
          have hs1 := HS1.out _ hb
          clear hown hb1
          go_wp2_with (at_builtin; refine wpList_app rfl _ _ _ rfl w.heap.size elStr _ 0 [] rfl ho _ m1 _ rfl hs1 (by unfold maxLen; omega) (by omega) hb.size ?_; intro v' w2 hown hg _)
          have hown' : Own encS 9 1 w.heap.size w2 v' l1 := by unfold Own; rw [HM1.out]; simpa using hown
          go_roundw
          case rel => exact ⟨Bapp hb ho hg (Nat.le_refl _) hb.size, .inr (.inl ⟨rfl, hown'⟩)⟩
          case measure => simp [intOf]
        · obtain ⟨c1, c2⟩ := HC.out _ hb
          have hs2 := HS2.out _ hb
          have ho' := ho
          unfold Own at ho'
          rw [HM1.out] at ho'
          clear hown hb1
          go_wp2_with (at_builtin; refine wpList_app rfl _ _ _ rfl w.heap.size elStr _ m1 _ rfl ho' _ m2 _ rfl hs2 (by unfold maxLen; omega) (by omega) hb.size ?_; intro v' w2 hown hg _)
          have hown' : Own encS 9 1 w.heap.size w2 v' (l1 ++ l2) := by unfold Own; rw [List.length_append, HM1.out, HM2.out, List.flatMap_append]; exact hown
          go_roundw
          case rel => exact ⟨Bapp hb ho hg (Nat.le_refl _) hb.size, .inr (.inr ⟨rfl, hown'⟩)⟩
          case measure => simp [intOf]
        · clear hown hb1
          go_wp2_with fail
          go_ret
          exact ⟨_, rfl, ho, hb⟩
end Go.Proofs.YtcdcfolhnjgigaaGreatDoor
