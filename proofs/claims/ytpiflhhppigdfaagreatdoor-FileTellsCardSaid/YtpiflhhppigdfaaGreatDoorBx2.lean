/- Errors as values: nil, a sentinel, a Fault around a sentinel; plain.Code of each. Package meta in plain words: of no program. deedboxref1: SameInts, SameTexts, InInts, InTexts: what they answer. append, whatever is appended (an empty slice or nil, too), to a slice that the call owns: one law for the walks. Of no program. deedboxlaw2.OwnInts; the types' facts for ints and texts. -/
import Derived.Test.YtpiflhhppigdfaaGreatDoorBx1
import Derived.Test.YtpiflhhppigdfaaGreatDoorProg
import Derived.Outline
import Derived.Maps.AppendAt
import Derived.Deep.AppendSrc
import Derived.OwnWalk
namespace Go.Proofs.YtpiflhhppigdfaaGreatDoor
open Go.RowKit

/-- An error, as the document speaks of it: none; one of the twelve; one of the twelve with its place. -/
inductive Er where
  | nil
  | bare (c : Nat)
  | loc (c : Nat) (i : Int)
  deriving DecidableEq

def Er.code : Er → Nat
  | .nil => 0
  | .bare c => c
  | .loc c _ => c
def Er.place : Er → Int
  | .nil => -1
  | .bare _ => -1
  | .loc _ i => i

/-- The value v is that error in the world w. -/
def ErV (E : Nat → Addr) (w : World) (v : Value) : Er → Prop
  | .nil => v = .nilIface
  | .bare c => (1 ≤ c ∧ c ≤ 12) ∧ v = .iface 395 (.pointer (some (E c)))
  | .loc c i => (1 ≤ c ∧ c ≤ 12) ∧ ∃ fb, v = .iface 150 (.pointer (some ⟨fb, 0, none⟩)) ∧ w.cell? ⟨fb, 0, none⟩ = some (.int .i64 i) ∧ w.cell? ⟨fb, 1, none⟩ = some (.iface 395 (.pointer (some (E c))))

theorem ErV.below {E : Nat → Addr} {w w' : World} {v : Value} {er : Er} (h : ErV E w v er) (hb : Below w.heap.size w w') : ErV E w' v er := by
  cases er with
  | nil => exact h
  | bare c => exact h
  | loc c i =>
    obtain ⟨hc, fb, hv, h0, h1⟩ := h
    exact ⟨hc, fb, hv, (hb.cell (World.block_lt_of_cell? w _ h0)).trans h0, (hb.cell (World.block_lt_of_cell? w _ h1)).trans h1⟩

theorem ErV.iface {E : Nat → Addr} {w : World} {v : Value} {er : Er} (h : ErV E w v er) (hn : er ≠ .nil) : ∃ u x, v = .iface u x := by
  cases er with
  | nil => exact absurd rfl hn
  | bare c => exact ⟨_, _, h.2⟩
  | loc c i => obtain ⟨_, fb, hv, _⟩ := h; exact ⟨_, _, hv⟩

/-- A fault laid anew. -/
theorem ErV.fresh {E : Nat → Addr} {c : Nat} (hc : 1 ≤ c ∧ c ≤ 12) (i : Int) (w : World) (t : TypeId) (H : Nat) (hH : w.heap.size = H) : ErV E (w.alloc (.cells #[.int .i64 i, .iface 395 (.pointer (some (E c)))] t)) (.iface 150 (.pointer (some ⟨H, 0, none⟩))) (.loc c i) := by
  subst hH
  exact ⟨hc, w.heap.size, rfl, by simp, by simp⟩
theorem code_any (E : Nat → Addr) (B : Nat) (er : Er) (v : Value) (w : World) (hE : Errs allE E B w) (hA : AsVar w) (hv : ErV E w v er) :
    Calls Tryz.prog 79 #[v] w fun e w' => e = .returned (.tuple #[.int .i64 er.code, .int .i64 er.place]) ∧ Below w.heap.size w w' := by
  cases er with
  | nil =>
    obtain rfl : v = .nilIface := hv
    exact (code_nil w).mono fun e w' ⟨h1, h2⟩ => ⟨h1, h2 ▸ Below.refl _ _⟩
  | bare c =>
    obtain ⟨⟨h1, h2⟩, rfl⟩ := hv
    exact code_sent E B c h1 h2 w hE hA
  | loc c i =>
    obtain ⟨⟨h1, h2⟩, fb, rfl, h3, h4⟩ := hv
    exact code_fault E B c h1 h2 i fb w hE hA h3 h4
end Go.Proofs.YtpiflhhppigdfaaGreatDoor
namespace Go.Proofs.YtpiflhhppigdfaaGreatDoor

/-- The first fault of n things, by a number each (0: none). -/
def firstFrom (f : Nat → Nat) : Nat → Nat → Er
  | _, 0 => .nil
  | i, m + 1 => if f i = 0 then firstFrom f (i + 1) m else .loc (f i) i
def firstErr (f : Nat → Nat) (n : Nat) : Er := firstFrom f 0 n

theorem firstFrom_all {f : Nat → Nat} : ∀ {m i : Nat}, (∀ j, i ≤ j → j < i + m → f j = 0) → firstFrom f i m = .nil
  | 0, _, _ => rfl
  | m + 1, i, h => by rw [firstFrom, if_pos (h i (Nat.le_refl _) (by omega))]; exact firstFrom_all fun j h1 h2 => h j (by omega) (by omega)
theorem firstErr_all {f : Nat → Nat} {n : Nat} (h : ∀ j < n, f j = 0) : firstErr f n = .nil := firstFrom_all fun j _ h2 => h j (by omega)
theorem firstFrom_hit {f : Nat → Nat} : ∀ {m i k : Nat}, i ≤ k → k < i + m → (∀ j, i ≤ j → j < k → f j = 0) → f k ≠ 0 → firstFrom f i m = .loc (f k) k
  | 0, _, _, h1, h2, _, _ => by omega
  | m + 1, i, k, h1, h2, h3, h4 => by
    rw [firstFrom]
    rcases Nat.lt_or_ge i k with h | h
    · rw [if_pos (h3 i (Nat.le_refl _) h)]; exact firstFrom_hit h (by omega) (fun j h5 h6 => h3 j (by omega) h6) h4
    · obtain rfl : i = k := by omega
      rw [if_neg h4]
theorem firstErr_hit {f : Nat → Nat} {n k : Nat} (hk : k < n) (h : ∀ j < k, f j = 0) (h4 : f k ≠ 0) : firstErr f n = .loc (f k) k := firstFrom_hit (Nat.zero_le _) (by omega) (fun j _ h2 => h j h2) h4
theorem firstFrom_nil {f : Nat → Nat} : ∀ {m i : Nat}, firstFrom f i m = .nil → ∀ j, i ≤ j → j < i + m → f j = 0
  | 0, _, _, j, h1, h2 => by omega
  | m + 1, i, h, j, h1, h2 => by
    rw [firstFrom] at h
    split at h
    · rename_i h0
      rcases Nat.lt_or_ge i j with hj | hj
      · exact firstFrom_nil h j hj (by omega)
      · obtain rfl : j = i := by omega
        exact h0
    · cases h
theorem firstErr_nil {f : Nat → Nat} {n : Nat} (h : firstErr f n = .nil) : ∀ j < n, f j = 0 := fun j hj => firstFrom_nil h j (Nat.zero_le _) (by omega)

/-- An ID's fault at its place. -/
def idFault (ids : List Int) (i : Nat) : Nat :=
  match ids[i]? with
  | none => 0
  | some n => if n < 1 ∨ 1073741824 < n then 2 else if 0 < i ∧ ∃ m, ids[i - 1]? = some m ∧ n ≤ m then 9 else 0
def metaCheck (ids : List Int) : Er := if ids.length = 0 then .bare 6 else if 40 < ids.length then .bare 8 else firstErr (idFault ids) ids.length
def metaNow (ids : List Int) : Int := ids.getLast?.getD 0
end Go.Proofs.YtpiflhhppigdfaaGreatDoor
namespace Go.Proofs.YtpiflhhppigdfaaGreatDoor
open Go.RowKit

theorem szInt (w : World) : (sizeOf 3).run Tryz.prog w = .ok 1 w := by kernel_rfl
theorem szStr (w : World) : (sizeOf 9).run Tryz.prog w = .ok 1 w := by kernel_rfl

theorem list_ext_upto {α : Type} {l m : List α} (hl : l.length = m.length) (h : ∀ j < l.length, l[j]? = m[j]?) : l = m := by
  refine List.ext_getElem? fun i => ?_
  rcases Nat.lt_or_ge i l.length with hi | hi
  · exact h i hi
  · rw [List.getElem?_eq_none hi, List.getElem?_eq_none (by omega)]
theorem ret_bool {a b : Bool} (h : a = b) : Ending.returned (.bool a) = Ending.returned (.bool b) := by rw [h]

theorem sameInts_any (v u : Value) (l m : List Int) (w : World) (hl : IntsAt w v l) (hm : IntsAt w u m) :
    Calls Tryz.prog 75 #[v, u] w fun e w' => e = .returned (.bool (decide (l = m))) ∧ Below w.heap.size w w' := by
  obtain ⟨a, c, b, o, rfl, ha, hc, hcm, hx⟩ := hl
  obtain ⟨a', c', b', o', rfl, ha', hc', hcm', hx'⟩ := hm
  unfold maxLen at hcm hcm'
  by_cases hlen : l.length = m.length
  · have hne : ((l.length : Int) != (m.length : Int)) = false := by simp [hlen]
    have Hl := Lib.hid hlen; clear hlen
    go_enter Tryz.func75, Tryz.ntmps75
    go_wp2_with fail
    go_loopw [5] (fun i wr => ∃ k : Nat, k ≤ l.length ∧ i = .int .i64 k ∧ Hid (∀ j < k, l[j]? = m[j]?) ∧ Below w.heap.size w wr) (fun i _ => l.length - (intOf i).toNat)
    case atStart => exact ⟨0, by omega, rfl, fun j hj => absurd hj (by omega), Below.refl _ _⟩
    case round =>
      obtain ⟨k, hk, rfl, hj, hb⟩ := hrel
      by_cases hlt : k < l.length
      · obtain ⟨x, hxk⟩ := get_ex hlt
        obtain ⟨y, hyk⟩ := get_ex (l := m) (k := k) (by rw [← Hl.out]; exact hlt)
        have c1 := hx k x hxk 0 _ rfl
        have c2 := hx' k y hyk 0 _ rfl
        have c1 := (hb.cell (World.block_lt_of_cell? w _ c1)).trans c1
        have c2 := (hb.cell (World.block_lt_of_cell? w _ c2)).trans c2
        have i1 := idx_at (c := c) 1 Tryz.underlying111 szInt ha k hlt
        have i2 := idx_at (c := c') 1 Tryz.underlying111 szInt ha' k (by rw [← Hl.out]; exact hlt)
        have hk1 : (k : Int) < (l.length : Int) := by omega
        simp only [Nat.mul_one, Nat.add_zero] at c1 c2 i1 i2
        have Hx := Lib.hid hxk; clear hxk
        have Hy := Lib.hid hyk; clear hyk
        go_wp2_with fail
        go_quiet (fail)
        go_wp2_with fail
        · have hne' : x ≠ y := by simpa using ‹(x != y) = true›
          go_ret
          refine ⟨ret_bool ?_, Bdn hb _⟩
          refine (decide_eq_false fun e => hne' ?_).symm
          have := Hx.out; rw [e, Hy.out] at this; exact (Option.some.inj this).symm
        · have he : x = y := by simpa using ‹(x != y) = false›
          go_roundw
          case rel => exact ⟨k + 1, by omega, by go_num, fun j hj' => by
            rcases Nat.lt_or_ge j k with h | h
            · exact hj.out j h
            · obtain rfl : j = k := by omega
              rw [Hx.out, Hy.out, he], Bdn hb _⟩
          case measure => simp [intOf]; omega
      · obtain rfl : k = l.length := by omega
        go_wp2_with fail
        go_ret
        exact ⟨ret_bool (decide_eq_true (list_ext_upto Hl.out hj.out)).symm, hb⟩
  · have hne : ((l.length : Int) != (m.length : Int)) = true := by simp; omega
    go_enter Tryz.func75, Tryz.ntmps75
    go_wp2_with fail
    go_ret
    exact ⟨ret_bool (decide_eq_false fun e => hlen (by rw [e])).symm, Below.refl _ _⟩
theorem sameTexts_any (v u : Value) (l m : List Str) (w : World) (hl : StrsAt w v l) (hm : StrsAt w u m) :
    Calls Tryz.prog 60 #[v, u] w fun e w' => e = .returned (.bool (decide (l = m))) ∧ Below w.heap.size w w' := by
  obtain ⟨a, c, b, o, rfl, ha, hc, hcm, hx⟩ := hl
  obtain ⟨a', c', b', o', rfl, ha', hc', hcm', hx'⟩ := hm
  unfold maxLen at hcm hcm'
  by_cases hlen : l.length = m.length
  · have hne : ((l.length : Int) != (m.length : Int)) = false := by simp [hlen]
    have Hl := Lib.hid hlen; clear hlen
    go_enter Tryz.func60, Tryz.ntmps60
    go_wp2_with fail
    go_loopw [5] (fun i wr => ∃ k : Nat, k ≤ l.length ∧ i = .int .i64 k ∧ Hid (∀ j < k, l[j]? = m[j]?) ∧ Below w.heap.size w wr) (fun i _ => l.length - (intOf i).toNat)
    case atStart => exact ⟨0, by omega, rfl, fun j hj => absurd hj (by omega), Below.refl _ _⟩
    case round =>
      obtain ⟨k, hk, rfl, hj, hb⟩ := hrel
      by_cases hlt : k < l.length
      · obtain ⟨x, hxk⟩ := get_ex hlt
        obtain ⟨y, hyk⟩ := get_ex (l := m) (k := k) (by rw [← Hl.out]; exact hlt)
        have c1 := hx k x hxk 0 _ rfl
        have c2 := hx' k y hyk 0 _ rfl
        have c1 := (hb.cell (World.block_lt_of_cell? w _ c1)).trans c1
        have c2 := (hb.cell (World.block_lt_of_cell? w _ c2)).trans c2
        have i1 := idx_at (c := c) 1 Tryz.underlying60 szStr ha k hlt
        have i2 := idx_at (c := c') 1 Tryz.underlying60 szStr ha' k (by rw [← Hl.out]; exact hlt)
        have hk1 : (k : Int) < (l.length : Int) := by omega
        simp only [Nat.mul_one, Nat.add_zero] at c1 c2 i1 i2
        have Hx := Lib.hid hxk; clear hxk
        have Hy := Lib.hid hyk; clear hyk
        go_wp2_with fail
        go_quiet (fail)
        go_wp2_with fail
        · have hne' : x ≠ y := by first | (simpa using ‹(x == y) = false›) | (simpa using ‹(!x == y) = true›)
          go_ret
          refine ⟨ret_bool ?_, Bdn hb _⟩
          refine (decide_eq_false fun e => hne' ?_).symm
          have := Hx.out; rw [e, Hy.out] at this; exact (Option.some.inj this).symm
        · have he : x = y := by first | (simpa using ‹(x == y) = true›) | (simpa using ‹(!x == y) = false›)
          go_roundw
          case rel => exact ⟨k + 1, by omega, by go_num, fun j hj' => by
            rcases Nat.lt_or_ge j k with h | h
            · exact hj.out j h
            · obtain rfl : j = k := by omega
              rw [Hx.out, Hy.out, he], Bdn hb _⟩
          case measure => simp [intOf]; omega
      · obtain rfl : k = l.length := by omega
        go_wp2_with fail
        go_ret
        exact ⟨ret_bool (decide_eq_true (list_ext_upto Hl.out hj.out)).symm, hb⟩
  · have hne : ((l.length : Int) != (m.length : Int)) = true := by simp; omega
    go_enter Tryz.func60, Tryz.ntmps60
    go_wp2_with fail
    go_ret
    exact ⟨ret_bool (decide_eq_false fun e => hlen (by rw [e])).symm, Below.refl _ _⟩
theorem inTexts_any (s : Str) (v : Value) (l : List Str) (w : World) (hl : StrsAt w v l) :
    Calls Tryz.prog 39 #[S s, v] w fun e w' => e = .returned (.bool (decide (s ∈ l))) ∧ Below w.heap.size w w' := by
  obtain ⟨a, c, b, o, rfl, ha, hc, hcm, hx⟩ := hl
  unfold maxLen at hcm
  go_enter Tryz.func39, Tryz.ntmps39
  go_wp2_with fail
  go_loopw [5] (fun i wr => ∃ k : Nat, k ≤ l.length ∧ i = .int .i64 k ∧ Hid (∀ j < k, l[j]? ≠ some s) ∧ Below w.heap.size w wr) (fun i _ => l.length - (intOf i).toNat)
  case atStart => exact ⟨0, by omega, rfl, fun j hj => absurd hj (by omega), Below.refl _ _⟩
  case round =>
    obtain ⟨k, hk, rfl, hj, hb⟩ := hrel
    by_cases hlt : k < l.length
    · obtain ⟨x, hxk⟩ := get_ex hlt
      have c1 := hx k x hxk 0 _ rfl
      have c1 := (hb.cell (World.block_lt_of_cell? w _ c1)).trans c1
      have i1 := idx_at (c := c) 1 Tryz.underlying60 szStr ha k hlt
      have hk1 : (k : Int) < (l.length : Int) := by omega
      simp only [Nat.mul_one, Nat.add_zero] at c1 i1
      have Hx := Lib.hid hxk; clear hxk
      go_wp2_with fail
      · have he : x = s := by simpa using ‹(x == s) = true›
        go_ret
        exact ⟨ret_bool (decide_eq_true (by rw [← he]; exact List.mem_of_getElem? Hx.out)).symm, hb⟩
      · have hne' : x ≠ s := by simpa using ‹(x == s) = false›
        go_roundw
        case rel => exact ⟨k + 1, by omega, by go_num, fun j hj' => by
          rcases Nat.lt_or_ge j k with h | h
          · exact hj.out j h
          · obtain rfl : j = k := by omega
            rw [Hx.out]; exact fun e => hne' (Option.some.inj e), hb⟩
        case measure => simp [intOf]; omega
    · obtain rfl : k = l.length := by omega
      go_wp2_with fail
      go_ret
      refine ⟨ret_bool (decide_eq_false fun e => ?_).symm, hb⟩
      obtain ⟨j, hjl, hje⟩ := List.getElem_of_mem e
      exact hj.out j hjl (by simp [hjl, hje])
end Go.Proofs.YtpiflhhppigdfaaGreatDoor
namespace Go.Proofs.YtpiflhhppigdfaaGreatDoor
open Go.RowKit

/-- What a slice's element is: the row of the program's table. -/
def ElemInfo (P : Program) (t e : TypeId) (size bytes : Nat) : Prop :=
  ∃ i z, P.underlying t = some (.slice e) ∧ P.info? e = some i ∧ i.zero = some z ∧ i.size = size ∧ i.bytes = bytes ∧ z.cells.size = size ∧ 0 < size

theorem elemInfo_of {P : Program} {t e : TypeId} {z : Value} {size bytes : Nat} (ht : P.underlying t = some (.slice e)) (h : (P.info? e).map (fun i => (i.zero, i.size, i.bytes)) = some (some z, size, bytes)) (hz : z.cells.size = size) (hs : 0 < size) : ElemInfo P t e size bytes := by
  obtain ⟨i, hi, h0, h1, h2⟩ := info_parts h
  exact ⟨i, z, ht, hi, h0, h1, h2, hz, hs⟩

theorem ElemInfo.sizeOf {P : Program} {t e : TypeId} {size bytes : Nat} (h : ElemInfo P t e size bytes) (w : World) : (Go.sizeOf e).run P w = .ok size w := by
  obtain ⟨i, z, _, hi, _, h1, _⟩ := h
  simp [Go.sizeOf, typeInfo, hi, h1]

/-- The value x is a slice of m elements of size cells each, that are these. -/
def SrcAt (w : World) (size : Nat) (x : Value) (m : Nat) (news : List Value) : Prop :=
  ∃ a c, x = .slice a m c ∧ news.length = m * size ∧ (∀ u ∈ news, u.oneCell' = true) ∧ (0 < m → ∃ b o, a = some ⟨b, o, none⟩ ∧ ∀ j u, news[j]? = some u → w.cell? ⟨b, o + j, none⟩ = some u)

theorem add_lit (b o j : Nat) : (⟨b, o, none⟩ : Addr).add j = ⟨b, o + j, none⟩ := by
  unfold Addr.add; split <;> simp_all

theorem run_app {P : Program} (w : World) (base : Nat) (t ty e : TypeId) (size bytes : Nat) (hE : ElemInfo P t e size bytes) (v : Value) (n : Nat) (xs : List Value) (hown : w.ownsRow base e size v n xs)
    (x : Value) (m : Nat) (news : List Value) (hx : SrcAt w size x m news) (h63 : n + m ≤ maxLen) (hbytes : (n + m) * bytes ≤ 140737488355328) (hbase : base ≤ w.heap.size) :
    ∃ v' w', (Builtin.append_ #[t, t] ty #[v, x]).run P w = .ok v' w' ∧ w'.ownsRow base e size v' (n + m) (xs ++ news) ∧ w.grownBy w' v.ownBlock ∧ (v'.ownBlock = v.ownBlock ∨ v'.ownBlock = some w.heap.size) := by
  obtain ⟨i, z, ht, hi, hz, hsize, hby, hzs, hsz⟩ := hE
  obtain ⟨a, c, rfl, hl, h1, hc⟩ := hx
  cases a with
  | some ad =>
    have hnews : ∀ j u, news[j]? = some u → w.cell? (ad.add j) = some u := by
      intro j u hu
      rcases Nat.eq_zero_or_pos m with rfl | hm
      · rw [List.getElem?_eq_none (by omega)] at hu; cases hu
      · obtain ⟨b, o, e1, hcell⟩ := hc hm
        cases e1
        rw [add_lit]; exact hcell j u hu
    obtain ⟨v', w', h2, h3, h4, _, h5⟩ := run_append_own_at w base t ty e i z size bytes ht hi hz hsize hby hzs hsz v n xs hown ad m c news hl hnews h1 h63 hbytes hbase
    exact ⟨v', w', h2, h3, h4, h5⟩
  | none =>
    obtain rfl : m = 0 := by
      rcases Nat.eq_zero_or_pos m with h | h
      · exact h
      · obtain ⟨b, o, e1, _⟩ := hc h; cases e1
    obtain rfl : news = [] := by
      cases news with
      | nil => rfl
      | cons y r => simp at hl
    refine ⟨v, w, ?_, by simpa using hown, ⟨rfl, rfl, rfl, Nat.le_refl _, fun _ _ _ => rfl⟩, .inl rfl⟩
    have hf := run_firstCells_none (P := P) w size 0 0 c
    rcases hown.2 with ⟨rfl, rfl⟩ | ⟨g, cap, cur, rfl, _, _, hle, _⟩
    · simp [Builtin.append_, run_underlying ht, Go.sizeOf, typeInfo, hi, hsize, Builtin.lenOf, hf]
    · simp [Builtin.append_, run_underlying ht, Go.sizeOf, typeInfo, hi, hsize, Builtin.lenOf, hf, hle, storeCells]

theorem wpList_app {P : Program} {w : World} {ops : Array Oper} {rest : List Oper} {o : Oper} {a : Act} {Q : Exit → Act → World → Prop} (hgd : o.guard = none) (s x : Operand) (t : TypeId)
    (ho : o.op = .call { callee := .builtin .append, args := #[s, x], argTypes := #[t, t] }) (base : Nat) {e : TypeId} {size bytes : Nat} (hE : ElemInfo P t e size bytes)
    (v : Value) (n : Nat) (xs : List Value) (hs : a.eval s = v) (hown : w.ownsRow base e size v n xs) (xv : Value) (m : Nat) (news : List Value) (hx : a.eval x = xv) (hsrc : SrcAt w size xv m news)
    (h63 : n + m ≤ maxLen) (hbytes : (n + m) * bytes ≤ 140737488355328) (hbase : base ≤ w.heap.size)
    (h : ∀ v' w', w'.ownsRow base e size v' (n + m) (xs ++ news) → w.grownBy w' v.ownBlock → (v'.ownBlock = v.ownBlock ∨ v'.ownBlock = some w.heap.size) → wpList P ops Q rest (a.put o.dst v') w') : wpList P ops Q (o :: rest) a w :=
  wpList_plain hgd fun _ hK => by
    obtain ⟨v', w', hr, h2, h3, h4⟩ := run_app (P := P) w base t o.type e size bytes hE v n xs hown xv m news hsrc h63 hbytes hbase
    unfold Oper.wp execOp
    simp only [ho, resolve, invoke, builtin, Sem.run_bind, Sem.run_pure, Result.andThen_ok, List.map_toArray, List.map_cons, List.map_nil, hs, hx, hr]
    exact hK _ _ (h v' w' h2 h3 h4)

/-- The value v is a slice in a row that the call owns from block B on. -/
def Own {α : Type} (enc : α → List Value) (e : TypeId) (sz B : Nat) (w : World) (v : Value) (l : List α) : Prop := w.ownsRow B e sz v l.length (l.flatMap enc)

/-- Each element takes sz cells, none of them an aggregate. -/
def Enc {α : Type} (enc : α → List Value) (sz : Nat) : Prop := ∀ x, (enc x).length = sz ∧ ∀ u ∈ enc x, u.oneCell' = true

theorem encI_enc : Enc encI 1 := fun x => ⟨rfl, by simp [Value.oneCell']⟩
theorem encS_enc : Enc encS 1 := fun x => ⟨rfl, by simp [Value.oneCell']⟩

theorem flat_length {α : Type} {enc : α → List Value} {sz : Nat} (h : Enc enc sz) (l : List α) : (l.flatMap enc).length = l.length * sz := by
  induction l with
  | nil => simp
  | cons x r ih => simp [List.flatMap_cons, ih, (h x).1, Nat.add_mul]; omega

theorem flat_get {α : Type} {enc : α → List Value} {sz : Nat} (h : Enc enc sz) : ∀ (l : List α) (k : Nat) (x : α), l[k]? = some x → ∀ j u, (enc x)[j]? = some u → (l.flatMap enc)[k * sz + j]? = some u
  | [], k, x, hk, _, _, _ => by simp at hk
  | y :: r, 0, x, hk, j, u, hu => by
    obtain rfl : y = x := by simpa using hk
    rw [List.flatMap_cons, Nat.zero_mul, Nat.zero_add, List.getElem?_append_left]
    · exact hu
    · rcases Nat.lt_or_ge j (enc y).length with h' | h'
      · exact h'
      · rw [List.getElem?_eq_none h'] at hu; cases hu
  | y :: r, k + 1, x, hk, j, u, hu => by
    have ih := flat_get h r k x (by simpa using hk) j u hu
    rw [List.flatMap_cons, List.getElem?_append_right (by rw [(h y).1, Nat.add_mul]; omega), (h y).1, show (k + 1) * sz + j - sz = k * sz + j by rw [Nat.add_mul]; omega]
    exact ih

/-- The other way: whatever stands in the flat list is a cell of some element. -/
theorem flat_get_inv {α : Type} {enc : α → List Value} {sz : Nat} (h : Enc enc sz) (hz : 0 < sz) : ∀ (l : List α) (i : Nat) (u : Value), (l.flatMap enc)[i]? = some u → ∃ x, l[i / sz]? = some x ∧ (enc x)[i % sz]? = some u
  | [], i, u, hu => by simp at hu
  | y :: r, i, u, hu => by
    rw [List.flatMap_cons] at hu
    rcases Nat.lt_or_ge i sz with h' | h'
    · rw [List.getElem?_append_left (by rw [(h y).1]; exact h')] at hu
      exact ⟨y, by simp [Nat.div_eq_of_lt h'], by rw [Nat.mod_eq_of_lt h']; exact hu⟩
    · rw [List.getElem?_append_right (by rw [(h y).1]; exact h'), (h y).1] at hu
      obtain ⟨x, h1, h2⟩ := flat_get_inv h hz r (i - sz) u hu
      obtain ⟨d, rfl⟩ : ∃ d, i = d + sz := ⟨i - sz, by omega⟩
      refine ⟨x, ?_, ?_⟩
      · rw [Nat.add_div_right _ hz]; simpa using h1
      · rw [Nat.add_mod_right]; simpa using h2

theorem Own.nil {α : Type} (enc : α → List Value) (e : TypeId) (sz B : Nat) (w : World) : Own enc e sz B w (.slice none 0 0) [] := World.ownsRow_nil w B e sz

theorem Own.at {α : Type} {enc : α → List Value} {e : TypeId} {sz B : Nat} {w : World} {v : Value} {l : List α} (hen : Enc enc sz) (h : Own enc e sz B w v l) : At enc sz w v l := by
  obtain ⟨hl, h2⟩ := h
  rcases h2 with ⟨rfl, h0⟩ | ⟨g, cap, cur, rfl, hb, hg, hn, hcm, hcs, htake⟩
  · have : l = [] := List.eq_nil_of_length_eq_zero h0
    subst this
    exact At.nil enc sz w
  · refine ⟨_, cap, g, 0, rfl, fun _ => rfl, hn, hcm, fun k x hk j u hu => ?_⟩
    have h1 := flat_get hen l k x hk j u hu
    rw [cell_of_row w g _ cur e (0, 0) hg]
    rw [← htake, List.getElem?_take] at h1
    split at h1
    · simpa using h1
    · cases h1

theorem At.src {α : Type} {enc : α → List Value} {sz : Nat} {w : World} {v : Value} {l : List α} (hen : Enc enc sz) (hz : 0 < sz) (h : At enc sz w v l) : SrcAt w sz v l.length (l.flatMap enc) := by
  obtain ⟨a, c, b, o, rfl, ha, hc, hcm, hx⟩ := h
  refine ⟨a, c, rfl, flat_length hen l, ?_, fun hm => ⟨b, o, ha hm, fun j u hu => ?_⟩⟩
  · intro u hu
    obtain ⟨x, _, hux⟩ := List.mem_flatMap.1 hu
    exact (hen x).2 u hux
  · obtain ⟨x, h1, h2⟩ := flat_get_inv hen hz l j u hu
    have := hx _ x h1 _ u h2
    rwa [show o + j / sz * sz + j % sz = o + j by have := Nat.div_add_mod j sz; rw [Nat.mul_comm] at this; omega] at this

/-- One element in a new block of its own, as the translation lays what is appended. -/
theorem src_one {w : World} {sz : Nat} {cs : List Value} {t : TypeId} {H : Nat} (hH : w.heap.size = H) (hl : cs.length = sz) (h1 : ∀ u ∈ cs, u.oneCell' = true) : SrcAt (w.alloc (.cells cs.toArray t)) sz (.slice (some ⟨H, 0, none⟩) 1 1) 1 cs := by
  subst hH
  refine ⟨_, 1, rfl, by omega, h1, fun _ => ⟨w.heap.size, 0, rfl, fun j u hu => ?_⟩⟩
  rw [cell_of_row (w.alloc _) w.heap.size _ cs.toArray t (0, 0) (heap_alloc_new w _)]
  simpa using hu

theorem Own.alloc {α : Type} {enc : α → List Value} {e : TypeId} {sz B : Nat} {w : World} {v : Value} {l : List α} (h : Own enc e sz B w v l) (o : Obj) : Own enc e sz B (w.alloc o) v l := World.ownsRow.alloc h o
theorem Own.drewN {α : Type} {enc : α → List Value} {e : TypeId} {sz B : Nat} {w : World} {v : Value} {l : List α} (h : Own enc e sz B w v l) (n : Nat) : Own enc e sz B (w.drewN n) v l := h
theorem Own.below {α : Type} {enc : α → List Value} {e : TypeId} {sz B : Nat} {w w' : World} {v : Value} {l : List α} (h : Own enc e sz B w v l) (hb : Below w.heap.size w w') : Own enc e sz B w' v l :=
  World.ownsRow.kept h (row := none) ⟨hb.os, hb.tape, hb.output, hb.size, fun k hk _ => hb.block k hk⟩ (by cases v.ownBlock <;> simp)
theorem Own.snoc {α : Type} {enc : α → List Value} {e : TypeId} {sz B : Nat} {w : World} {v : Value} {l : List α} {x : α} (h : w.ownsRow B e sz v (l.length + 1) (l.flatMap enc ++ enc x)) : Own enc e sz B w v (l ++ [x]) := by
  unfold Own; simpa using h
theorem Own.app {α : Type} {enc : α → List Value} {e : TypeId} {sz B : Nat} {w : World} {v : Value} {l m : List α} (h : w.ownsRow B e sz v (l.length + m.length) (l.flatMap enc ++ m.flatMap enc)) : Own enc e sz B w v (l ++ m) := by
  unfold Own; simpa using h
/-- Behind an append to a row of the call's own. -/
theorem Bapp {α : Type} {enc : α → List Value} {e : TypeId} {sz B B' : Nat} {a w w' : World} {v : Value} {l : List α} (h : Below B a w) (ho : Own enc e sz B' w v l) (hg : w.grownBy w' v.ownBlock) (hB : B ≤ B') (hs : B ≤ w.heap.size) : Below B a w' :=
  h.grown hg hs (fun k hk => Nat.le_trans hB (World.ownsRow.lt ho k hk).1)
end Go.Proofs.YtpiflhhppigdfaaGreatDoor
namespace Go.Proofs.YtpiflhhppigdfaaGreatDoor
open Go.RowKit

theorem elInt : ElemInfo Tryz.prog 111 3 1 8 := elemInfo_of Tryz.underlying111 (z := .int .i64 0) (by kernel_rfl) rfl (by decide)
theorem elStr : ElemInfo Tryz.prog 60 9 1 16 := elemInfo_of Tryz.underlying60 (z := .string ByteArray.empty) (by kernel_rfl) rfl (by decide)

theorem ownInts_any (v : Value) (l : List Int) (w : World) (hl : IntsAt w v l) (hn : l.length ≤ 100000) :
    Calls Tryz.prog 66 #[v] w fun e w' => ∃ v', e = .returned v' ∧ Own encI 3 1 w.heap.size w' v' l ∧ Below w.heap.size w w' := by
  have hs := hl.src encI_enc (by decide)
  go_enter Tryz.func66, Tryz.ntmps66
  go_wp2_with (at_builtin; refine wpList_app rfl _ _ _ rfl w.heap.size elInt (.slice none 0 0) 0 [] rfl (Own.nil encI _ 1 _ _) _ _ _ rfl hs (by unfold maxLen; omega) (by omega) (Nat.le_refl _) ?_; intro v' w1 hown hg _)
  go_ret
  exact ⟨_, rfl, by simpa [Own] using hown, (Below.refl _ _).grown hg (Nat.le_refl _) (fun k hk => by cases hk)⟩
end Go.Proofs.YtpiflhhppigdfaaGreatDoor
