/- How slices of plain data lie in memory: words, and the laws by which the walks read them. Of no program. Package store in plain words: objects by names, rising; a map's datum of them. Of no program. errors.As at the target **api.Fault, and errors.Is at a sentinel, by contracts over this seat's program. Turned from the worked texts ToyasAs and SentryIs. errors.As and errors.Is: the contracts at what this program hands them: nil, a sentinel, a Fault around a sentinel. The program's sentinel errors in memory, and the contract of plain.Code: the number and the place of nil, of a sentinel, of a Fault around a sentinel, and of another error of errors.New's make. Errors as values: nil, a sentinel, a Fault around a sentinel; plain.Code of each. deedboxref1: SameInts, SameTexts, InInts, InTexts: what they answer. append, whatever is appended (an empty slice or nil, too), to a slice that the call owns: one law for the walks. Of no program. deedboxlaw2.OwnInts; the types' facts for ints and texts. A slice that the call owns, and a store into another block. Of no program. A store in memory; the methods that only read a field or write one. store: Get, Born, Next, write, Swap, Drop. A slice that the call owns: opened, cut, written to, cleared behind. Of no program. A loop over a function's values whose rounds all go on: the caller's invariant need only abide what is new since the loop began. Of no program. The model of a store in memory; its methods that only read, or write a field. -/
import Derived.WalkKit
import Derived.WalkSpells
import Derived.WalkLawsBesides
import Derived.Lib.Hide
import Derived.Deep.QuietTactic
import Derived.BigQuiet
import Derived.LoopTactic
import Derived.Maps.OwnSet
import Derived.Maps.Ext
import Derived.Sort.KeysCollected
import Derived.Test.YtpfohfihkmjnaaaGreatDoorProg
import Derived.LaidEql
import Derived.Stop.Asserts
import Derived.RowKitTokens
import Derived.Stop.IfaceNil
import Derived.Outline
import Derived.Maps.AppendAt
import Derived.Deep.AppendSrc
import Derived.OwnWalk
import Derived.Maps.OwnOps
import Derived.RangeFuncOwn
import Derived.RangeFuncGives
namespace Go.Proofs.YtpfohfihkmjnaaaGreatDoor
open Go.RowKit
/-- The value v is a slice of l.length elements, each of sz cells, that read as enc says. -/
def At {α : Type} (enc : α → List Value) (sz : Nat) (w : World) (v : Value) (l : List α) : Prop :=
  ∃ a c b o, v = .slice a l.length c ∧ (0 < l.length → a = some ⟨b, o, none⟩) ∧ l.length ≤ c ∧ c ≤ maxLen ∧ ∀ k x, l[k]? = some x → ∀ j u, (enc x)[j]? = some u → w.cell? ⟨b, o + k * sz + j, none⟩ = some u
theorem At.nil {α : Type} (enc : α → List Value) (sz : Nat) (w : World) : At enc sz w (.slice none 0 0) [] :=
  ⟨none, 0, 0, 0, rfl, fun h => absurd h (by simp), Nat.le_refl _, by decide, fun k x h => by simp at h⟩
theorem At.below {α : Type} {enc : α → List Value} {sz : Nat} {w w' : World} {v : Value} {l : List α} (h : At enc sz w v l) (hb : Below w.heap.size w w') : At enc sz w' v l := by
  obtain ⟨a, c, b, o, hv, ha, hc, hm, hx⟩ := h
  refine ⟨a, c, b, o, hv, ha, hc, hm, fun k x hk j u hu => ?_⟩
  have h1 := hx k x hk j u hu
  exact (hb.cell (World.block_lt_of_cell? w _ h1)).trans h1
/-- Cells of one cell an element. -/
abbrev encI (n : Int) : List Value := [.int .i64 n]
abbrev Str := List UInt8
abbrev S (s : Str) : Value := .string ⟨s.toArray⟩
abbrev encS (s : Str) : List Value := [.string ⟨s.toArray⟩]
abbrev IntsAt (w : World) (v : Value) (l : List Int) : Prop := At encI 1 w v l
abbrev StrsAt (w : World) (v : Value) (l : List Str) : Prop := At encS 1 w v l
/-- The address of an element, in the walk's own form. -/
theorem idx_at {P : Program} {t e : TypeId} {a : Option Addr} {n c b o : Nat} (sz : Nat) (ht : P.underlying t = some (.slice e)) (hs : ∀ w, (sizeOf e).run P w = .ok sz w) (ha : 0 < n → a = some ⟨b, o, none⟩)
    (k : Nat) (hk : k < n) (w : World) : (Instr.indexAt t (.slice a n c) (.int .i64 (k : Int))).run P w = .ok (.pointer (some ⟨b, o + k * sz, none⟩)) w := by
  obtain rfl := ha (by omega)
  simp only [Instr.indexAt, asIntOf]
  have hadd : (⟨b, o, none⟩ : Addr).add (k * sz) = ⟨b, o + k * sz, none⟩ := by
    unfold Addr.add; split <;> simp_all
  simp [run_underlying ht, hs, hadd]
  intro h; omega
theorem Bdn {B : Nat} {a w : World} (h : Below B a w) (n : Nat) : Below B a (w.drewN n) := ⟨h.os, h.tape, h.output, h.size, h.block⟩
theorem bapp (a b : Str) : (⟨a.toArray⟩ : ByteArray) ++ ⟨b.toArray⟩ = ⟨(a ++ b).toArray⟩ := by
  apply ByteArray.ext
  simp
theorem get_ex {α : Type} {l : List α} {k : Nat} (h : k < l.length) : ∃ x, l[k]? = some x := ⟨l[k], by simp [h]⟩
end Go.Proofs.YtpfohfihkmjnaaaGreatDoor
namespace Go.Proofs.YtpfohfihkmjnaaaGreatDoor
open Go.RowKit Go.Maps Go.Sort
/-- An object: its name, its text, its day. -/
structure Ob where
  name : Str
  text : Str
  day : Int
  deriving DecidableEq
abbrev bef (a b : Str) : Bool := bytesBefore a b
/-- What a map of objects reads as. -/
abbrev obT (t : Str) (d : Int) : DataW Unit := .agg [.lit (.string t), .lit (.int .i64 d)]
abbrev obD (o : Ob) : Lit × DataW Unit := (.string o.name, obT o.text o.day)
def mapD (l : List Ob) : DataW Unit := .map (l.map obD)
def getO (l : List Ob) (n : Str) : Option Ob := l.find? (fun o => o.name == n)
def putO (x : Ob) : List Ob → List Ob
  | [] => [x]
  | a :: r => if bef x.name a.name then x :: a :: r else a :: putO x r
def dropO (l : List Ob) (n : Str) : List Ob := l.filter (fun o => !(o.name == n))
def Rising (l : List Ob) : Prop := l.Pairwise (fun a b => bef a.name b.name = true)
def total (l : List Ob) : Nat := (l.map (·.text.length)).sum
theorem has_mapD (l : List Ob) (n : Str) : has (mapD l) (.string n) = (getO l n).isSome := by
  unfold mapD getO
  rw [has_eq]
  induction l with
  | nil => rfl
  | cons a r ih =>
    rw [List.map_cons, List.any_cons, ih, List.find?_cons]
    cases h : a.name == n with
    | true => simp [Lit.sameKey, h]
    | false => simp [Lit.sameKey, h]
theorem atKey_map (es : List (Lit × DataW Unit)) (k : Lit) (z : DataW Unit) : (DataW.map es).atKey k z = ((es.find? (fun p => p.1.sameKey k)).map (·.2)).getD z := by
  unfold DataW.atKey
  simp only
  cases es.find? (fun p => p.1.sameKey k) <;> rfl
theorem at_mapD (l : List Ob) (n : Str) (z : DataW Unit) : (mapD l).atKey (.string n) z = ((getO l n).map fun o => obT o.text o.day).getD z := by
  unfold mapD
  rw [atKey_map]
  unfold getO
  congr 1
  induction l with
  | nil => rfl
  | cons a r ih =>
    rw [List.map_cons, List.find?_cons, List.find?_cons]
    have : (obD a).1.sameKey (.string n) = (a.name == n) := rfl
    rw [this]
    cases h : a.name == n with
    | true => rfl
    | false => exact ih
theorem size_mapD (l : List Ob) : size (mapD l) = l.length := by unfold mapD; rw [size_eq, List.length_map]
theorem keys_mapD (l : List Ob) : strKeys (mapD l) = l.map (·.name) := by
  unfold mapD strKeys
  simp [strOf]
theorem insert_mapD (x : Ob) : ∀ l : List Ob, DataW.insert (obD x) (l.map obD) = (putO x l).map obD
  | [] => rfl
  | a :: r => by
    rw [List.map_cons, DataW.insert, putO]
    have : (obD x).1.before (obD a).1 = bef x.name a.name := rfl
    rw [this]
    cases bef x.name a.name with
    | true => rfl
    | false => simp only [Bool.false_eq_true, if_false, List.map_cons]; rw [insert_mapD x r]
theorem getO_none {l : List Ob} {n : Str} : getO l n = none ↔ ∀ o ∈ l, o.name ≠ n := by
  unfold getO; rw [List.find?_eq_none]; simp
theorem put_mapD {l : List Ob} {x : Ob} (h : getO l x.name = none) : (mapD l).put (.string x.name) (obT x.text x.day) = mapD (putO x l) := by
  unfold mapD DataW.put
  have : (l.map obD).filter (fun p => !p.1.sameKey (.string x.name)) = l.map obD := by
    rw [List.filter_eq_self]
    intro p hp
    obtain ⟨o, ho, rfl⟩ := List.mem_map.1 hp
    have := getO_none.1 h o ho
    simpa [obD, Lit.sameKey] using this
  simp only [this]
  exact congrArg DataW.map (insert_mapD x l)
theorem putO_perm (x : Ob) : ∀ l : List Ob, (putO x l).Perm (x :: l)
  | [] => .refl _
  | a :: r => by
    unfold putO
    split
    · exact .refl _
    · exact ((putO_perm x r).cons a).trans (.swap _ _ _)
theorem putO_length (x : Ob) (l : List Ob) : (putO x l).length = l.length + 1 := by rw [(putO_perm x l).length_eq]; rfl
theorem mem_putO {x o : Ob} {l : List Ob} : o ∈ putO x l ↔ o = x ∨ o ∈ l := by rw [(putO_perm x l).mem_iff, List.mem_cons]
theorem total_putO (x : Ob) (l : List Ob) : total (putO x l) = total l + x.text.length := by
  unfold total
  rw [((putO_perm x l).map _).sum_nat, List.map_cons, List.sum_cons]; omega
theorem bef_irr (a : Str) : bef a a = false := WideAt.bytes_irrefl a
theorem bef_tri {a b : Str} (h : a ≠ b) (h2 : bef a b = false) : bef b a = true := by
  rcases WideAt.bytes_total a b h with h' | h'
  · have h2 : bytesBefore a b = false := h2
    rw [h2] at h'; cases h'
  · exact h'
theorem bef_trans {a b c : Str} (h : bef a b = true) (h2 : bef b c = true) : bef a c = true := WideShapes.bytes_trans a b c h h2
theorem putO_rising {x : Ob} : ∀ {l : List Ob}, Rising l → getO l x.name = none → Rising (putO x l)
  | [], _, _ => by simp [putO, Rising]
  | a :: r, h, hn => by
    have hn' := getO_none.1 hn
    have hr : Rising r := (List.pairwise_cons.1 h).2
    have ha := (List.pairwise_cons.1 h).1
    unfold putO
    split
    · rename_i hb
      exact List.pairwise_cons.2 ⟨fun o ho => by
        rcases List.mem_cons.1 ho with rfl | ho
        · exact hb
        · exact bef_trans hb (ha o ho), h⟩
    · rename_i hb
      refine List.pairwise_cons.2 ⟨fun o ho => ?_, putO_rising hr (getO_none.2 fun o ho => hn' o (List.mem_cons_of_mem _ ho))⟩
      rcases mem_putO.1 ho with rfl | ho
      · exact bef_tri (fun e => hn' a (List.mem_cons_self ..) e.symm) (by simpa using hb)
      · exact ha o ho
theorem dropO_rising {l : List Ob} (h : Rising l) (n : Str) : Rising (dropO l n) := h.filter _
theorem getO_mem {l : List Ob} {n : Str} {o : Ob} (h : getO l n = some o) : o ∈ l ∧ o.name = n := by
  unfold getO at h
  exact ⟨List.mem_of_find?_eq_some h, by simpa using List.find?_some h⟩
theorem Rising.apart {l : List Ob} (h : Rising l) : l.Pairwise (fun a b => a.name ≠ b.name) := h.imp fun {a b} hb e => by rw [e, bef_irr] at hb; cases hb
theorem getO_of_mem {l : List Ob} (h : Rising l) {o : Ob} (ho : o ∈ l) : getO l o.name = some o := by
  induction l with
  | nil => cases ho
  | cons a r ih =>
    have ha := (List.pairwise_cons.1 h.apart).1
    unfold getO
    rw [List.find?_cons]
    rcases List.mem_cons.1 ho with rfl | ho
    · simp
    · have : (a.name == o.name) = false := beq_eq_false_iff_ne.2 (ha o ho)
      rw [this]
      exact ih (List.pairwise_cons.1 h).2 ho
theorem getO_put_same {l : List Ob} (h : Rising l) {x : Ob} (hn : getO l x.name = none) : getO (putO x l) x.name = some x := getO_of_mem (putO_rising h hn) (mem_putO.2 (.inl rfl))
theorem getO_put_other {l : List Ob} (h : Rising l) {x : Ob} (hn : getO l x.name = none) {n : Str} (hne : n ≠ x.name) : getO (putO x l) n = getO l n := by
  cases hg : getO l n with
  | none =>
    refine getO_none.2 fun o ho => ?_
    rcases mem_putO.1 ho with rfl | ho
    · exact hne.symm
    · exact getO_none.1 hg o ho
  | some o =>
    obtain ⟨ho, rfl⟩ := getO_mem hg
    exact getO_of_mem (putO_rising h hn) (mem_putO.2 (.inr ho))
end Go.Proofs.YtpfohfihkmjnaaaGreatDoor
namespace Go.Proofs.YtpfohfihkmjnaaaGreatDoor
open Go.RowKit Go.Extern.Stop Go.Stop Go.Extern
theorem rls (v x : Value) : ReflectliteValue.set #[v, x] = (do
    let (some (dst, a, fl), some (src, b, _)) := (← ReflectliteValue.parts v, ← ReflectliteValue.parts x)
      | unsupported (.noEntry "extern/(internal/reflectlite.Value).Set.zeroValue")
    if fl / ReflectliteValue.flagAddr % 2 == 0 then unsupported (.noEntry "extern/(internal/reflectlite.Value).Set.unaddressable")
    let val ← loadVar src b
    if ← Rtype.directlyAssignable dst src then storeVar dst a val
    else if ← Rtype.implements dst src then
      if (← Rtype.kind src) == 20 then
        match val with
        | .nilIface => unsupported (.noEntry "extern/reflectlite: a nil value of one interface type handed on as a value of another")
        | _ => storeVar dst a val
      else storeVar dst a (.iface src val)
    else panicString ("reflectlite.Set: value of type " ++ (← Rtype.spelt src) ++ " is not assignable to type " ++ (← Rtype.spelt dst))
    pure (.tuple #[])) := rfl
theorem Eas.partsPa (a : Addr) (w : World) : (ReflectliteValue.parts (.agg #[.pointer (some ⟨21, 100, none⟩), .pointer (some a), .int .u64 406])).run Tryz.prog w = .ok (some (100, a, 406)) w := by kernel_rfl
theorem Eas.partsP (a : Addr) (w : World) : (ReflectliteValue.parts (.agg #[.pointer (some ⟨21, 100, none⟩), .pointer (some a), .int .u64 150])).run Tryz.prog w = .ok (some (100, a, 150)) w := by kernel_rfl
theorem Eas.directP (w : World) : (Rtype.directlyAssignable 100 100).run Tryz.prog w = .ok true w := by kernel_rfl
theorem Eas.setP (ta b e : Addr) (old : Value) (W : World) (hb : W.cell? b = some (.pointer (some e))) (ht : W.cell? ta = some old) (hf : W.frozen? ta = false) :
    (ReflectliteValue.set #[.agg #[.pointer (some ⟨21, 100, none⟩), .pointer (some ta), .int .u64 406], .agg #[.pointer (some ⟨21, 100, none⟩), .pointer (some b), .int .u64 150]]).run Tryz.prog W
      = .ok (.tuple #[]) (W.setCell ta (.pointer (some e))) := by
  rw [rls]
  simp only [Sem.run_bind, Eas.partsPa, Eas.partsP, Result.andThen]
  simp [ReflectliteValue.flagAddr, loadVar, isAgg, underlying, Tryz.underlying100, hb, Result.andThen, Eas.directP, storeVar, Value.cells, storeCells, Addr.add]
  rw [run_store Tryz.prog W ta _ _ (by rfl)]
  simp [ht, hf]
end Go.Proofs.YtpfohfihkmjnaaaGreatDoor
namespace Go.Proofs.YtpfohfihkmjnaaaGreatDoor
open Go.RowKit Go.Extern.Stop Go.Stop Go.Extern
end Go.Proofs.YtpfohfihkmjnaaaGreatDoor
namespace Go.Proofs.YtpfohfihkmjnaaaGreatDoor
open Go.RowKit
theorem isIfaceE : Tryz.prog.isIface 35 = true := by kernel_rfl
/-- The global's number of an error's number. -/
def errG : Nat → Nat
  | 1 => 9 | 2 => 0 | 3 => 1 | 4 => 8 | 5 => 3 | 6 => 2
  | 7 => 5 | 8 => 6 | 9 => 7 | 10 => 10 | 11 => 11 | _ => 4
/-- The sentinels of the numbers D lie in the world w below block B, each behind the address E says. -/
structure Errs (D : List Nat) (E : Nat → Addr) (B : Nat) (w : World) : Prop where
  var : ∀ c ∈ D, w.cell? ⟨errG c, 0, none⟩ = some (.iface 320 (.pointer (some (E c))))
  row : ∀ c ∈ D, ∃ cs t, w.heap[(E c).block]? = some (.cells cs t (0, 0))
  lt : ∀ c ∈ D, (E c).block < B ∧ errG c < B
  inj : ∀ c ∈ D, ∀ d ∈ D, E c = E d → c = d
  le : B ≤ w.heap.size
theorem Errs.sub {D D' : List Nat} {E B w} (h : Errs D E B w) (hs : ∀ c ∈ D', c ∈ D) : Errs D' E B w :=
  ⟨fun c hc => h.var c (hs c hc), fun c hc => h.row c (hs c hc), fun c hc => h.lt c (hs c hc), fun c hc d hd => h.inj c (hs c hc) d (hs d hd), h.le⟩
theorem Errs.below {D : List Nat} {E B w w'} (h : Errs D E B w) (hb : Below B w w') : Errs D E B w' :=
  ⟨fun c hc => (hb.cell (p := ⟨errG c, 0, none⟩) (h.lt c hc).2).trans (h.var c hc), fun c hc => let ⟨cs, t, e⟩ := h.row c hc; ⟨cs, t, (hb.block _ (h.lt c hc).1).trans e⟩, h.lt, h.inj, Nat.le_trans h.le hb.size⟩
theorem Errs.below' {D : List Nat} {E B w w' B'} (h : Errs D E B w) (hb : Below B' w w') (hB : B ≤ B') : Errs D E B w' := h.below (hb.mono hB)
/-- The numbers of all errors. -/
abbrev allE : List Nat := [1, 2, 3, 4, 5, 6, 7, 8, 9, 10, 11, 12]
/-- What errors.As reads. -/
def AsVar (w : World) : Prop := w.cell? ⟨13, 0, none⟩ = some (.iface 250 (.agg #[.pointer (some ⟨21, 35, none⟩)]))
theorem AsVar.below {B w w'} (h : AsVar w) (hb : Below B w w') (hB : 13 < B) : AsVar w' := (hb.cell (p := ⟨13, 0, none⟩) hB).trans h
end Go.Proofs.YtpfohfihkmjnaaaGreatDoor
namespace Go.Proofs.YtpfohfihkmjnaaaGreatDoor
open Go.RowKit
/-- An error, as the document speaks of it: none; one of the twelve; one of the twelve with its place. -/
inductive Er where
  | nil
  | bare (c : Nat)
  | loc (c : Nat) (i : Int)
  deriving DecidableEq
def Er.code : Er → Nat
  | .nil => 0
  | .bare c => c
  | .loc c _ => c
def Er.place : Er → Int
  | .nil => -1
  | .bare _ => -1
  | .loc _ i => i
/-- The value v is that error in the world w. -/
def ErV (E : Nat → Addr) (w : World) (v : Value) : Er → Prop
  | .nil => v = .nilIface
  | .bare c => (1 ≤ c ∧ c ≤ 12) ∧ v = .iface 320 (.pointer (some (E c)))
  | .loc c i => (1 ≤ c ∧ c ≤ 12) ∧ ∃ fb, v = .iface 100 (.pointer (some ⟨fb, 0, none⟩)) ∧ w.cell? ⟨fb, 0, none⟩ = some (.int .i64 i) ∧ w.cell? ⟨fb, 1, none⟩ = some (.iface 320 (.pointer (some (E c))))
theorem ErV.below {E : Nat → Addr} {w w' : World} {v : Value} {er : Er} (h : ErV E w v er) (hb : Below w.heap.size w w') : ErV E w' v er := by
  cases er with
  | nil => exact h
  | bare c => exact h
  | loc c i =>
    obtain ⟨hc, fb, hv, h0, h1⟩ := h
    exact ⟨hc, fb, hv, (hb.cell (World.block_lt_of_cell? w _ h0)).trans h0, (hb.cell (World.block_lt_of_cell? w _ h1)).trans h1⟩
theorem ErV.iface {E : Nat → Addr} {w : World} {v : Value} {er : Er} (h : ErV E w v er) (hn : er ≠ .nil) : ∃ u x, v = .iface u x := by
  cases er with
  | nil => exact absurd rfl hn
  | bare c => exact ⟨_, _, h.2⟩
  | loc c i => obtain ⟨_, fb, hv, _⟩ := h; exact ⟨_, _, hv⟩
/-- A fault laid anew. -/
theorem ErV.fresh {E : Nat → Addr} {c : Nat} (hc : 1 ≤ c ∧ c ≤ 12) (i : Int) (w : World) (t : TypeId) (H : Nat) (hH : w.heap.size = H) : ErV E (w.alloc (.cells #[.int .i64 i, .iface 320 (.pointer (some (E c)))] t)) (.iface 100 (.pointer (some ⟨H, 0, none⟩))) (.loc c i) := by
  subst hH
  exact ⟨hc, w.heap.size, rfl, by simp, by simp⟩
end Go.Proofs.YtpfohfihkmjnaaaGreatDoor
namespace Go.Proofs.YtpfohfihkmjnaaaGreatDoor
open Go.RowKit
theorem szInt (w : World) : (sizeOf 3).run Tryz.prog w = .ok 1 w := by kernel_rfl
theorem szStr (w : World) : (sizeOf 9).run Tryz.prog w = .ok 1 w := by kernel_rfl
theorem list_ext_upto {α : Type} {l m : List α} (hl : l.length = m.length) (h : ∀ j < l.length, l[j]? = m[j]?) : l = m := by
  refine List.ext_getElem? fun i => ?_
  rcases Nat.lt_or_ge i l.length with hi | hi
  · exact h i hi
  · rw [List.getElem?_eq_none hi, List.getElem?_eq_none (by omega)]
theorem ret_bool {a b : Bool} (h : a = b) : Ending.returned (.bool a) = Ending.returned (.bool b) := by rw [h]
theorem sameTexts_any (v u : Value) (l m : List Str) (w : World) (hl : StrsAt w v l) (hm : StrsAt w u m) :
    Calls Tryz.prog 24 #[v, u] w fun e w' => e = .returned (.bool (decide (l = m))) ∧ Below w.heap.size w w' := by
  obtain ⟨a, c, b, o, rfl, ha, hc, hcm, hx⟩ := hl
  obtain ⟨a', c', b', o', rfl, ha', hc', hcm', hx'⟩ := hm
  unfold maxLen at hcm hcm'
  by_cases hlen : l.length = m.length
  · have hne : ((l.length : Int) != (m.length : Int)) = false := by simp [hlen]
    have Hl := Lib.hid hlen; clear hlen
    go_enter Tryz.func24, Tryz.ntmps24
    go_wp2_with fail
    go_loopw [5] (fun i wr => ∃ k : Nat, k ≤ l.length ∧ i = .int .i64 k ∧ Hid (∀ j < k, l[j]? = m[j]?) ∧ Below w.heap.size w wr) (fun i _ => l.length - (intOf i).toNat)
    case atStart => exact ⟨0, by omega, rfl, fun j hj => absurd hj (by omega), Below.refl _ _⟩
    case round =>
      obtain ⟨k, hk, rfl, hj, hb⟩ := hrel
      by_cases hlt : k < l.length
      · obtain ⟨x, hxk⟩ := get_ex hlt
        obtain ⟨y, hyk⟩ := get_ex (l := m) (k := k) (by rw [← Hl.out]; exact hlt)
        have c1 := hx k x hxk 0 _ rfl
        have c2 := hx' k y hyk 0 _ rfl
        have c1 := (hb.cell (World.block_lt_of_cell? w _ c1)).trans c1
        have c2 := (hb.cell (World.block_lt_of_cell? w _ c2)).trans c2
        have i1 := idx_at (c := c) 1 Tryz.underlying39 szStr ha k hlt
        have i2 := idx_at (c := c') 1 Tryz.underlying39 szStr ha' k (by rw [← Hl.out]; exact hlt)
        have hk1 : (k : Int) < (l.length : Int) := by omega
        simp only [Nat.mul_one, Nat.add_zero] at c1 c2 i1 i2
        have Hx := Lib.hid hxk; clear hxk
        have Hy := Lib.hid hyk; clear hyk
        go_wp2_with fail
        go_quiet (fail)
        go_wp2_with fail
        · have hne' : x ≠ y := by first | (simpa using ‹(x == y) = false›) | (simpa using ‹(!x == y) = true›)
          go_ret
          refine ⟨ret_bool ?_, Bdn hb _⟩
          refine (decide_eq_false fun e => hne' ?_).symm
          have := Hx.out; rw [e, Hy.out] at this; exact (Option.some.inj this).symm
        · have he : x = y := by first | (simpa using ‹(x == y) = true›) | (simpa using ‹(!x == y) = false›)
          go_roundw
          case rel => exact ⟨k + 1, by omega, by go_num, fun j hj' => by
            rcases Nat.lt_or_ge j k with h | h
            · exact hj.out j h
            · obtain rfl : j = k := by omega
              rw [Hx.out, Hy.out, he], Bdn hb _⟩
          case measure => simp [intOf]; omega
      · obtain rfl : k = l.length := by omega
        go_wp2_with fail
        go_ret
        exact ⟨ret_bool (decide_eq_true (list_ext_upto Hl.out hj.out)).symm, hb⟩
  · have hne : ((l.length : Int) != (m.length : Int)) = true := by simp; omega
    go_enter Tryz.func24, Tryz.ntmps24
    go_wp2_with fail
    go_ret
    exact ⟨ret_bool (decide_eq_false fun e => hlen (by rw [e])).symm, Below.refl _ _⟩
theorem inTexts_any (s : Str) (v : Value) (l : List Str) (w : World) (hl : StrsAt w v l) :
    Calls Tryz.prog 13 #[S s, v] w fun e w' => e = .returned (.bool (decide (s ∈ l))) ∧ Below w.heap.size w w' := by
  obtain ⟨a, c, b, o, rfl, ha, hc, hcm, hx⟩ := hl
  unfold maxLen at hcm
  go_enter Tryz.func13, Tryz.ntmps13
  go_wp2_with fail
  go_loopw [5] (fun i wr => ∃ k : Nat, k ≤ l.length ∧ i = .int .i64 k ∧ Hid (∀ j < k, l[j]? ≠ some s) ∧ Below w.heap.size w wr) (fun i _ => l.length - (intOf i).toNat)
  case atStart => exact ⟨0, by omega, rfl, fun j hj => absurd hj (by omega), Below.refl _ _⟩
  case round =>
    obtain ⟨k, hk, rfl, hj, hb⟩ := hrel
    by_cases hlt : k < l.length
    · obtain ⟨x, hxk⟩ := get_ex hlt
      have c1 := hx k x hxk 0 _ rfl
      have c1 := (hb.cell (World.block_lt_of_cell? w _ c1)).trans c1
      have i1 := idx_at (c := c) 1 Tryz.underlying39 szStr ha k hlt
      have hk1 : (k : Int) < (l.length : Int) := by omega
      simp only [Nat.mul_one, Nat.add_zero] at c1 i1
      have Hx := Lib.hid hxk; clear hxk
      go_wp2_with fail
      · have he : x = s := by simpa using ‹(x == s) = true›
        go_ret
        exact ⟨ret_bool (decide_eq_true (by rw [← he]; exact List.mem_of_getElem? Hx.out)).symm, hb⟩
      · have hne' : x ≠ s := by simpa using ‹(x == s) = false›
        go_roundw
        case rel => exact ⟨k + 1, by omega, by go_num, fun j hj' => by
          rcases Nat.lt_or_ge j k with h | h
          · exact hj.out j h
          · obtain rfl : j = k := by omega
            rw [Hx.out]; exact fun e => hne' (Option.some.inj e), hb⟩
        case measure => simp [intOf]; omega
    · obtain rfl : k = l.length := by omega
      go_wp2_with fail
      go_ret
      refine ⟨ret_bool (decide_eq_false fun e => ?_).symm, hb⟩
      obtain ⟨j, hjl, hje⟩ := List.getElem_of_mem e
      exact hj.out j hjl (by simp [hjl, hje])
end Go.Proofs.YtpfohfihkmjnaaaGreatDoor
namespace Go.Proofs.YtpfohfihkmjnaaaGreatDoor
open Go.RowKit
/-- What a slice's element is: the row of the program's table. -/
def ElemInfo (P : Program) (t e : TypeId) (size bytes : Nat) : Prop :=
  ∃ i z, P.underlying t = some (.slice e) ∧ P.info? e = some i ∧ i.zero = some z ∧ i.size = size ∧ i.bytes = bytes ∧ z.cells.size = size ∧ 0 < size
theorem elemInfo_of {P : Program} {t e : TypeId} {z : Value} {size bytes : Nat} (ht : P.underlying t = some (.slice e)) (h : (P.info? e).map (fun i => (i.zero, i.size, i.bytes)) = some (some z, size, bytes)) (hz : z.cells.size = size) (hs : 0 < size) : ElemInfo P t e size bytes := by
  obtain ⟨i, hi, h0, h1, h2⟩ := info_parts h
  exact ⟨i, z, ht, hi, h0, h1, h2, hz, hs⟩
theorem ElemInfo.sizeOf {P : Program} {t e : TypeId} {size bytes : Nat} (h : ElemInfo P t e size bytes) (w : World) : (Go.sizeOf e).run P w = .ok size w := by
  obtain ⟨i, z, _, hi, _, h1, _⟩ := h
  simp [Go.sizeOf, typeInfo, hi, h1]
/-- The value x is a slice of m elements of size cells each, that are these. -/
def SrcAt (w : World) (size : Nat) (x : Value) (m : Nat) (news : List Value) : Prop :=
  ∃ a c, x = .slice a m c ∧ news.length = m * size ∧ (∀ u ∈ news, u.oneCell' = true) ∧ (0 < m → ∃ b o, a = some ⟨b, o, none⟩ ∧ ∀ j u, news[j]? = some u → w.cell? ⟨b, o + j, none⟩ = some u)
theorem add_lit (b o j : Nat) : (⟨b, o, none⟩ : Addr).add j = ⟨b, o + j, none⟩ := by
  unfold Addr.add; split <;> simp_all
theorem run_app {P : Program} (w : World) (base : Nat) (t ty e : TypeId) (size bytes : Nat) (hE : ElemInfo P t e size bytes) (v : Value) (n : Nat) (xs : List Value) (hown : w.ownsRow base e size v n xs)
    (x : Value) (m : Nat) (news : List Value) (hx : SrcAt w size x m news) (h63 : n + m ≤ maxLen) (hbytes : (n + m) * bytes ≤ 140737488355328) (hbase : base ≤ w.heap.size) :
    ∃ v' w', (Builtin.append_ #[t, t] ty #[v, x]).run P w = .ok v' w' ∧ w'.ownsRow base e size v' (n + m) (xs ++ news) ∧ w.grownBy w' v.ownBlock ∧ (v'.ownBlock = v.ownBlock ∨ v'.ownBlock = some w.heap.size) := by
  obtain ⟨i, z, ht, hi, hz, hsize, hby, hzs, hsz⟩ := hE
  obtain ⟨a, c, rfl, hl, h1, hc⟩ := hx
  cases a with
  | some ad =>
    have hnews : ∀ j u, news[j]? = some u → w.cell? (ad.add j) = some u := by
      intro j u hu
      rcases Nat.eq_zero_or_pos m with rfl | hm
      · rw [List.getElem?_eq_none (by omega)] at hu; cases hu
      · obtain ⟨b, o, e1, hcell⟩ := hc hm
        cases e1
        rw [add_lit]; exact hcell j u hu
    obtain ⟨v', w', h2, h3, h4, _, h5⟩ := run_append_own_at w base t ty e i z size bytes ht hi hz hsize hby hzs hsz v n xs hown ad m c news hl hnews h1 h63 hbytes hbase
    exact ⟨v', w', h2, h3, h4, h5⟩
  | none =>
    obtain rfl : m = 0 := by
      rcases Nat.eq_zero_or_pos m with h | h
      · exact h
      · obtain ⟨b, o, e1, _⟩ := hc h; cases e1
    obtain rfl : news = [] := by
      cases news with
      | nil => rfl
      | cons y r => simp at hl
    refine ⟨v, w, ?_, by simpa using hown, ⟨rfl, rfl, rfl, Nat.le_refl _, fun _ _ _ => rfl⟩, .inl rfl⟩
    have hf := run_firstCells_none (P := P) w size 0 0 c
    rcases hown.2 with ⟨rfl, rfl⟩ | ⟨g, cap, cur, rfl, _, _, hle, _⟩
    · simp [Builtin.append_, run_underlying ht, Go.sizeOf, typeInfo, hi, hsize, Builtin.lenOf, hf]
    · simp [Builtin.append_, run_underlying ht, Go.sizeOf, typeInfo, hi, hsize, Builtin.lenOf, hf, hle, storeCells]
theorem wpList_app {P : Program} {w : World} {ops : Array Oper} {rest : List Oper} {o : Oper} {a : Act} {Q : Exit → Act → World → Prop} (hgd : o.guard = none) (s x : Operand) (t : TypeId)
    (ho : o.op = .call { callee := .builtin .append, args := #[s, x], argTypes := #[t, t] }) (base : Nat) {e : TypeId} {size bytes : Nat} (hE : ElemInfo P t e size bytes)
    (v : Value) (n : Nat) (xs : List Value) (hs : a.eval s = v) (hown : w.ownsRow base e size v n xs) (xv : Value) (m : Nat) (news : List Value) (hx : a.eval x = xv) (hsrc : SrcAt w size xv m news)
    (h63 : n + m ≤ maxLen) (hbytes : (n + m) * bytes ≤ 140737488355328) (hbase : base ≤ w.heap.size)
    (h : ∀ v' w', w'.ownsRow base e size v' (n + m) (xs ++ news) → w.grownBy w' v.ownBlock → (v'.ownBlock = v.ownBlock ∨ v'.ownBlock = some w.heap.size) → wpList P ops Q rest (a.put o.dst v') w') : wpList P ops Q (o :: rest) a w :=
  wpList_plain hgd fun _ hK => by
    obtain ⟨v', w', hr, h2, h3, h4⟩ := run_app (P := P) w base t o.type e size bytes hE v n xs hown xv m news hsrc h63 hbytes hbase
    unfold Oper.wp execOp
    simp only [ho, resolve, invoke, builtin, Sem.run_bind, Sem.run_pure, Result.andThen_ok, List.map_toArray, List.map_cons, List.map_nil, hs, hx, hr]
    exact hK _ _ (h v' w' h2 h3 h4)
/-- The value v is a slice in a row that the call owns from block B on. -/
def Own {α : Type} (enc : α → List Value) (e : TypeId) (sz B : Nat) (w : World) (v : Value) (l : List α) : Prop := w.ownsRow B e sz v l.length (l.flatMap enc)
/-- Each element takes sz cells, none of them an aggregate. -/
def Enc {α : Type} (enc : α → List Value) (sz : Nat) : Prop := ∀ x, (enc x).length = sz ∧ ∀ u ∈ enc x, u.oneCell' = true
theorem encI_enc : Enc encI 1 := fun x => ⟨rfl, by simp [Value.oneCell']⟩
theorem encS_enc : Enc encS 1 := fun x => ⟨rfl, by simp [Value.oneCell']⟩
theorem flat_length {α : Type} {enc : α → List Value} {sz : Nat} (h : Enc enc sz) (l : List α) : (l.flatMap enc).length = l.length * sz := by
  induction l with
  | nil => simp
  | cons x r ih => simp [List.flatMap_cons, ih, (h x).1, Nat.add_mul]; omega
theorem flat_get {α : Type} {enc : α → List Value} {sz : Nat} (h : Enc enc sz) : ∀ (l : List α) (k : Nat) (x : α), l[k]? = some x → ∀ j u, (enc x)[j]? = some u → (l.flatMap enc)[k * sz + j]? = some u
  | [], k, x, hk, _, _, _ => by simp at hk
  | y :: r, 0, x, hk, j, u, hu => by
    obtain rfl : y = x := by simpa using hk
    rw [List.flatMap_cons, Nat.zero_mul, Nat.zero_add, List.getElem?_append_left]
    · exact hu
    · rcases Nat.lt_or_ge j (enc y).length with h' | h'
      · exact h'
      · rw [List.getElem?_eq_none h'] at hu; cases hu
  | y :: r, k + 1, x, hk, j, u, hu => by
    have ih := flat_get h r k x (by simpa using hk) j u hu
    rw [List.flatMap_cons, List.getElem?_append_right (by rw [(h y).1, Nat.add_mul]; omega), (h y).1, show (k + 1) * sz + j - sz = k * sz + j by rw [Nat.add_mul]; omega]
    exact ih
/-- The other way: whatever stands in the flat list is a cell of some element. -/
theorem flat_get_inv {α : Type} {enc : α → List Value} {sz : Nat} (h : Enc enc sz) (hz : 0 < sz) : ∀ (l : List α) (i : Nat) (u : Value), (l.flatMap enc)[i]? = some u → ∃ x, l[i / sz]? = some x ∧ (enc x)[i % sz]? = some u
  | [], i, u, hu => by simp at hu
  | y :: r, i, u, hu => by
    rw [List.flatMap_cons] at hu
    rcases Nat.lt_or_ge i sz with h' | h'
    · rw [List.getElem?_append_left (by rw [(h y).1]; exact h')] at hu
      exact ⟨y, by simp [Nat.div_eq_of_lt h'], by rw [Nat.mod_eq_of_lt h']; exact hu⟩
    · rw [List.getElem?_append_right (by rw [(h y).1]; exact h'), (h y).1] at hu
      obtain ⟨x, h1, h2⟩ := flat_get_inv h hz r (i - sz) u hu
      obtain ⟨d, rfl⟩ : ∃ d, i = d + sz := ⟨i - sz, by omega⟩
      refine ⟨x, ?_, ?_⟩
      · rw [Nat.add_div_right _ hz]; simpa using h1
      · rw [Nat.add_mod_right]; simpa using h2
theorem Own.nil {α : Type} (enc : α → List Value) (e : TypeId) (sz B : Nat) (w : World) : Own enc e sz B w (.slice none 0 0) [] := World.ownsRow_nil w B e sz
theorem Own.at {α : Type} {enc : α → List Value} {e : TypeId} {sz B : Nat} {w : World} {v : Value} {l : List α} (hen : Enc enc sz) (h : Own enc e sz B w v l) : At enc sz w v l := by
  obtain ⟨hl, h2⟩ := h
  rcases h2 with ⟨rfl, h0⟩ | ⟨g, cap, cur, rfl, hb, hg, hn, hcm, hcs, htake⟩
  · have : l = [] := List.eq_nil_of_length_eq_zero h0
    subst this
    exact At.nil enc sz w
  · refine ⟨_, cap, g, 0, rfl, fun _ => rfl, hn, hcm, fun k x hk j u hu => ?_⟩
    have h1 := flat_get hen l k x hk j u hu
    rw [cell_of_row w g _ cur e (0, 0) hg]
    rw [← htake, List.getElem?_take] at h1
    split at h1
    · simpa using h1
    · cases h1
theorem At.src {α : Type} {enc : α → List Value} {sz : Nat} {w : World} {v : Value} {l : List α} (hen : Enc enc sz) (hz : 0 < sz) (h : At enc sz w v l) : SrcAt w sz v l.length (l.flatMap enc) := by
  obtain ⟨a, c, b, o, rfl, ha, hc, hcm, hx⟩ := h
  refine ⟨a, c, rfl, flat_length hen l, ?_, fun hm => ⟨b, o, ha hm, fun j u hu => ?_⟩⟩
  · intro u hu
    obtain ⟨x, _, hux⟩ := List.mem_flatMap.1 hu
    exact (hen x).2 u hux
  · obtain ⟨x, h1, h2⟩ := flat_get_inv hen hz l j u hu
    have := hx _ x h1 _ u h2
    rwa [show o + j / sz * sz + j % sz = o + j by have := Nat.div_add_mod j sz; rw [Nat.mul_comm] at this; omega] at this
/-- One element in a new block of its own, as the translation lays what is appended. -/
theorem src_one {w : World} {sz : Nat} {cs : List Value} {t : TypeId} {H : Nat} (hH : w.heap.size = H) (hl : cs.length = sz) (h1 : ∀ u ∈ cs, u.oneCell' = true) : SrcAt (w.alloc (.cells cs.toArray t)) sz (.slice (some ⟨H, 0, none⟩) 1 1) 1 cs := by
  subst hH
  refine ⟨_, 1, rfl, by omega, h1, fun _ => ⟨w.heap.size, 0, rfl, fun j u hu => ?_⟩⟩
  rw [cell_of_row (w.alloc _) w.heap.size _ cs.toArray t (0, 0) (heap_alloc_new w _)]
  simpa using hu
theorem Own.alloc {α : Type} {enc : α → List Value} {e : TypeId} {sz B : Nat} {w : World} {v : Value} {l : List α} (h : Own enc e sz B w v l) (o : Obj) : Own enc e sz B (w.alloc o) v l := World.ownsRow.alloc h o
theorem Own.drewN {α : Type} {enc : α → List Value} {e : TypeId} {sz B : Nat} {w : World} {v : Value} {l : List α} (h : Own enc e sz B w v l) (n : Nat) : Own enc e sz B (w.drewN n) v l := h
theorem Own.below {α : Type} {enc : α → List Value} {e : TypeId} {sz B : Nat} {w w' : World} {v : Value} {l : List α} (h : Own enc e sz B w v l) (hb : Below w.heap.size w w') : Own enc e sz B w' v l :=
  World.ownsRow.kept h (row := none) ⟨hb.os, hb.tape, hb.output, hb.size, fun k hk _ => hb.block k hk⟩ (by cases v.ownBlock <;> simp)
theorem Own.snoc {α : Type} {enc : α → List Value} {e : TypeId} {sz B : Nat} {w : World} {v : Value} {l : List α} {x : α} (h : w.ownsRow B e sz v (l.length + 1) (l.flatMap enc ++ enc x)) : Own enc e sz B w v (l ++ [x]) := by
  unfold Own; simpa using h
theorem Own.app {α : Type} {enc : α → List Value} {e : TypeId} {sz B : Nat} {w : World} {v : Value} {l m : List α} (h : w.ownsRow B e sz v (l.length + m.length) (l.flatMap enc ++ m.flatMap enc)) : Own enc e sz B w v (l ++ m) := by
  unfold Own; simpa using h
/-- Behind an append to a row of the call's own. -/
theorem Bapp {α : Type} {enc : α → List Value} {e : TypeId} {sz B B' : Nat} {a w w' : World} {v : Value} {l : List α} (h : Below B a w) (ho : Own enc e sz B' w v l) (hg : w.grownBy w' v.ownBlock) (hB : B ≤ B') (hs : B ≤ w.heap.size) : Below B a w' :=
  h.grown hg hs (fun k hk => Nat.le_trans hB (World.ownsRow.lt ho k hk).1)
end Go.Proofs.YtpfohfihkmjnaaaGreatDoor
namespace Go.Proofs.YtpfohfihkmjnaaaGreatDoor
open Go.RowKit
theorem elInt : ElemInfo Tryz.prog 69 3 1 8 := elemInfo_of Tryz.underlying69 (z := .int .i64 0) (by kernel_rfl) rfl (by decide)
theorem elStr : ElemInfo Tryz.prog 39 9 1 16 := elemInfo_of Tryz.underlying39 (z := .string ByteArray.empty) (by kernel_rfl) rfl (by decide)
end Go.Proofs.YtpfohfihkmjnaaaGreatDoor
namespace Go.Proofs.YtpfohfihkmjnaaaGreatDoor
open Go.RowKit
theorem grown_set (w : World) (g i : Nat) (x : Value) : w.grownBy (w.setCell ⟨g, i, none⟩ x) (some g) := by
  refine ⟨rfl, rfl, rfl, by simp [World.setCell], fun k _ hne => ?_⟩
  have : g ≠ k := fun e => hne (by rw [e])
  simp [World.setCell, Array.getElem?_modify, this]
theorem Own.store {α : Type} {enc : α → List Value} {e : TypeId} {sz B : Nat} {w : World} {v : Value} {l : List α} (h : Own enc e sz B w v l) {g : Nat} (hg : g < B) (i : Nat) (x : Value) : Own enc e sz B (w.setCell ⟨g, i, none⟩ x) v l := by
  refine World.ownsRow.kept h (grown_set w g i x) ?_
  cases hv : v.ownBlock with
  | none => exact .inl rfl
  | some k =>
    refine .inr fun e => ?_
    cases e
    have := (World.ownsRow.lt h g hv).1
    omega
end Go.Proofs.YtpfohfihkmjnaaaGreatDoor
namespace Go.Proofs.YtpfohfihkmjnaaaGreatDoor
open Go.RowKit Go.Maps
/-- What a store's map holds, as it reads. -/
def objElem (v : Value) : Option (DataW Unit × List MemPlace) :=
  match v with
  | .agg cs => match cs.toList with
    | [.string s, .int .i64 d] => if s.size ≤ maxLen then some (obT s.data.toList d, []) else none
    | _ => none
  | _ => none
theorem objElem_mk {t : Str} {d : Int} (h : t.length ≤ maxLen) : objElem (.agg #[S t, .int .i64 d]) = some (obT t d, []) := by
  have : (ByteArray.mk t.toArray).size ≤ maxLen := by simpa [ByteArray.size] using h
  simp [objElem, this]
theorem objElem_inv {v : Value} {t : Str} {d : Int} {ps : List MemPlace} (h : objElem v = some (obT t d, ps)) : v = .agg #[S t, .int .i64 d] := by
  unfold objElem at h
  split at h
  · rename_i cs
    split at h
    · rename_i s d' hcs
      split at h
      · simp only [Option.some.injEq, Prod.mk.injEq, obT, DataW.agg.injEq, List.cons.injEq, DataW.lit.injEq, Lit.string.injEq, Lit.int.injEq, and_true, true_and] at h
        obtain ⟨⟨h1, h2⟩, -⟩ := h
        have : cs = #[.string s, .int .i64 d'] := by rw [← hcs]
        rw [this, h2]
        have hs : S t = .string s := by rw [← h1]
        rw [hs]
      · cases h
    · cases h
  · cases h
/-- A store, in plain words. -/
structure St where
  objs : List Ob
  head : Str
  day : Int
  off : Bool
  cut : Int
  deriving DecidableEq
def St.new : St := ⟨[], [], 0, false, -1⟩
abbrev stCells (mb : Nat) (s : St) : Array Value := #[.map (some mb), S s.head, .int .i64 s.day, .bool s.off, .int .i64 s.cut]
/-- What holds of each store. -/
structure St.Ok (s : St) : Prop where
  ris : Rising s.objs
  day0 : 0 ≤ s.day
  day1 : s.day ≤ 100000
  cut0 : -1 ≤ s.cut
  cut1 : s.cut ≤ 9223372036854775807
  txt : ∀ o ∈ s.objs, o.text.length ≤ 20000
  nam : ∀ o ∈ s.objs, o.name.length ≤ 20000
  num : s.objs.length ≤ 200
  hd : s.head.length ≤ 20000
/-- The store s lies in block sb, its map in block mb. -/
structure StoreAt (w : World) (sb mb : Nat) (s : St) : Prop where
  blk : w.heap[sb]? = some (.cells (stCells mb s) 128 (0, 0))
  own : w.ownsMap Tryz.prog 9 objElem mb s.objs.length (mapD s.objs)
  ok : s.Ok
theorem StoreAt.lt {w : World} {sb mb : Nat} {s : St} (h : StoreAt w sb mb s) : sb < w.heap.size := (Array.getElem?_eq_some_iff.1 h.blk).1
theorem StoreAt.ltm {w : World} {sb mb : Nat} {s : St} (h : StoreAt w sb mb s) : mb < w.heap.size := h.own.lt
theorem StoreAt.ne {w : World} {sb mb : Nat} {s : St} (h : StoreAt w sb mb s) : sb ≠ mb := by
  rintro rfl
  obtain ⟨es, clock, hb, _⟩ := h.own
  rw [h.blk] at hb; cases hb
theorem StoreAt.below {w w' : World} {sb mb : Nat} {s : St} (h : StoreAt w sb mb s) (hb : Below w.heap.size w w') : StoreAt w' sb mb s :=
  ⟨(hb.block _ h.lt).trans h.blk, h.own.kept (row := none) ⟨hb.os, hb.tape, hb.output, hb.size, fun k hk _ => hb.block k hk⟩ (by simp), h.ok⟩
/-- Nothing that lay there has turned but what lies in these two blocks. -/
structure But2 (sb mb : Nat) (w w' : World) : Prop where
  os : w'.os = w.os
  tape : w'.tape = w.tape
  output : w'.output = w.output
  size : w.heap.size ≤ w'.heap.size
  block : ∀ k, k < w.heap.size → k ≠ sb → k ≠ mb → w'.heap[k]? = w.heap[k]?
theorem But2.of {sb mb : Nat} {w w' : World} (h : Below w.heap.size w w') : But2 sb mb w w' := ⟨h.os, h.tape, h.output, h.size, fun k hk _ _ => h.block k hk⟩
theorem But2.trans {sb mb : Nat} {a b c : World} (h : But2 sb mb a b) (k : But2 sb mb b c) : But2 sb mb a c :=
  ⟨k.os.trans h.os, k.tape.trans h.tape, k.output.trans h.output, Nat.le_trans h.size k.size, fun i hi h1 h2 => (k.block i (Nat.lt_of_lt_of_le hi h.size) h1 h2).trans (h.block i hi h1 h2)⟩
theorem But2.set {sb mb : Nat} (w : World) (i : Nat) (x : Value) : But2 sb mb w (w.setCell ⟨sb, i, none⟩ x) :=
  ⟨rfl, rfl, rfl, by simp [World.setCell], fun k _ h1 _ => (grown_set w sb i x).block k (by assumption) (fun e => h1 (Option.some.inj e))⟩
theorem But2.below {sb mb B : Nat} {a b c : World} (h : Below B a b) (k : But2 sb mb b c) (h1 : B ≤ sb) (h2 : B ≤ mb) (hB : B ≤ b.heap.size) : Below B a c :=
  h.trans ⟨k.os, k.tape, k.output, k.size, fun i hi => k.block i (by omega) (by omega) (by omega)⟩
section
variable {w : World} {sb mb : Nat} {s : St}
theorem StoreAt.c0 (h : StoreAt w sb mb s) : w.cell? ⟨sb, 0, none⟩ = some (.map (some mb)) := by simp [World.cell?, h.blk]
theorem StoreAt.c1 (h : StoreAt w sb mb s) : w.cell? ⟨sb, 1, none⟩ = some (S s.head) := by simp [World.cell?, h.blk]
theorem StoreAt.c2 (h : StoreAt w sb mb s) : w.cell? ⟨sb, 2, none⟩ = some (.int .i64 s.day) := by simp [World.cell?, h.blk]
theorem StoreAt.c3 (h : StoreAt w sb mb s) : w.cell? ⟨sb, 3, none⟩ = some (.bool s.off) := by simp [World.cell?, h.blk]
theorem StoreAt.c4 (h : StoreAt w sb mb s) : w.cell? ⟨sb, 4, none⟩ = some (.int .i64 s.cut) := by simp [World.cell?, h.blk]
theorem StoreAt.fz (h : StoreAt w sb mb s) (i : Nat) : w.frozen? ⟨sb, i, none⟩ = false := by simp [World.frozen?, h.blk]
theorem StoreAt.setBlk (h : StoreAt w sb mb s) (i : Nat) (x : Value) : (w.setCell ⟨sb, i, none⟩ x).heap[sb]? = some (.cells ((stCells mb s).setIfInBounds i x) 128 (0, 0)) := heap_setCell_same w sb i (stCells mb s) 128 x h.blk
theorem StoreAt.ownSet (h : StoreAt w sb mb s) (i : Nat) (x : Value) : (w.setCell ⟨sb, i, none⟩ x).ownsMap Tryz.prog 9 objElem mb s.objs.length (mapD s.objs) := h.own.setCell (by exact fun e => h.ne e.symm) x
theorem StoreAt.setOff (h : StoreAt w sb mb s) (x : Bool) : StoreAt (w.setCell ⟨sb, 3, none⟩ (.bool x)) sb mb { s with off := x } :=
  ⟨h.setBlk 3 _, h.ownSet 3 _, { h.ok with }⟩
theorem StoreAt.setCut (h : StoreAt w sb mb s) {x : Int} (h0 : -1 ≤ x) (h1 : x ≤ 9223372036854775807) : StoreAt (w.setCell ⟨sb, 4, none⟩ (.int .i64 x)) sb mb { s with cut := x } :=
  ⟨h.setBlk 4 _, h.ownSet 4 _, { h.ok with cut0 := h0, cut1 := h1 }⟩
end
abbrev stP (sb : Nat) : Value := .pointer (some ⟨sb, 0, none⟩)
end Go.Proofs.YtpfohfihkmjnaaaGreatDoor
namespace Go.Proofs.YtpfohfihkmjnaaaGreatDoor
open Go.RowKit Go.Maps
def obV : Option Ob → Value
  | some o => .agg #[S o.text, .int .i64 o.day]
  | none => .agg #[.string ⟨#[]⟩, .int .i64 0]
theorem zeroOb (w : World) : (zeroValue 146).run Tryz.prog w = .ok (.agg #[.string ⟨#[]⟩, .int .i64 0]) w := by kernel_rfl
theorem keyStr {n : Str} (h : n.length ≤ 100000) : keyOf Tryz.prog 9 (S n) = some (.string n) := by
  have := WideMaps.keyOf_string_mk Tryz.underlying9 (s := ⟨n.toArray⟩) (by show n.toArray.size ≤ _; unfold maxLen; simp; omega)
  exact this
theorem look_any {w : World} {sb mb : Nat} {s : St} (h : StoreAt w sb mb s) (n : Str) (hn : n.length ≤ 100000) :
    (Instr.lookup 126 (.map (some mb)) (S n) true).run Tryz.prog w = .ok (.tuple #[obV (getO s.objs n), .bool (getO s.objs n).isSome]) w := by
  obtain ⟨v, ps, hrun, hv⟩ := h.own.look_ok (string_keyed Tryz.underlying9) Tryz.underlying126 (zeroOb w) (zd := obT [] 0) (zp := []) (objElem_mk (t := []) (by decide)) (keyStr hn)
  rw [hrun, has_mapD]
  rw [at_mapD] at hv
  cases hg : getO s.objs n with
  | none => rw [hg] at hv; rw [objElem_inv hv]; rfl
  | some o => rw [hg] at hv; rw [objElem_inv hv]; rfl
set_option maxRecDepth 20000 in
theorem get_any (E : Nat → Addr) (B : Nat) (sb mb : Nat) (s : St) (n : Str) (w : World) (hE : Errs [6] E B w) (h : StoreAt w sb mb s) (hn : n.length ≤ 100000) :
    Calls Tryz.prog 95 #[stP sb, S n] w fun e w' => ∃ ev, e = .returned (.tuple #[S (((getO s.objs n).map (·.text)).getD []), ev]) ∧ ErV E w' ev (if (getO s.objs n).isSome then .nil else .bare 6) ∧ Below w.heap.size w w' := by
  have v6 := fun o => (hE.below' ((Below.refl _ w).alloc (Nat.le_refl _) o) hE.le).var 6 (by decide)
  simp only [errG] at v6
  have v6 := v6 (.cells #[.string ⟨#[]⟩, .int .i64 0] 146)
  have c0 := h.c0
  have hl := look_any h n hn
  cases hg : getO s.objs n with
  | none =>
    rw [hg] at hl
    simp only [obV, Option.isSome_none] at hl
    clear hg
    go_enter Tryz.func95, Tryz.ntmps95
    go_wp2_with fail
    go_quiet (fail)
    go_wp2_with fail
    go_ret2
    exact ⟨_, rfl, ⟨by decide, rfl⟩, Bdn ((Below.refl _ _).alloc (Nat.le_refl _) _) _⟩
  | some o =>
    rw [hg] at hl
    simp only [obV, Option.isSome_some] at hl
    clear hg
    go_enter Tryz.func95, Tryz.ntmps95
    go_wp2_with fail
    go_ret2
    exact ⟨_, rfl, rfl, (Below.refl _ _).alloc (Nat.le_refl _) _⟩
/-- Days on. -/
def nextBad (s : St) (n : Int) : Prop := n < 0 ∨ 100000 - s.day < n
instance (s : St) (n : Int) : Decidable (nextBad s n) := inferInstanceAs (Decidable (_ ∨ _))
/-- How much is written, and what is then. -/
def wrote (s : St) (n : Nat) : Nat := if s.cut < 0 then n else if s.cut < n then s.cut.toNat else n
def aft (s : St) (n : Nat) : St := if s.cut < 0 then s else if s.cut < n then { s with off := true } else { s with cut := s.cut - n }
theorem wrote_le (s : St) (n : Nat) : wrote s n ≤ n := by unfold wrote; split <;> (try split) <;> omega
set_option maxRecDepth 20000 in
theorem write_any (sb mb : Nat) (s : St) (n : Nat) (w : World) (h : StoreAt w sb mb s) (hn : n ≤ 100000) :
    Calls Tryz.prog 85 #[stP sb, .int .i64 (n : Int)] w fun e w' => e = .returned (.int .i64 (wrote s n : Int)) ∧ StoreAt w' sb mb (aft s n) ∧ But2 sb mb w w' := by
  have c3 := h.c3
  have c4 := h.c4
  have f3 := h.fz 3
  have f4 := h.fz 4
  have hc0 := h.ok.cut0
  have hc1 := h.ok.cut1
  unfold wrote aft
  by_cases h0 : s.cut < 0
  · simp only [h0, if_true]
    have H := Lib.hid h; clear h
    go_enter Tryz.func85, Tryz.ntmps85
    go_wp2_with fail
    go_ret
    exact ⟨rfl, H.out, .of (Below.refl _ _)⟩
  by_cases h1 : s.cut < n
  · simp only [h0, h1, if_true, if_false]
    have hk : ((s.cut.toNat : Nat) : Int) = s.cut := by omega
    have g0 : 0 ≤ s.cut := by omega
    rw [hk]
    have H := Lib.hid (h.setOff true)
    have hd : (w.setCell ⟨sb, 3, none⟩ (.bool true)).cell? ⟨sb, 4, none⟩ = some (.int .i64 s.cut) := H.out.c4
    clear h h0 hk
    go_enter Tryz.func85, Tryz.ntmps85
    go_wp2_with fail
    go_ret
    exact ⟨rfl, H.out, .set _ _ _⟩
  · simp only [h0, h1, if_false]
    have g0 : 0 ≤ s.cut := by omega
    have g1 : (n : Int) ≤ s.cut := by omega
    have H := Lib.hid (h.setCut (x := s.cut - n) (by omega) (by omega))
    clear h h0 h1
    go_enter Tryz.func85, Tryz.ntmps85
    go_wp2_with fail
    go_ret
    exact ⟨rfl, H.out, .set _ _ _⟩
end Go.Proofs.YtpfohfihkmjnaaaGreatDoor
namespace Go.Proofs.YtpfohfihkmjnaaaGreatDoor
open Go.RowKit
section
variable {α : Type} {enc : α → List Value} {e : TypeId} {sz B : Nat} {w : World} {v : Value} {l : List α}
theorem Own.open (h : Own enc e sz B w v l) (hpos : 0 < l.length) : ∃ g cap cur, v = .slice (some ⟨g, 0, none⟩) l.length cap ∧ B ≤ g ∧ w.heap[g]? = some (.cells cur e (0, 0)) ∧ l.length ≤ cap ∧ cap ≤ maxLen ∧ cur.size = cap * sz ∧ cur.toList.take (l.length * sz) = l.flatMap enc := by
  obtain ⟨_, h2⟩ := h
  rcases h2 with ⟨_, h0⟩ | ⟨g, cap, cur, h⟩
  · omega
  · exact ⟨g, cap, cur, h⟩
theorem Own.mk {g cap n : Nat} {cur : Array Value} (hen : Enc enc sz) (hn : l.length = n) (hB : B ≤ g) (hg : w.heap[g]? = some (.cells cur e (0, 0))) (hc : n ≤ cap) (hm : cap ≤ maxLen) (hs : cur.size = cap * sz) (ht : cur.toList.take (n * sz) = l.flatMap enc) : Own enc e sz B w (.slice (some ⟨g, 0, none⟩) n cap) l := by
  subst hn
  exact ⟨flat_length hen l, .inr ⟨g, cap, cur, rfl, hB, hg, hc, hm, hs, ht⟩⟩
/-- s[:k] of such a slice. -/
theorem Own.cut {g n cap k : Nat} (hen : Enc enc sz) (h : Own enc e sz B w (.slice (some ⟨g, 0, none⟩) n cap) l) (hk : k ≤ l.length) (hpos : 0 < l.length) : Own enc e sz B w (.slice (some ⟨g, 0, none⟩) k cap) (l.take k) := by
  obtain ⟨g', cap', cur, hv, hB, hg, hc, hm, hs, ht⟩ := h.open hpos
  cases hv
  refine Own.mk hen (by simp; omega) hB hg (by omega) hm hs ?_
  have : l.flatMap enc = (l.take k).flatMap enc ++ (l.drop k).flatMap enc := by rw [← List.flatMap_append, List.take_append_drop]
  have hl : ((l.take k).flatMap enc).length = k * sz := by rw [flat_length hen, List.length_take, Nat.min_eq_left hk]
  have h1 : (cur.toList.take (l.length * sz)).take (k * sz) = cur.toList.take (k * sz) := by
    rw [List.take_take, Nat.min_eq_left (Nat.mul_le_mul_right _ hk)]
  rw [← h1, ht, this, ← hl, List.take_left]
theorem frozen_row {g i : Nat} {cur : Array Value} (hg : w.heap[g]? = some (.cells cur e (0, 0))) : w.frozen? ⟨g, i, none⟩ = false := by
  simp [World.frozen?, hg]
end
theorem flat_one {α : Type} (val : α → Value) (l : List α) : l.flatMap (fun x => [val x]) = l.map val := by
  induction l with
  | nil => rfl
  | cons x r ih => simp [ih]
/-- One element of one cell is written. -/
theorem Own.set1 {α : Type} {val : α → Value} {e : TypeId} {B : Nat} {w : World} {g n cap i : Nat} {l : List α} (hen : Enc (fun x => [val x]) 1) (h : Own (fun x => [val x]) e 1 B w (.slice (some ⟨g, 0, none⟩) n cap) l) (hi : i < l.length) (x : α) :
    Own (fun x => [val x]) e 1 B (w.setCell ⟨g, i, none⟩ (val x)) (.slice (some ⟨g, 0, none⟩) n cap) (l.set i x) := by
  obtain ⟨g', cap', cur, hv, hB, hg, hc, hm, hs, ht⟩ := h.open (by omega)
  cases hv
  have hlt : g < w.heap.size := (Array.getElem?_eq_some_iff.1 hg).1
  refine Own.mk (cur := cur.setIfInBounds i (val x)) hen (by simp) hB ?_ (by omega) hm (by simpa using hs) ?_
  · simp only [World.setCell, Array.getElem?_modify, hg]
    rfl
  · rw [flat_one] at ht ⊢
    simp only [Nat.mul_one] at ht ⊢
    rw [Array.toList_setIfInBounds, List.take_set, ht, List.map_set]
/-- The cells behind are cleared: what lies ahead stays. -/
theorem Own.setRow {α : Type} {enc : α → List Value} {e : TypeId} {sz B : Nat} {w : World} {g n cap k : Nat} {l : List α} {cs : Array Value} (hen : Enc enc sz) (h : Own enc e sz B w (.slice (some ⟨g, 0, none⟩) n cap) l) (hpos : 0 < l.length) (hk : k ≤ l.length) (hsz : cs.size = cap * sz)
    (ht : ∀ cur, w.heap[g]? = some (.cells cur e (0, 0)) → cs.toList.take (k * sz) = cur.toList.take (k * sz)) : Own enc e sz B (w.setRow g cs) (.slice (some ⟨g, 0, none⟩) k cap) (l.take k) := by
  have h' := h.cut (k := k) hen hk hpos
  obtain ⟨g', cap', cur, hv, hB, hg, hc, hm, hs, ht'⟩ := h.open hpos
  cases hv
  refine Own.mk (cur := cs) hen (by simp; omega) hB (setRow_heap w g cur cs e _ hg) (by omega) hm hsz ?_
  rw [ht cur hg]
  have : l.flatMap enc = (l.take k).flatMap enc ++ (l.drop k).flatMap enc := by rw [← List.flatMap_append, List.take_append_drop]
  have hl : ((l.take k).flatMap enc).length = k * sz := by rw [flat_length hen, List.length_take, Nat.min_eq_left hk]
  have h1 : (cur.toList.take (l.length * sz)).take (k * sz) = cur.toList.take (k * sz) := by
    rw [List.take_take, Nat.min_eq_left (Nat.mul_le_mul_right _ hk)]
  rw [← h1, ht', this, ← hl, List.take_left]
theorem Bset {B : Nat} {a w : World} (h : Below B a w) {g : Nat} (hg : B ≤ g) (cs : Array Value) : Below B a (w.setRow g cs) :=
  h.trans ⟨rfl, rfl, rfl, by simp [World.setRow], fun k hk => setRow_other w g k cs (by omega)⟩
/-- clear(s[k:]) of such a slice. -/
theorem run_clear_own {α : Type} {P : Program} {enc : α → List Value} {t e : TypeId} {sz bytes B : Nat} {w : World} {g n cap k : Nat} {l : List α} (hE : ElemInfo P t e sz bytes) (hen : Enc enc sz) (hz1 : ∀ z, (P.info? e).bind (·.zero) = some z → ∀ u ∈ z.cells.toList, u.oneCell' = true)
    (h : Own enc e sz B w (.slice (some ⟨g, 0, none⟩) n cap) l) (hk : k < l.length) (c : Nat) :
    ∃ cs : Array Value, (∀ ty, (Builtin.clear_ #[t] ty #[.slice (some ⟨g, k * sz, none⟩) (n - k) c]).run P w = .ok (.tuple #[]) (w.setRow g cs)) ∧ Own enc e sz B (w.setRow g cs) (.slice (some ⟨g, 0, none⟩) k cap) (l.take k) := by
  obtain ⟨i, z, ht, hi, hz, hsize, hby, hzs, hsz⟩ := hE
  obtain ⟨g', cap', cur, hv, hB, hg, hc, hm, hs, ht'⟩ := h.open (by omega)
  cases hv
  have hnz : (Builtin.zeroCells z.cells (l.length - k)).size = (l.length - k) * sz := by rw [size_zeroCells, hzs]
  have hone : ∀ u ∈ (Builtin.zeroCells z.cells (l.length - k)).toList, u.oneCell' = true := by
    intro u hu
    have hz' := hz1 z (by rw [hi]; exact hz)
    obtain ⟨j, hj, rfl⟩ := Array.getElem_of_mem (Array.mem_def.2 hu)
    simp only [Builtin.zeroCells, Array.getElem_map, Array.getElem_range]
    rw [getElem!_pos z.cells (j % z.cells.size) (Nat.mod_lt _ (by omega))]
    exact hz' _ (by simp)
  have hmul : k * sz + (l.length - k) * sz = l.length * sz := by rw [← Nat.add_mul]; congr 1; omega
  have hle : l.length * sz ≤ cap * sz := Nat.mul_le_mul_right _ hc
  have hrun := run_storeCells_at P g (k * sz) e (Builtin.zeroCells z.cells (l.length - k)).toList 0 cur w hg (by rw [Array.length_toList, hnz]; omega) hone
  simp only [Nat.add_zero] at hrun
  refine ⟨(cur.toList.take (k * sz) ++ (Builtin.zeroCells z.cells (l.length - k)).toList ++ cur.toList.drop (k * sz + (Builtin.zeroCells z.cells (l.length - k)).toList.length)).toArray, fun ty => ?_, h.setRow hen (by omega) (by omega) ?_ ?_⟩
  · obtain ⟨d, hd⟩ : ∃ d, l.length - k = d + 1 := ⟨l.length - k - 1, by omega⟩
    rw [hd] at hrun ⊢
    simp [Builtin.clear_, run_underlying ht, zeroValue, typeInfo, hi, hz, hrun]
  · simp [hnz, Array.length_toList]; omega
  · intro cur' hg'
    rw [hg] at hg'
    cases hg'
    simp only [List.append_assoc]
    rw [List.take_append_of_le_length (by simp; omega), List.take_take, Nat.min_self]
end Go.Proofs.YtpfohfihkmjnaaaGreatDoor
namespace Go.Proofs.YtpfohfihkmjnaaaGreatDoor
open Go.RowKit
/-- What abides turns of blocks from B on that hold no cells. -/
def From {β : Type} (B : Nat) (I : β → World → Prop) : Prop :=
  ∀ s W W' row, I s W → W.grownBy W' row → (∀ r, row = some r → B ≤ r ∧ ∃ o : Obj, W.heap[r]? = some o ∧ o.isCells = false) → I s W'
theorem From.turn {β : Type} {B : Nat} {I : β → World → Prop} (h : From B I) {s : β} {W : World} {l : Nat} {o : Obj} (o' : Obj) (hs : I s W) (hl : W.heap[l]? = some o) (ho : o.isCells = false) (hB : B ≤ l) : I s (W.putObj l o') :=
  h s W _ (some l) hs (grownBy_putObj' W l o') (fun r e => by cases e; exact ⟨hB, o, hl, ho⟩)
theorem From.new {β : Type} {B : Nat} {I : β → World → Prop} (h : From B I) {s : β} {W : World} (o : Obj) (hs : I s W) : I s (W.alloc o) :=
  h s W _ none hs (World.grownBy_alloc W o none) (fun r e => by cases e)
variable {F : Fence} {n : Nat} {P : Program}
theorem rangeAll {α : Type} {g : Operand} {ps : Array Tmp} {assign body : Code} {Q : Exit → Act → World → Prop} {a : Act} {w : World}
    (hro : F.round = none) (h1 : 1 ≤ n) {gf : Nat} {lb : Array Value} (hg : a.eval g = .func (.func gf) #[] lb) (hFg : F.fn gf) (eg : ∀ args w, (callFunc gf args).run P w = .ok (.enter gf args) w)
    {enc : α → Value} {G : List α → Prop} {N : Nat} {w0 : World} (hseq : SeqGives F (n - 1) P gf lb enc G N w0) (hb0 : Below w0.heap.size w0 w) (hps : ps.size = 1)
    (I : List α → World → Prop) (hI : From w.heap.size I) (h0 : I [] w) (M : List α × α × Act → World → Prop) (hM : From w.heap.size M)
    (hassign : ∀ (l : Nat) (pre : List α) (x : α) (W : World), I pre W → pre.length < N →
      assign.wpIn (F.inRound l) (n - 1 - 1) P (Exit.then (fun a₁ W₁ => KeepsOthers W W₁ ∧ M (pre, x, a₁) W₁) (fun _ _ _ => False)) { tmps := (ps.zip #[enc x]).foldl (fun t (p, v) => t.setIfInBounds p v) a.tmps, defers := [] } W)
    (hbody : ∀ (l : Nat) (pre : List α) (x : α) (a₁ : Act) (W : World), M (pre, x, a₁) W → body.wpIn (F.inRound l) (n - 1 - 1) P (fun e _ W' => e = .normal ∧ KeepsOthers W W' ∧ I (pre ++ [x]) W') a₁ W)
    (hdone : ∀ (D : Nat) (xs : List α) (W : World), G xs → I xs W → w.heap.size ≤ D → W.heap[D]? = some (.deferred (some [])) → Q .normal { a with defers := { target := .collected D, args := #[] } :: a.defers } W) :
    (Code.rangeFunc g ps assign body).wpIn F n P Q a w := by
  refine wpIn_rangeFunc fun fn hfn => ?_
  rw [hro]
  generalize hDs : w.heap.size = D at *
  obtain ⟨rec, hrec⟩ : ∃ rec : LoopState → Loop, rec = fun st => { state := st, pending := none, fn, tmps := a.tmps, params := ps, assign, body, defers := D } := ⟨_, rfl⟩
  have rst : ∀ st, (rec st).state = st := fun st => by rw [hrec]
  have rps : ∀ st, (rec st).params = ps := fun st => by rw [hrec]
  have rbusy : ∀ st st', { rec st with state := st' } = rec st' := fun st st' => by rw [hrec]
  obtain ⟨W1, hW1⟩ : ∃ W1, (w.alloc (.deferred (some []))).alloc (.loop (rec .ready)) = W1 := ⟨_, rfl⟩
  have hL1 : W1.heap[D + 1]? = some (.loop (rec .ready)) := by
    rw [← hW1, ← hDs]
    have h := World.alloc_heap_new (w.alloc (.deferred (some []))) (.loop (rec .ready))
    rwa [World.size_alloc] at h
  have hK1 : W1.heap[D]? = some (.deferred (some [])) := by
    rw [← hW1, ← hDs]
    exact (Below.heap_alloc _ _ _ (by simp)).trans (World.alloc_heap_new w _)
  have hb1 : Below w0.heap.size w0 W1 := by
    rw [← hW1]; exact (hb0.alloc hb0.size _).alloc (by have := hb0.size; simp; omega) _
  have hs1 : D ≤ W1.heap.size := by rw [← hW1]; simp; omega
  have hI1 : I [] W1 := by rw [← hW1]; exact hI.new _ (hI.new _ h0)
  refine ⟨D + 1, [{ target := .collected D, args := #[] }], W1, { target := .fn (.func gf) lb, args := #[.func (.yield (D + 1)) #[] #[]] }, W1, gf, #[.func (.yield (D + 1)) #[] #[]] ++ lb, W1, ?_, ?_, ?_, ?_, fun _ => h1, ?_⟩
  · rw [← hW1, hrec, ← hDs]
    exact run_enterLoop_outer _ _ _ _ _
  · simp only [resolve, hg]
    simp [go_sem]
  · intro f' hf'
    simp [Target.leads] at hf'
    subst hf'
    exact hFg
  · simp [invoke, go_sem, eg]
  refine (hseq (D + 1) (fun pre W => I pre W ∧ W.heap[D + 1]? = some (.loop (rec .ready)) ∧ W.heap[D]? = some (.deferred (some []))) W1 hb1 ?_ ?_ ⟨hI1, hL1, hK1⟩).mono ?_
  · rintro s A B row ⟨hi, hl, hk⟩ hg' hr
    refine ⟨hI s A B row hi hg' (fun r e => ?_), (grownBy_keeps hg' (fun r e => (hr r e).2) hl rfl).trans hl, (grownBy_keeps hg' (fun r e => (hr r e).2) hk rfl).trans hk⟩
    obtain ⟨h2, o, ho, hw⟩ := hr r e
    exact ⟨Nat.le_trans hs1 h2, o, ho, Obj.not_cells_of_walk hw⟩
  · rintro pre x W ⟨hi, hl, hk⟩ hlen
    refine ⟨fn, _, assign, body, ?_, roundIn_of_wpIn hfn (wpIn_mono (hassign (D + 1) pre x W hi hlen) ?_)⟩
    · have hy := run_yield (P := P) (args := #[enc x]) hl (by rw [rps, hps]; rfl)
      rw [hrec] at hy
      exact hy
    · intro e a1 W0 hp
      cases e with
      | normal =>
        obtain ⟨hk0, hm⟩ := hp
        have hl := hk0.same _ _ hl rfl
        have hk := hk0.same _ _ hk rfl
        have hlt : D + 1 < W0.heap.size := (Array.getElem?_eq_some_iff.1 hl).1
        refine ⟨_, run_beginRound hl (rst _), ?_⟩
        rw [rbusy]
        have hl2 : (W0.putObj (D + 1) (.loop (rec .busy))).heap[D + 1]? = some (.loop (rec .busy)) := World.putObj_heap_same hlt
        have hk2 : (W0.putObj (D + 1) (.loop (rec .busy))).heap[D]? = some (.deferred (some [])) := (World.putObj_heap_other (by omega)).trans hk
        have hw2 : KeepsWalks W0 (W0.putObj (D + 1) (.loop (rec .busy))) := KeepsWalks.putObj _ hl rfl
        refine wpIn_mono (hbody _ pre x a1 _ (hM.turn _ hm hl rfl (by omega))) ?_
        rintro e a3 W3 ⟨rfl, hk3, hi3⟩
        have hl3 := hk3.same _ _ hl2 rfl
        have hr := run_endRound (P := P) none hl3
        have hfin : { rec .busy with state := if (none : Option Code).isNone then LoopState.ready else .done, pending := none } = rec .ready := by rw [hrec]; rfl
        rw [hfin] at hr
        exact ⟨_, _, hr, rfl, ⟨hI.turn _ hi3 hl3 rfl (by omega), World.putObj_heap_same (Array.getElem?_eq_some_iff.1 hl3).1, (World.putObj_heap_other (by omega)).trans (hk3.same _ _ hk2 rfl)⟩, ((hk0.walks.trans hw2).trans hk3.walks).trans (KeepsWalks.putObj _ hl3 rfl)⟩
      | _ => exact hp.elim
  · rintro e W2 ⟨⟨v, rfl⟩, xs, hG, hi, hl, hk⟩
    have hend := run_endLoop (P := P) hl (by rw [rst]; simp)
    have hp : (rec .ready).pending = none := by rw [hrec]
    rw [hp] at hend
    exact ⟨none, _, hend, hdone D xs _ hG (hI.turn _ hi hl rfl (by omega)) (Nat.le_refl _) ((World.putObj_heap_other (by omega)).trans hk)⟩
end Go.Proofs.YtpfohfihkmjnaaaGreatDoor
namespace Go.Proofs.YtpfohfihkmjnaaaGreatDoor
open Go.RowKit Go.Maps
abbrev encO (o : Ob) : List Value := [S o.name, S o.text, .int .i64 o.day]
theorem encO_enc : Enc encO 3 := fun x => ⟨rfl, by simp [Value.oneCell']⟩
abbrev modCells (v : Value) (s : St) : Array Value := #[v, S s.head, .int .i64 s.day, .bool s.off, .int .i64 s.cut]
/-- The model s lies in block xb, its objects in a row of the call's own. -/
structure ModAt (w : World) (B xb : Nat) (v : Value) (s : St) : Prop where
  blk : w.heap[xb]? = some (.cells (modCells v s) 131 (0, 0))
  own : Own encO 153 3 B w v s.objs
  ok : s.Ok
section
variable {w w' : World} {B xb : Nat} {v : Value} {s : St}
theorem ModAt.lt (h : ModAt w B xb v s) : xb < w.heap.size := (Array.getElem?_eq_some_iff.1 h.blk).1
theorem ModAt.c0 (h : ModAt w B xb v s) : w.cell? ⟨xb, 0, none⟩ = some v := by simp [World.cell?, h.blk]
theorem ModAt.c1 (h : ModAt w B xb v s) : w.cell? ⟨xb, 1, none⟩ = some (S s.head) := by simp [World.cell?, h.blk]
theorem ModAt.c2 (h : ModAt w B xb v s) : w.cell? ⟨xb, 2, none⟩ = some (.int .i64 s.day) := by simp [World.cell?, h.blk]
theorem ModAt.c3 (h : ModAt w B xb v s) : w.cell? ⟨xb, 3, none⟩ = some (.bool s.off) := by simp [World.cell?, h.blk]
theorem ModAt.c4 (h : ModAt w B xb v s) : w.cell? ⟨xb, 4, none⟩ = some (.int .i64 s.cut) := by simp [World.cell?, h.blk]
theorem ModAt.fz (h : ModAt w B xb v s) (i : Nat) : w.frozen? ⟨xb, i, none⟩ = false := by simp [World.frozen?, h.blk]
theorem ModAt.below (h : ModAt w B xb v s) (hb : Below w.heap.size w w') : ModAt w' B xb v s := ⟨(hb.block _ h.lt).trans h.blk, h.own.below hb, h.ok⟩
theorem own_ne {α : Type} {enc : α → List Value} {e : TypeId} {sz B : Nat} {v : Value} {l : List α} (h : Own enc e sz B w v l) {k : Nat} {o : Obj} (hk : w.heap[k]? = some o) (ho : ∀ cs, o ≠ .cells cs e (0, 0)) : v.ownBlock ≠ some k := by
  obtain ⟨_, h2⟩ := h
  rcases h2 with ⟨rfl, _⟩ | ⟨g, cap, cur, rfl, _, hg, _⟩
  · simp [Value.ownBlock]
  · intro e1
    have : g = k := by simpa [Value.ownBlock] using e1
    subst this
    rw [hk] at hg
    cases hg
    exact ho _ rfl
theorem own_but {α : Type} {enc : α → List Value} {e : TypeId} {sz B a b : Nat} {v : Value} {l : List α} (h : Own enc e sz B w v l) (h1 : v.ownBlock ≠ some a) (h2 : v.ownBlock ≠ some b) (hb : But2 a b w w') : Own enc e sz B w' v l := by
  obtain ⟨h0, h3⟩ := h
  refine ⟨h0, ?_⟩
  rcases h3 with h4 | ⟨g, cap, cur, rfl, hB, hg, rest⟩
  · exact .inl h4
  · have hlt := (Array.getElem?_eq_some_iff.1 hg).1
    exact .inr ⟨g, cap, cur, rfl, hB, (hb.block g hlt (fun e1 => h1 (by rw [e1]; rfl)) (fun e1 => h2 (by rw [e1]; rfl))).trans hg, rest⟩
theorem ModAt.apart (h : ModAt w B xb v s) : v.ownBlock ≠ some xb := own_ne h.own h.blk (fun cs e => by cases e)
theorem ModAt.setBlk (h : ModAt w B xb v s) (i : Nat) (x : Value) : (w.setCell ⟨xb, i, none⟩ x).heap[xb]? = some (.cells ((modCells v s).setIfInBounds i x) 131 (0, 0)) := heap_setCell_same w xb i (modCells v s) 131 x h.blk
theorem ModAt.ownSet (h : ModAt w B xb v s) (i : Nat) (x : Value) : Own encO 153 3 B (w.setCell ⟨xb, i, none⟩ x) v s.objs := own_but h.own h.apart h.apart (But2.set (mb := xb) w i x)
theorem ModAt.setOff (h : ModAt w B xb v s) (x : Bool) : ModAt (w.setCell ⟨xb, 3, none⟩ (.bool x)) B xb v { s with off := x } :=
  ⟨h.setBlk 3 _, h.ownSet 3 _, { h.ok with }⟩
theorem ModAt.setCut (h : ModAt w B xb v s) {x : Int} (h0 : -1 ≤ x) (h1 : x ≤ 9223372036854775807) : ModAt (w.setCell ⟨xb, 4, none⟩ (.int .i64 x)) B xb v { s with cut := x } :=
  ⟨h.setBlk 4 _, h.ownSet 4 _, { h.ok with cut0 := h0, cut1 := h1 }⟩
end
theorem newMod_any (w : World) :
    Calls Tryz.prog 31 #[] w fun e w' => ∃ xb, e = .returned (stP xb) ∧ w.heap.size ≤ xb ∧ ModAt w' w.heap.size xb (.slice none 0 0) St.new ∧ Below w.heap.size w w' := by
  go_enter Tryz.func31, Tryz.ntmps31
  go_wp2_with fail
  go_ret
  refine ⟨w.heap.size, rfl, Nat.le_refl _, ⟨?_, Own.nil encO _ 3 _ _, { ris := List.Pairwise.nil, day0 := Int.le_refl _, day1 := by decide, cut0 := Int.le_refl _, cut1 := by decide, txt := fun _ h => (by cases h), nam := fun _ h => (by cases h), num := Nat.zero_le _, hd := Nat.zero_le _ }⟩, (Below.refl _ _).alloc (Nat.le_refl _) _⟩
  exact heap_alloc_new w (.cells (modCells (.slice none 0 0) St.new) 131)
set_option maxRecDepth 20000 in
theorem written_any (B xb : Nat) (v : Value) (s : St) (n : Nat) (w : World) (h : ModAt w B xb v s) (hn : n ≤ 100000) :
    Calls Tryz.prog 88 #[stP xb, .int .i64 (n : Int)] w fun e w' => e = .returned (.int .i64 (wrote s n : Int)) ∧ ModAt w' B xb v (aft s n) ∧ But2 xb xb w w' := by
  have c3 := h.c3
  have c4 := h.c4
  have f3 := h.fz 3
  have f4 := h.fz 4
  have hc0 := h.ok.cut0
  have hc1 := h.ok.cut1
  unfold wrote aft
  by_cases h0 : s.cut < 0
  · simp only [h0, if_true]
    have H := Lib.hid h; clear h
    go_enter Tryz.func88, Tryz.ntmps88
    go_wp2_with fail
    go_ret
    exact ⟨rfl, H.out, .of (Below.refl _ _)⟩
  by_cases h1 : s.cut < n
  · simp only [h0, h1, if_true, if_false]
    have hk : ((s.cut.toNat : Nat) : Int) = s.cut := by omega
    have g0 : 0 ≤ s.cut := by omega
    rw [hk]
    have H := Lib.hid (h.setOff true)
    have hd : (w.setCell ⟨xb, 3, none⟩ (.bool true)).cell? ⟨xb, 4, none⟩ = some (.int .i64 s.cut) := H.out.c4
    clear h h0 hk
    go_enter Tryz.func88, Tryz.ntmps88
    go_wp2_with fail
    go_ret
    exact ⟨rfl, H.out, .set _ _ _⟩
  · simp only [h0, h1, if_false]
    have g0 : 0 ≤ s.cut := by omega
    have g1 : (n : Int) ≤ s.cut := by omega
    have H := Lib.hid (h.setCut (x := s.cut - n) (by omega) (by omega))
    clear h h0 h1
    go_enter Tryz.func88, Tryz.ntmps88
    go_wp2_with fail
    go_ret
    exact ⟨rfl, H.out, .set _ _ _⟩
end Go.Proofs.YtpfohfihkmjnaaaGreatDoor
