/- How slices of plain data lie in memory: words, and the laws by which the walks read them. Of no program. Package store in plain words: objects by names, rising; a map's datum of them. Of no program. errors.As at the target **api.Fault, and errors.Is at a sentinel, by contracts over this seat's program. Turned from the worked texts ToyasAs and SentryIs. errors.As and errors.Is: the contracts at what this program hands them: nil, a sentinel, a Fault around a sentinel. The program's sentinel errors in memory, and the contract of plain.Code: the number and the place of nil, of a sentinel, of a Fault around a sentinel, and of another error of errors.New's make. Errors as values: nil, a sentinel, a Fault around a sentinel; plain.Code of each. deedboxref1: SameInts, SameTexts, InInts, InTexts: what they answer. append, whatever is appended (an empty slice or nil, too), to a slice that the call owns: one law for the walks. Of no program. -/
import Derived.WalkKit
import Derived.WalkSpells
import Derived.WalkLawsBesides
import Derived.Lib.Hide
import Derived.Deep.QuietTactic
import Derived.BigQuiet
import Derived.LoopTactic
import Derived.Maps.OwnSet
import Derived.Maps.Ext
import Derived.Sort.KeysCollected
import Derived.Test.YtpfohfihkmjnaaaGreatDoorProg
import Derived.LaidEql
import Derived.Stop.Asserts
import Derived.RowKitTokens
import Derived.Stop.IfaceNil
import Derived.Outline
import Derived.Maps.AppendAt
import Derived.Deep.AppendSrc
import Derived.OwnWalk
namespace Go.Proofs.YtpfohfihkmjnaaaGreatDoor
open Go.RowKit

/-- The value v is a slice of l.length elements, each of sz cells, that read as enc says. -/
def At {α : Type} (enc : α → List Value) (sz : Nat) (w : World) (v : Value) (l : List α) : Prop :=
  ∃ a c b o, v = .slice a l.length c ∧ (0 < l.length → a = some ⟨b, o, none⟩) ∧ l.length ≤ c ∧ c ≤ maxLen ∧ ∀ k x, l[k]? = some x → ∀ j u, (enc x)[j]? = some u → w.cell? ⟨b, o + k * sz + j, none⟩ = some u

theorem At.nil {α : Type} (enc : α → List Value) (sz : Nat) (w : World) : At enc sz w (.slice none 0 0) [] :=
  ⟨none, 0, 0, 0, rfl, fun h => absurd h (by simp), Nat.le_refl _, by decide, fun k x h => by simp at h⟩

theorem At.below {α : Type} {enc : α → List Value} {sz : Nat} {w w' : World} {v : Value} {l : List α} (h : At enc sz w v l) (hb : Below w.heap.size w w') : At enc sz w' v l := by
  obtain ⟨a, c, b, o, hv, ha, hc, hm, hx⟩ := h
  refine ⟨a, c, b, o, hv, ha, hc, hm, fun k x hk j u hu => ?_⟩
  have h1 := hx k x hk j u hu
  exact (hb.cell (World.block_lt_of_cell? w _ h1)).trans h1

/-- Cells of one cell an element. -/
abbrev encI (n : Int) : List Value := [.int .i64 n]
abbrev Str := List UInt8
abbrev S (s : Str) : Value := .string ⟨s.toArray⟩
abbrev encS (s : Str) : List Value := [.string ⟨s.toArray⟩]
abbrev IntsAt (w : World) (v : Value) (l : List Int) : Prop := At encI 1 w v l
abbrev StrsAt (w : World) (v : Value) (l : List Str) : Prop := At encS 1 w v l

/-- The address of an element, in the walk's own form. -/
theorem idx_at {P : Program} {t e : TypeId} {a : Option Addr} {n c b o : Nat} (sz : Nat) (ht : P.underlying t = some (.slice e)) (hs : ∀ w, (sizeOf e).run P w = .ok sz w) (ha : 0 < n → a = some ⟨b, o, none⟩)
    (k : Nat) (hk : k < n) (w : World) : (Instr.indexAt t (.slice a n c) (.int .i64 (k : Int))).run P w = .ok (.pointer (some ⟨b, o + k * sz, none⟩)) w := by
  obtain rfl := ha (by omega)
  simp only [Instr.indexAt, asIntOf]
  have hadd : (⟨b, o, none⟩ : Addr).add (k * sz) = ⟨b, o + k * sz, none⟩ := by
    unfold Addr.add; split <;> simp_all
  simp [run_underlying ht, hs, hadd]
  intro h; omega

theorem Bdn {B : Nat} {a w : World} (h : Below B a w) (n : Nat) : Below B a (w.drewN n) := ⟨h.os, h.tape, h.output, h.size, h.block⟩
theorem bapp (a b : Str) : (⟨a.toArray⟩ : ByteArray) ++ ⟨b.toArray⟩ = ⟨(a ++ b).toArray⟩ := by
  apply ByteArray.ext
  simp
theorem get_ex {α : Type} {l : List α} {k : Nat} (h : k < l.length) : ∃ x, l[k]? = some x := ⟨l[k], by simp [h]⟩
end Go.Proofs.YtpfohfihkmjnaaaGreatDoor
namespace Go.Proofs.YtpfohfihkmjnaaaGreatDoor
open Go.RowKit Go.Maps Go.Sort

/-- An object: its name, its text, its day. -/
structure Ob where
  name : Str
  text : Str
  day : Int
  deriving DecidableEq

abbrev bef (a b : Str) : Bool := bytesBefore a b

/-- What a map of objects reads as. -/
abbrev obT (t : Str) (d : Int) : DataW Unit := .agg [.lit (.string t), .lit (.int .i64 d)]
abbrev obD (o : Ob) : Lit × DataW Unit := (.string o.name, obT o.text o.day)
def mapD (l : List Ob) : DataW Unit := .map (l.map obD)

def getO (l : List Ob) (n : Str) : Option Ob := l.find? (fun o => o.name == n)
def putO (x : Ob) : List Ob → List Ob
  | [] => [x]
  | a :: r => if bef x.name a.name then x :: a :: r else a :: putO x r
def dropO (l : List Ob) (n : Str) : List Ob := l.filter (fun o => !(o.name == n))
def Rising (l : List Ob) : Prop := l.Pairwise (fun a b => bef a.name b.name = true)
def total (l : List Ob) : Nat := (l.map (·.text.length)).sum

theorem mapD_nil : mapD [] = .map [] := rfl
theorem has_mapD (l : List Ob) (n : Str) : has (mapD l) (.string n) = (getO l n).isSome := by
  unfold mapD getO
  rw [has_eq]
  induction l with
  | nil => rfl
  | cons a r ih =>
    rw [List.map_cons, List.any_cons, ih, List.find?_cons]
    cases h : a.name == n with
    | true => simp [Lit.sameKey, h]
    | false => simp [Lit.sameKey, h]
theorem atKey_map (es : List (Lit × DataW Unit)) (k : Lit) (z : DataW Unit) : (DataW.map es).atKey k z = ((es.find? (fun p => p.1.sameKey k)).map (·.2)).getD z := by
  unfold DataW.atKey
  simp only
  cases es.find? (fun p => p.1.sameKey k) <;> rfl
theorem at_mapD (l : List Ob) (n : Str) (z : DataW Unit) : (mapD l).atKey (.string n) z = ((getO l n).map fun o => obT o.text o.day).getD z := by
  unfold mapD
  rw [atKey_map]
  unfold getO
  congr 1
  induction l with
  | nil => rfl
  | cons a r ih =>
    rw [List.map_cons, List.find?_cons, List.find?_cons]
    have : (obD a).1.sameKey (.string n) = (a.name == n) := rfl
    rw [this]
    cases h : a.name == n with
    | true => rfl
    | false => exact ih
theorem size_mapD (l : List Ob) : size (mapD l) = l.length := by unfold mapD; rw [size_eq, List.length_map]
theorem keys_mapD (l : List Ob) : strKeys (mapD l) = l.map (·.name) := by
  unfold mapD strKeys
  simp [strOf]
theorem insert_mapD (x : Ob) : ∀ l : List Ob, DataW.insert (obD x) (l.map obD) = (putO x l).map obD
  | [] => rfl
  | a :: r => by
    rw [List.map_cons, DataW.insert, putO]
    have : (obD x).1.before (obD a).1 = bef x.name a.name := rfl
    rw [this]
    cases bef x.name a.name with
    | true => rfl
    | false => simp only [Bool.false_eq_true, if_false, List.map_cons]; rw [insert_mapD x r]
theorem getO_none {l : List Ob} {n : Str} : getO l n = none ↔ ∀ o ∈ l, o.name ≠ n := by
  unfold getO; rw [List.find?_eq_none]; simp
theorem put_mapD {l : List Ob} {x : Ob} (h : getO l x.name = none) : (mapD l).put (.string x.name) (obT x.text x.day) = mapD (putO x l) := by
  unfold mapD DataW.put
  have : (l.map obD).filter (fun p => !p.1.sameKey (.string x.name)) = l.map obD := by
    rw [List.filter_eq_self]
    intro p hp
    obtain ⟨o, ho, rfl⟩ := List.mem_map.1 hp
    have := getO_none.1 h o ho
    simpa [obD, Lit.sameKey] using this
  simp only [this]
  exact congrArg DataW.map (insert_mapD x l)
theorem del_mapD (l : List Ob) (n : Str) : (mapD l).del (.string n) = mapD (dropO l n) := by
  unfold mapD DataW.del dropO
  simp only
  rw [List.filter_map]
  rfl

theorem putO_perm (x : Ob) : ∀ l : List Ob, (putO x l).Perm (x :: l)
  | [] => .refl _
  | a :: r => by
    unfold putO
    split
    · exact .refl _
    · exact ((putO_perm x r).cons a).trans (.swap _ _ _)
theorem putO_length (x : Ob) (l : List Ob) : (putO x l).length = l.length + 1 := by rw [(putO_perm x l).length_eq]; rfl
theorem mem_putO {x o : Ob} {l : List Ob} : o ∈ putO x l ↔ o = x ∨ o ∈ l := by rw [(putO_perm x l).mem_iff, List.mem_cons]
theorem total_putO (x : Ob) (l : List Ob) : total (putO x l) = total l + x.text.length := by
  unfold total
  rw [((putO_perm x l).map _).sum_nat, List.map_cons, List.sum_cons]; omega
theorem bef_irr (a : Str) : bef a a = false := WideAt.bytes_irrefl a
theorem bef_tri {a b : Str} (h : a ≠ b) (h2 : bef a b = false) : bef b a = true := by
  rcases WideAt.bytes_total a b h with h' | h'
  · have h2 : bytesBefore a b = false := h2
    rw [h2] at h'; cases h'
  · exact h'
theorem bef_trans {a b c : Str} (h : bef a b = true) (h2 : bef b c = true) : bef a c = true := WideShapes.bytes_trans a b c h h2
theorem putO_rising {x : Ob} : ∀ {l : List Ob}, Rising l → getO l x.name = none → Rising (putO x l)
  | [], _, _ => by simp [putO, Rising]
  | a :: r, h, hn => by
    have hn' := getO_none.1 hn
    have hr : Rising r := (List.pairwise_cons.1 h).2
    have ha := (List.pairwise_cons.1 h).1
    unfold putO
    split
    · rename_i hb
      exact List.pairwise_cons.2 ⟨fun o ho => by
        rcases List.mem_cons.1 ho with rfl | ho
        · exact hb
        · exact bef_trans hb (ha o ho), h⟩
    · rename_i hb
      refine List.pairwise_cons.2 ⟨fun o ho => ?_, putO_rising hr (getO_none.2 fun o ho => hn' o (List.mem_cons_of_mem _ ho))⟩
      rcases mem_putO.1 ho with rfl | ho
      · exact bef_tri (fun e => hn' a (List.mem_cons_self ..) e.symm) (by simpa using hb)
      · exact ha o ho
theorem dropO_rising {l : List Ob} (h : Rising l) (n : Str) : Rising (dropO l n) := h.filter _
theorem getO_mem {l : List Ob} {n : Str} {o : Ob} (h : getO l n = some o) : o ∈ l ∧ o.name = n := by
  unfold getO at h
  exact ⟨List.mem_of_find?_eq_some h, by simpa using List.find?_some h⟩
theorem Rising.apart {l : List Ob} (h : Rising l) : l.Pairwise (fun a b => a.name ≠ b.name) := h.imp fun {a b} hb e => by rw [e, bef_irr] at hb; cases hb
theorem getO_of_mem {l : List Ob} (h : Rising l) {o : Ob} (ho : o ∈ l) : getO l o.name = some o := by
  induction l with
  | nil => cases ho
  | cons a r ih =>
    have ha := (List.pairwise_cons.1 h.apart).1
    unfold getO
    rw [List.find?_cons]
    rcases List.mem_cons.1 ho with rfl | ho
    · simp
    · have : (a.name == o.name) = false := beq_eq_false_iff_ne.2 (ha o ho)
      rw [this]
      exact ih (List.pairwise_cons.1 h).2 ho
theorem getO_put_same {l : List Ob} (h : Rising l) {x : Ob} (hn : getO l x.name = none) : getO (putO x l) x.name = some x := getO_of_mem (putO_rising h hn) (mem_putO.2 (.inl rfl))
theorem getO_put_other {l : List Ob} (h : Rising l) {x : Ob} (hn : getO l x.name = none) {n : Str} (hne : n ≠ x.name) : getO (putO x l) n = getO l n := by
  cases hg : getO l n with
  | none =>
    refine getO_none.2 fun o ho => ?_
    rcases mem_putO.1 ho with rfl | ho
    · exact hne.symm
    · exact getO_none.1 hg o ho
  | some o =>
    obtain ⟨ho, rfl⟩ := getO_mem hg
    exact getO_of_mem (putO_rising h hn) (mem_putO.2 (.inr ho))
theorem getO_drop_same (l : List Ob) (n : Str) : getO (dropO l n) n = none := getO_none.2 fun o ho => by
  have := (List.mem_filter.1 ho).2; simpa using this
theorem getO_drop_other {l : List Ob} (h : Rising l) {n m : Str} (hne : m ≠ n) : getO (dropO l n) m = getO l m := by
  cases hg : getO l m with
  | none => exact getO_none.2 fun o ho => getO_none.1 hg o (List.mem_filter.1 ho).1
  | some o =>
    obtain ⟨ho, rfl⟩ := getO_mem hg
    exact getO_of_mem (dropO_rising h n) (List.mem_filter.2 ⟨ho, by simpa using hne⟩)
end Go.Proofs.YtpfohfihkmjnaaaGreatDoor
namespace Go.Proofs.YtpfohfihkmjnaaaGreatDoor
open Go.RowKit Go.Extern.Stop Go.Stop Go.Extern

/-- How many package-level variables there are: the block of the handles of types. -/
theorem as_nil (t : Value) (w : World) :
    Calls Tryz.prog 109 #[.nilIface, t] w fun e w' => e = .returned (.bool false) ∧ w = w' := by
  go_enter Tryz.func109, Tryz.ntmps109
  go_wp2
  go_ret
  exact ⟨rfl, rfl⟩

theorem Eas.valueOfPP (t : Addr) (w : World) : (ReflectliteValue.unpack (.iface 176 (.pointer (some t)))).run Tryz.prog w
    = .ok (.agg #[.pointer (some ⟨21, 176, none⟩), .pointer (some ⟨w.heap.size, 0, none⟩), .int .u64 150]) (w.alloc (.cells #[.pointer (some t)] 176)) := by kernel_rfl
theorem Eas.typePP (a : Addr) (w : World) : (ReflectliteValue.methodAny (ReflectliteValue.valueError "reflectlite.Value.Type" 0) (fun t _ _ _ => ReflectliteType.toType t) #[.agg #[.pointer (some ⟨21, 176, none⟩), .pointer (some a), .int .u64 150]]).run Tryz.prog w
    = .ok (.iface 250 (.agg #[.pointer (some ⟨21, 176, none⟩)])) w := by kernel_rfl
theorem Eas.methodKind (h : Value) (w : World) : (Go.method 455 250 (.agg #[h]) "Kind").run Tryz.prog w = .ok (263, h) w := by kernel_rfl
theorem Eas.kindPP (w : World) : ((ReflectliteType.abiMethod fun t => (fun a : Nat => Value.int IntKind.u8 (a : Int)) <$> Rtype.kind t) #[.pointer (some ⟨21, 176, none⟩)]).run Tryz.prog w = .ok (.int .u8 22) w := by kernel_rfl
theorem Eas.kindP (w : World) : ((ReflectliteType.abiMethod fun t => (fun a : Nat => Value.int IntKind.u8 (a : Int)) <$> Rtype.kind t) #[.pointer (some ⟨21, 100, none⟩)]).run Tryz.prog w = .ok (.int .u8 22) w := by kernel_rfl
theorem rlm (z : Sem Value) (f : TypeId → Addr → Nat → Nat → Sem Value) (v : Value) :
    ReflectliteValue.method z f #[v] = (do match ← ReflectliteValue.parts v with | none => z | some (t, a, fl) => f t a fl (fl % 32)) := rfl
theorem Eas.partsPP (a : Addr) (w : World) : (ReflectliteValue.parts (.agg #[.pointer (some ⟨21, 176, none⟩), .pointer (some a), .int .u64 150])).run Tryz.prog w = .ok (some (176, a, 150)) w := by kernel_rfl
theorem Eas.isNilPP (a p : Addr) (W : World) (ha : W.cell? a = some (.pointer (some p))) :
    (ReflectliteValue.method (ReflectliteValue.valueError "reflectlite.Value.IsNil" 0) ReflectliteValue.isNil #[.agg #[.pointer (some ⟨21, 176, none⟩), .pointer (some a), .int .u64 150]]).run Tryz.prog W = .ok (.bool false) W := by
  rw [rlm]
  simp only [Sem.run_bind, Eas.partsPP, Result.andThen]
  simp [ReflectliteValue.isNil, loadVar, isAgg, underlying, Tryz.underlying176, ha, Result.andThen]
theorem Eas.methodElem (h : Value) (w : World) : (Go.method 455 250 (.agg #[h]) "Elem").run Tryz.prog w = .ok (276, .agg #[h]) w := by kernel_rfl
theorem Eas.methodImplements (h : Value) (w : World) : (Go.method 455 250 (.agg #[h]) "Implements").run Tryz.prog w = .ok (277, .agg #[h]) w := by kernel_rfl
theorem Eas.methodAssignableTo (h : Value) (w : World) : (Go.method 455 250 (.agg #[h]) "AssignableTo").run Tryz.prog w = .ok (274, .agg #[h]) w := by kernel_rfl
theorem Eas.elemPP (w : World) : (ReflectliteType.method ReflectliteType.elem #[.agg #[.pointer (some ⟨21, 176, none⟩)]]).run Tryz.prog w = .ok (.iface 250 (.agg #[.pointer (some ⟨21, 100, none⟩)])) w := by kernel_rfl
theorem Eas.implementsP (w : World) : (ReflectliteType.relation "Implements" ReflectliteType.implements_ #[.agg #[.pointer (some ⟨21, 100, none⟩)], .iface 250 (.agg #[.pointer (some ⟨21, 35, none⟩)])]).run Tryz.prog w = .ok (.bool true) w := by kernel_rfl
theorem Eas.typeOfP (v : Value) (w : World) : (ReflectliteType.typeOf #[.iface 100 v]).run Tryz.prog w = .ok (.iface 250 (.agg #[.pointer (some ⟨21, 100, none⟩)])) w := by kernel_rfl
theorem Eas.typeOfE (v : Value) (w : World) : (ReflectliteType.typeOf #[.iface 320 v]).run Tryz.prog w = .ok (.iface 250 (.agg #[.pointer (some ⟨21, 320, none⟩)])) w := by kernel_rfl
theorem Eas.assignableP (w : World) : (ReflectliteType.relation "AssignableTo" ReflectliteType.assignableTo #[.agg #[.pointer (some ⟨21, 100, none⟩)], .iface 250 (.agg #[.pointer (some ⟨21, 100, none⟩)])]).run Tryz.prog w = .ok (.bool true) w := by kernel_rfl
theorem Eas.assignableE (w : World) : (ReflectliteType.relation "AssignableTo" ReflectliteType.assignableTo #[.agg #[.pointer (some ⟨21, 320, none⟩)], .iface 250 (.agg #[.pointer (some ⟨21, 100, none⟩)])]).run Tryz.prog w = .ok (.bool false) w := by kernel_rfl
theorem Eas.valueOfP (e : Addr) (w : World) : (ReflectliteValue.unpack (.iface 100 (.pointer (some e)))).run Tryz.prog w
    = .ok (.agg #[.pointer (some ⟨21, 100, none⟩), .pointer (some ⟨w.heap.size, 0, none⟩), .int .u64 150]) (w.alloc (.cells #[.pointer (some e)] 100)) := by kernel_rfl
theorem Eas.elemOfPP (w : World) : (Rtype.elem? 176).run Tryz.prog w = .ok (some 100) w := by kernel_rfl
theorem Eas.mkP (p : Addr) (w : World) : (ReflectliteValue.mk 100 p ReflectliteValue.flagAddr).run Tryz.prog w = .ok (.agg #[.pointer (some ⟨21, 100, none⟩), .pointer (some p), .int .u64 406]) w := by kernel_rfl
theorem Eas.elemVPP (a p : Addr) (W : World) (ha : W.cell? a = some (.pointer (some p))) :
    (ReflectliteValue.method (ReflectliteValue.valueError "reflectlite.Value.Elem" 0) ReflectliteValue.elem #[.agg #[.pointer (some ⟨21, 176, none⟩), .pointer (some a), .int .u64 150]]).run Tryz.prog W
      = .ok (.agg #[.pointer (some ⟨21, 100, none⟩), .pointer (some p), .int .u64 406]) W := by
  rw [rlm]
  simp only [Sem.run_bind, Eas.partsPP, Result.andThen]
  simp [ReflectliteValue.elem, loadVar, isAgg, underlying, Tryz.underlying176, ha, Result.andThen, Eas.elemOfPP, Eas.mkP]
theorem rls (v x : Value) : ReflectliteValue.set #[v, x] = (do
    let (some (dst, a, fl), some (src, b, _)) := (← ReflectliteValue.parts v, ← ReflectliteValue.parts x)
      | unsupported (.noEntry "extern/(internal/reflectlite.Value).Set.zeroValue")
    if fl / ReflectliteValue.flagAddr % 2 == 0 then unsupported (.noEntry "extern/(internal/reflectlite.Value).Set.unaddressable")
    let val ← loadVar src b
    if ← Rtype.directlyAssignable dst src then storeVar dst a val
    else if ← Rtype.implements dst src then
      if (← Rtype.kind src) == 20 then
        match val with
        | .nilIface => unsupported (.noEntry "extern/reflectlite: a nil value of one interface type handed on as a value of another")
        | _ => storeVar dst a val
      else storeVar dst a (.iface src val)
    else panicString ("reflectlite.Set: value of type " ++ (← Rtype.spelt src) ++ " is not assignable to type " ++ (← Rtype.spelt dst))
    pure (.tuple #[])) := rfl
theorem Eas.partsPa (a : Addr) (w : World) : (ReflectliteValue.parts (.agg #[.pointer (some ⟨21, 100, none⟩), .pointer (some a), .int .u64 406])).run Tryz.prog w = .ok (some (100, a, 406)) w := by kernel_rfl
theorem Eas.partsP (a : Addr) (w : World) : (ReflectliteValue.parts (.agg #[.pointer (some ⟨21, 100, none⟩), .pointer (some a), .int .u64 150])).run Tryz.prog w = .ok (some (100, a, 150)) w := by kernel_rfl
theorem Eas.directP (w : World) : (Rtype.directlyAssignable 100 100).run Tryz.prog w = .ok true w := by kernel_rfl
theorem Eas.setP (ta b e : Addr) (old : Value) (W : World) (hb : W.cell? b = some (.pointer (some e))) (ht : W.cell? ta = some old) (hf : W.frozen? ta = false) :
    (ReflectliteValue.set #[.agg #[.pointer (some ⟨21, 100, none⟩), .pointer (some ta), .int .u64 406], .agg #[.pointer (some ⟨21, 100, none⟩), .pointer (some b), .int .u64 150]]).run Tryz.prog W
      = .ok (.tuple #[]) (W.setCell ta (.pointer (some e))) := by
  rw [rls]
  simp only [Sem.run_bind, Eas.partsPa, Eas.partsP, Result.andThen]
  simp [ReflectliteValue.flagAddr, loadVar, isAgg, underlying, Tryz.underlying100, hb, Result.andThen, Eas.directP, storeVar, Value.cells, storeCells, Addr.add]
  rw [run_store Tryz.prog W ta _ _ (by rfl)]
  simp [ht, hf]
theorem Eas.noAsE (v : Value) (xT : TypeId) (w : World) : (Instr.typeAssert (.iface 320 v) xT 254 true).run Tryz.prog w = .ok (.tuple #[.nilIface, .bool false]) w := run_typeAssert_lacksB Tryz.underlying254 (by kernel_rfl) (by kernel_rfl) v xT w
theorem Eas.noUnwrapE (v : Value) (xT : TypeId) (w : World) : (Instr.typeAssert (.iface 320 v) xT 257 true).run Tryz.prog w = .ok (.tuple #[.nilIface, .bool false]) w := run_typeAssert_lacksB Tryz.underlying257 (by kernel_rfl) (by kernel_rfl) v xT w
theorem Eas.noUnwrapsE (v : Value) (xT : TypeId) (w : World) : (Instr.typeAssert (.iface 320 v) xT 259 true).run Tryz.prog w = .ok (.tuple #[.nilIface, .bool false]) w := run_typeAssert_lacksB Tryz.underlying259 (by kernel_rfl) (by kernel_rfl) v xT w
theorem Eas.noIsE (v : Value) (xT : TypeId) (w : World) : (Instr.typeAssert (.iface 320 v) xT 261 true).run Tryz.prog w = .ok (.tuple #[.nilIface, .bool false]) w := run_typeAssert_lacksB Tryz.underlying261 (by kernel_rfl) (by kernel_rfl) v xT w
theorem Eas.noIsW (v : Value) (xT : TypeId) (w : World) : (Instr.typeAssert (.iface 100 v) xT 261 true).run Tryz.prog w = .ok (.tuple #[.nilIface, .bool false]) w := run_typeAssert_lacksB Tryz.underlying261 (by kernel_rfl) (by kernel_rfl) v xT w
theorem Eas.hasUnwrapW (v : Value) (xT : TypeId) (w : World) : (Instr.typeAssert (.iface 100 v) xT 257 true).run Tryz.prog w = .ok (.tuple #[.iface 100 v, .bool true]) w := run_typeAssert_hasB Tryz.underlying257 (by kernel_rfl) v xT w
theorem Eas.methodUnwrap (v : Value) (w : World) : (Go.method 455 100 v "Unwrap").run Tryz.prog w = .ok (269, v) w := by kernel_rfl
theorem Eas.isComparable (w : World) : (callFunc 275 #[.agg #[.pointer (some ⟨21, 320, none⟩)]]).run Tryz.prog w = .ok (.value (.bool true)) w := by kernel_rfl
theorem Eas.isMethodComparable (v : Value) (w : World) : (Go.method 455 250 v "Comparable").run Tryz.prog w = .ok (275, v) w := by kernel_rfl
theorem Eas.isComp : (Tryz.prog.info? 320).map (·.comparable) = some true := by kernel_rfl
theorem Eas.isSize : (Tryz.prog.info? 322).map (·.size) = some 1 := by kernel_rfl
end Go.Proofs.YtpfohfihkmjnaaaGreatDoor
namespace Go.Proofs.YtpfohfihkmjnaaaGreatDoor
open Go.RowKit Go.Extern.Stop Go.Stop Go.Extern

set_option maxHeartbeats 4000000 in
/-- errors.As where the error is a Fault: it is set. -/
theorem as_hit (e t : Addr) (old : Value) (w : World) (hg : w.cell? ⟨13, 0, none⟩ = some (.iface 250 (.agg #[.pointer (some ⟨21, 35, none⟩)]))) (ht0 : w.cell? t = some old) (hf0 : w.frozen? t = false) :
    Calls Tryz.prog 109 #[.iface 100 (.pointer (some e)), .iface 176 (.pointer (some t))] w fun ev w' => ev = .returned (.bool true) ∧ w.grownBy w' (some t.block) ∧ w'.cell? t = some (.pointer (some e)) := by
  have h6 := @run_callFunc_extern Tryz.prog 151 _ (fun args => ReflectliteValue.unpack (args.getD 0 (.tuple #[]))) Tryz.func151 (by kernel_rfl) (by kernel_rfl) (by kernel_rfl) (by kernel_rfl)
  have h7 := @run_callFunc_extern Tryz.prog 152 _ (ReflectliteValue.methodAny (ReflectliteValue.valueError "reflectlite.Value.Type" 0) (fun t _ _ _ => ReflectliteType.toType t)) Tryz.func152 (by kernel_rfl) (by kernel_rfl) (by kernel_rfl) (by kernel_rfl)
  have h8 := @run_callFunc_extern Tryz.prog 153 _ (ReflectliteValue.method (ReflectliteValue.valueError "reflectlite.Value.IsNil" 0) ReflectliteValue.isNil) Tryz.func153 (by kernel_rfl) (by kernel_rfl) (by kernel_rfl) (by kernel_rfl)
  have h27 := @run_callFunc_extern Tryz.prog 263 _ (ReflectliteType.abiMethod fun t => do pure (.int .u8 (← Rtype.kind t))) Tryz.func263 (by kernel_rfl) (by kernel_rfl) (by kernel_rfl) (by kernel_rfl)
  have h37 := @run_callFunc_extern Tryz.prog 276 _ (ReflectliteType.method ReflectliteType.elem) Tryz.func276 (by kernel_rfl) (by kernel_rfl) (by kernel_rfl) (by kernel_rfl)
  have h38 := @run_callFunc_extern Tryz.prog 277 _ (ReflectliteType.relation "Implements" ReflectliteType.implements_) Tryz.func277 (by kernel_rfl) (by kernel_rfl) (by kernel_rfl) (by kernel_rfl)
  have h10 := @run_callFunc_extern Tryz.prog 155 _ ReflectliteType.typeOf Tryz.func155 (by kernel_rfl) (by kernel_rfl) (by kernel_rfl) (by kernel_rfl)
  have h35 := @run_callFunc_extern Tryz.prog 274 _ (ReflectliteType.relation "AssignableTo" ReflectliteType.assignableTo) Tryz.func274 (by kernel_rfl) (by kernel_rfl) (by kernel_rfl) (by kernel_rfl)
  have h11 := @run_callFunc_extern Tryz.prog 181 _ (ReflectliteValue.method (ReflectliteValue.valueError "reflectlite.Value.Elem" 0) ReflectliteValue.elem) Tryz.func181 (by kernel_rfl) (by kernel_rfl) (by kernel_rfl) (by kernel_rfl)
  have h12 := @run_callFunc_extern Tryz.prog 182 _ ReflectliteValue.set Tryz.func182 (by kernel_rfl) (by kernel_rfl) (by kernel_rfl) (by kernel_rfl)
  have tO := Eas.typeOfP
  have mA := Eas.methodAssignableTo
  have a25 := Eas.assignableP
  have v25 := Eas.valueOfP
  have f6 := Eas.valueOfPP
  have f7 := Eas.typePP
  have mK := Eas.methodKind
  have mE := Eas.methodElem
  have mI := Eas.methodImplements
  have k27 := Eas.kindPP
  have k25 := Eas.kindP
  have e27 := Eas.elemPP
  have i25 := Eas.implementsP
  have n8 := Eas.isNilPP ⟨w.heap.size, 0, none⟩ t ((w.alloc (.cells #[.pointer (some t)] 176)).alloc (.cells #[.pointer (some ⟨21, 176, none⟩), .pointer (some ⟨w.heap.size, 0, none⟩), .int .u64 150] 216)) (by simp)
  have hlt : 13 < w.heap.size := by
    have := World.block_lt_of_cell? w ⟨13, 0, none⟩ hg
    exact this
  have hg2 : ((w.alloc (.cells #[.pointer (some t)] 176)).alloc (.cells #[.pointer (some ⟨21, 176, none⟩), .pointer (some ⟨w.heap.size, 0, none⟩), .int .u64 150] 216)).cell? ⟨13, 0, none⟩ = some (.iface 250 (.agg #[.pointer (some ⟨21, 35, none⟩)])) := by
    rw [World.cell?_alloc_lt _ _ ⟨13, 0, none⟩ (by simp; omega), World.cell?_alloc_lt _ _ ⟨13, 0, none⟩ hlt]; exact hg
  have htl : t.block < w.heap.size := World.block_lt_of_cell? w t ht0
  have el := Eas.elemVPP ⟨w.heap.size, 0, none⟩ t (((w.alloc (.cells #[.pointer (some t)] 176)).alloc (.cells #[.pointer (some ⟨21, 176, none⟩), .pointer (some ⟨w.heap.size, 0, none⟩), .int .u64 150] 216)).alloc (.cells #[.pointer (some ⟨21, 176, none⟩), .pointer (some ⟨w.heap.size, 0, none⟩), .int .u64 150] 216)) (by rw [World.cell?_alloc_lt _ _ ⟨w.heap.size, 0, none⟩ (by simp; omega)]; simp)
  have st := Eas.setP t ⟨w.heap.size + 1 + 1 + 1, 0, none⟩ e old ((((w.alloc (.cells #[.pointer (some t)] 176)).alloc (.cells #[.pointer (some ⟨21, 176, none⟩), .pointer (some ⟨w.heap.size, 0, none⟩), .int .u64 150] 216)).alloc (.cells #[.pointer (some ⟨21, 176, none⟩), .pointer (some ⟨w.heap.size, 0, none⟩), .int .u64 150] 216)).alloc (.cells #[.pointer (some e)] 100))
    (by rw [World.cell?_alloc_at _ _ _ _ (by simp)]; rfl)
    (by rw [World.cell?_alloc_lt _ _ t (by simp; omega), World.cell?_alloc_lt _ _ t (by simp; omega), World.cell?_alloc_lt _ _ t (by simp; omega), World.cell?_alloc_lt _ _ t htl]; exact ht0)
    (by rw [World.frozen?_alloc_old _ _ t (by simp; omega), World.frozen?_alloc_old _ _ t (by simp; omega), World.frozen?_alloc_old _ _ t (by simp; omega), World.frozen?_alloc_old _ _ t (Nat.ne_of_lt htl)]; exact hf0)
  go_enter Tryz.func109, Tryz.ntmps109
  go_wp2
  refine wp_loop_rounds 1 ?_
  rw [rounds_succ]
  go_wp2
  go_ret
  refine ⟨rfl, ?_, World.cell?_setCell_same' _ _ _ (by rw [World.cell?_alloc_lt _ _ t (by simp; omega), World.cell?_alloc_lt _ _ t (by simp; omega), World.cell?_alloc_lt _ _ t (by simp; omega), World.cell?_alloc_lt _ _ t htl, ht0]; rfl)⟩
  have hb : Below w.heap.size w ((((w.alloc (.cells #[.pointer (some t)] 176)).alloc (.cells #[.pointer (some ⟨21, 176, none⟩), .pointer (some ⟨w.heap.size, 0, none⟩), .int .u64 150] 216)).alloc (.cells #[.pointer (some ⟨21, 176, none⟩), .pointer (some ⟨w.heap.size, 0, none⟩), .int .u64 150] 216)).alloc (.cells #[.pointer (some e)] 100)) :=
    ((((Below.refl _ _).alloc (Nat.le_refl _) _).alloc (by simp) _).alloc (by simp; omega) _).alloc (by simp; omega) _
  exact ⟨hb.os, hb.tape, hb.output, by simpa [World.setCell] using hb.size, fun k hk hne => (Below.heap_setCell _ _ _ _ (fun h => hne (by rw [h]))).trans (hb.block k hk)⟩

set_option maxHeartbeats 4000000 in
/-- errors.As where the error is a plain one of errors.New's make: nothing is set. -/
theorem as_miss (e t : Addr) (w : World) (hg : w.cell? ⟨13, 0, none⟩ = some (.iface 250 (.agg #[.pointer (some ⟨21, 35, none⟩)]))) :
    Calls Tryz.prog 109 #[.iface 320 (.pointer (some e)), .iface 176 (.pointer (some t))] w fun ev w' => ev = .returned (.bool false) ∧ Below w.heap.size w w' := by
  have h6 := @run_callFunc_extern Tryz.prog 151 _ (fun args => ReflectliteValue.unpack (args.getD 0 (.tuple #[]))) Tryz.func151 (by kernel_rfl) (by kernel_rfl) (by kernel_rfl) (by kernel_rfl)
  have h7 := @run_callFunc_extern Tryz.prog 152 _ (ReflectliteValue.methodAny (ReflectliteValue.valueError "reflectlite.Value.Type" 0) (fun t _ _ _ => ReflectliteType.toType t)) Tryz.func152 (by kernel_rfl) (by kernel_rfl) (by kernel_rfl) (by kernel_rfl)
  have h8 := @run_callFunc_extern Tryz.prog 153 _ (ReflectliteValue.method (ReflectliteValue.valueError "reflectlite.Value.IsNil" 0) ReflectliteValue.isNil) Tryz.func153 (by kernel_rfl) (by kernel_rfl) (by kernel_rfl) (by kernel_rfl)
  have h27 := @run_callFunc_extern Tryz.prog 263 _ (ReflectliteType.abiMethod fun t => do pure (.int .u8 (← Rtype.kind t))) Tryz.func263 (by kernel_rfl) (by kernel_rfl) (by kernel_rfl) (by kernel_rfl)
  have h37 := @run_callFunc_extern Tryz.prog 276 _ (ReflectliteType.method ReflectliteType.elem) Tryz.func276 (by kernel_rfl) (by kernel_rfl) (by kernel_rfl) (by kernel_rfl)
  have h38 := @run_callFunc_extern Tryz.prog 277 _ (ReflectliteType.relation "Implements" ReflectliteType.implements_) Tryz.func277 (by kernel_rfl) (by kernel_rfl) (by kernel_rfl) (by kernel_rfl)
  have h10 := @run_callFunc_extern Tryz.prog 155 _ ReflectliteType.typeOf Tryz.func155 (by kernel_rfl) (by kernel_rfl) (by kernel_rfl) (by kernel_rfl)
  have h35 := @run_callFunc_extern Tryz.prog 274 _ (ReflectliteType.relation "AssignableTo" ReflectliteType.assignableTo) Tryz.func274 (by kernel_rfl) (by kernel_rfl) (by kernel_rfl) (by kernel_rfl)
  have tO := Eas.typeOfE
  have mA := Eas.methodAssignableTo
  have a25 := Eas.assignableE
  have f6 := Eas.valueOfPP
  have f7 := Eas.typePP
  have mK := Eas.methodKind
  have mE := Eas.methodElem
  have mI := Eas.methodImplements
  have k27 := Eas.kindPP
  have k25 := Eas.kindP
  have e27 := Eas.elemPP
  have i25 := Eas.implementsP
  have nA := Eas.noAsE
  have nU := Eas.noUnwrapE
  have nV := Eas.noUnwrapsE
  have n8 := Eas.isNilPP ⟨w.heap.size, 0, none⟩ t ((w.alloc (.cells #[.pointer (some t)] 176)).alloc (.cells #[.pointer (some ⟨21, 176, none⟩), .pointer (some ⟨w.heap.size, 0, none⟩), .int .u64 150] 216)) (by simp)
  have hlt : 13 < w.heap.size := by
    have := World.block_lt_of_cell? w ⟨13, 0, none⟩ hg
    exact this
  have hg2 : ((w.alloc (.cells #[.pointer (some t)] 176)).alloc (.cells #[.pointer (some ⟨21, 176, none⟩), .pointer (some ⟨w.heap.size, 0, none⟩), .int .u64 150] 216)).cell? ⟨13, 0, none⟩ = some (.iface 250 (.agg #[.pointer (some ⟨21, 35, none⟩)])) := by
    rw [World.cell?_alloc_lt _ _ ⟨13, 0, none⟩ (by simp; omega), World.cell?_alloc_lt _ _ ⟨13, 0, none⟩ hlt]; exact hg
  go_enter Tryz.func109, Tryz.ntmps109
  go_wp2
  refine wp_loop_rounds 1 ?_
  rw [rounds_succ]
  go_wp2
  go_ret
  exact ⟨rfl, by repeat (first | exact Below.refl _ _ | (refine Below.alloc ?_ (by simp; try omega) _))⟩

/-- errors.Is(x, x), x a pointer to an errors.errorString. -/
theorem is_same (a : Addr) (w : World) :
    Calls Tryz.prog 110 #[.iface 320 (.pointer (some a)), .iface 320 (.pointer (some a))] w fun e w' => e = .returned (.bool true) ∧ w = w' := by
  obtain ⟨i, hi, hcmp⟩ := Option.map_eq_some_iff.1 Eas.isComp
  obtain ⟨j, hj, hjs⟩ := Option.map_eq_some_iff.1 Eas.isSize
  have h8 := @run_callFunc_extern Tryz.prog 155 _ Extern.ReflectliteType.typeOf Tryz.func155 (by kernel_rfl) (by kernel_rfl) (by kernel_rfl) (by kernel_rfl)
  have tT := Eas.typeOfE
  have cT := Eas.isComparable
  have mR := Eas.isMethodComparable
  have heq := run_eql_iface_ptr_same (P := Tryz.prog) w a Tryz.underlying35 Tryz.underlying320 hi hcmp hj
  go_enter Tryz.func110, Tryz.ntmps110
  go_wp2
  refine wp_loop_rounds 1 ?_
  rw [rounds_succ]
  go_wp2
  go_ret
  exact ⟨rfl, rfl⟩

/-- errors.Is(x, y), two different pointers to errors.errorString: neither has Is nor Unwrap: false. -/
theorem is_other (a b : Addr) (ca cb : Array Value) (ta tb : TypeId) (w : World) (hne : a ≠ b) (ha : w.heap[a.block]? = some (.cells ca ta (0, 0))) (hb : w.heap[b.block]? = some (.cells cb tb (0, 0))) :
    Calls Tryz.prog 110 #[.iface 320 (.pointer (some a)), .iface 320 (.pointer (some b))] w fun e w' => e = .returned (.bool false) ∧ w = w' := by
  obtain ⟨i, hi, hcmp⟩ := Option.map_eq_some_iff.1 Eas.isComp
  obtain ⟨j, hj, hjs⟩ := Option.map_eq_some_iff.1 Eas.isSize
  have h8 := @run_callFunc_extern Tryz.prog 155 _ Extern.ReflectliteType.typeOf Tryz.func155 (by kernel_rfl) (by kernel_rfl) (by kernel_rfl) (by kernel_rfl)
  have tT := Eas.typeOfE
  have cT := Eas.isComparable
  have mR := Eas.isMethodComparable
  have nE := Eas.noIsE
  have uE := Eas.noUnwrapE
  have vE := Eas.noUnwrapsE
  have heq := run_eql_iface_ptr_other (P := Tryz.prog) w Tryz.underlying35 Tryz.underlying320 hi hcmp hj (by rw [hjs]; decide) hne ha hb
  go_enter Tryz.func110, Tryz.ntmps110
  go_wp2
  refine wp_loop_rounds 1 ?_
  rw [rounds_succ]
  go_wp2
  go_ret
  exact ⟨rfl, rfl⟩

/-- errors.Is(e, x), e a Fault around x itself: one Unwrap, then equal. -/
theorem is_wrap_same (pb po : Nat) (b : Addr) (w : World) (h1 : w.cell? ⟨pb, po + 1, none⟩ = some (.iface 320 (.pointer (some b)))) :
    Calls Tryz.prog 110 #[.iface 100 (.pointer (some ⟨pb, po, none⟩)), .iface 320 (.pointer (some b))] w fun e w' => e = .returned (.bool true) ∧ w = w' := by
  obtain ⟨i, hi, hcmp⟩ := Option.map_eq_some_iff.1 Eas.isComp
  obtain ⟨j, hj, hjs⟩ := Option.map_eq_some_iff.1 Eas.isSize
  have h8 := @run_callFunc_extern Tryz.prog 155 _ Extern.ReflectliteType.typeOf Tryz.func155 (by kernel_rfl) (by kernel_rfl) (by kernel_rfl) (by kernel_rfl)
  have tT := Eas.typeOfE
  have cT := Eas.isComparable
  have mR := Eas.isMethodComparable
  have nW := Eas.noIsW
  have uW := Eas.hasUnwrapW
  have mU := Eas.methodUnwrap
  have heq := run_eql_iface_ptr_same (P := Tryz.prog) w b Tryz.underlying35 Tryz.underlying320 hi hcmp hj
  have hty := run_eql_iface_types (P := Tryz.prog) 100 320 (.pointer (some ⟨pb, po, none⟩)) (.pointer (some b)) Tryz.underlying35 (by decide) w
  go_enter Tryz.func110, Tryz.ntmps110
  go_wp2
  refine wp_loop_rounds 2 ?_
  rw [rounds_succ]
  go_wp2
  rw [rounds_succ]
  go_wp2
  go_ret
  exact ⟨rfl, rfl⟩

/-- errors.Is(e, x), e a Fault around another error of errors.New's make. -/
theorem is_wrap_other (pb po : Nat) (b a : Addr) (ca cb : Array Value) (ta tb : TypeId) (w : World) (h1 : w.cell? ⟨pb, po + 1, none⟩ = some (.iface 320 (.pointer (some a)))) (hne : a ≠ b) (ha : w.heap[a.block]? = some (.cells ca ta (0, 0))) (hb : w.heap[b.block]? = some (.cells cb tb (0, 0))) :
    Calls Tryz.prog 110 #[.iface 100 (.pointer (some ⟨pb, po, none⟩)), .iface 320 (.pointer (some b))] w fun e w' => e = .returned (.bool false) ∧ w = w' := by
  obtain ⟨i, hi, hcmp⟩ := Option.map_eq_some_iff.1 Eas.isComp
  obtain ⟨j, hj, hjs⟩ := Option.map_eq_some_iff.1 Eas.isSize
  have h8 := @run_callFunc_extern Tryz.prog 155 _ Extern.ReflectliteType.typeOf Tryz.func155 (by kernel_rfl) (by kernel_rfl) (by kernel_rfl) (by kernel_rfl)
  have tT := Eas.typeOfE
  have cT := Eas.isComparable
  have mR := Eas.isMethodComparable
  have nE := Eas.noIsE
  have uE := Eas.noUnwrapE
  have vE := Eas.noUnwrapsE
  have nW := Eas.noIsW
  have uW := Eas.hasUnwrapW
  have mU := Eas.methodUnwrap
  have heq := run_eql_iface_ptr_other (P := Tryz.prog) w Tryz.underlying35 Tryz.underlying320 hi hcmp hj (by rw [hjs]; decide) hne ha hb
  have hty := run_eql_iface_types (P := Tryz.prog) 100 320 (.pointer (some ⟨pb, po, none⟩)) (.pointer (some b)) Tryz.underlying35 (by decide) w
  go_enter Tryz.func110, Tryz.ntmps110
  go_wp2
  refine wp_loop_rounds 2 ?_
  rw [rounds_succ]
  go_wp2
  rw [rounds_succ]
  go_wp2
  go_ret
  exact ⟨rfl, rfl⟩
end Go.Proofs.YtpfohfihkmjnaaaGreatDoor
namespace Go.Proofs.YtpfohfihkmjnaaaGreatDoor
open Go.RowKit

theorem isIfaceE : Tryz.prog.isIface 35 = true := by kernel_rfl

/-- The global's number of an error's number. -/
def errG : Nat → Nat
  | 1 => 9 | 2 => 0 | 3 => 1 | 4 => 8 | 5 => 3 | 6 => 2
  | 7 => 5 | 8 => 6 | 9 => 7 | 10 => 10 | 11 => 11 | _ => 4

/-- The sentinels of the numbers D lie in the world w below block B, each behind the address E says. -/
structure Errs (D : List Nat) (E : Nat → Addr) (B : Nat) (w : World) : Prop where
  var : ∀ c ∈ D, w.cell? ⟨errG c, 0, none⟩ = some (.iface 320 (.pointer (some (E c))))
  row : ∀ c ∈ D, ∃ cs t, w.heap[(E c).block]? = some (.cells cs t (0, 0))
  lt : ∀ c ∈ D, (E c).block < B ∧ errG c < B
  inj : ∀ c ∈ D, ∀ d ∈ D, E c = E d → c = d
  le : B ≤ w.heap.size

theorem Errs.sub {D D' : List Nat} {E B w} (h : Errs D E B w) (hs : ∀ c ∈ D', c ∈ D) : Errs D' E B w :=
  ⟨fun c hc => h.var c (hs c hc), fun c hc => h.row c (hs c hc), fun c hc => h.lt c (hs c hc), fun c hc d hd => h.inj c (hs c hc) d (hs d hd), h.le⟩
theorem Errs.below {D : List Nat} {E B w w'} (h : Errs D E B w) (hb : Below B w w') : Errs D E B w' :=
  ⟨fun c hc => (hb.cell (p := ⟨errG c, 0, none⟩) (h.lt c hc).2).trans (h.var c hc), fun c hc => let ⟨cs, t, e⟩ := h.row c hc; ⟨cs, t, (hb.block _ (h.lt c hc).1).trans e⟩, h.lt, h.inj, Nat.le_trans h.le hb.size⟩
theorem Errs.below' {D : List Nat} {E B w w' B'} (h : Errs D E B w) (hb : Below B' w w') (hB : B ≤ B') : Errs D E B w' := h.below (hb.mono hB)

/-- The numbers of all errors. -/
abbrev allE : List Nat := [1, 2, 3, 4, 5, 6, 7, 8, 9, 10, 11, 12]
theorem mem_allE {c : Nat} : c ∈ allE ↔ 1 ≤ c ∧ c ≤ 12 := by
  simp only [allE, List.mem_cons, List.mem_nil_iff, or_false]; omega

/-- What errors.As reads. -/
def AsVar (w : World) : Prop := w.cell? ⟨13, 0, none⟩ = some (.iface 250 (.agg #[.pointer (some ⟨21, 35, none⟩)]))
theorem AsVar.below {B w w'} (h : AsVar w) (hb : Below B w w') (hB : 13 < B) : AsVar w' := (hb.cell (p := ⟨13, 0, none⟩) hB).trans h

theorem code_nil (w : World) : Calls Tryz.prog 66 #[.nilIface] w fun e w' => e = .returned (.tuple #[.int .i64 0, .int .i64 (-1)]) ∧ w = w' := by
  have hn : (binOp .eql 35 .nilIface .nilIface).run Tryz.prog w = .ok (.bool true) w := by kernel_rfl
  go_enter Tryz.func66, Tryz.ntmps66
  go_wp2
  go_ret2
  exact ⟨rfl, rfl⟩

/-- The slice of all sentinels, cell by cell. -/
theorem sent_cells (E : Nat → Addr) (k : Nat) (hk : k < 12) (w : World) (t : TypeId) :
    (w.alloc (.cells #[.iface 320 (.pointer (some (E 1))), .iface 320 (.pointer (some (E 2))), .iface 320 (.pointer (some (E 3))), .iface 320 (.pointer (some (E 4))), .iface 320 (.pointer (some (E 5))), .iface 320 (.pointer (some (E 6))), .iface 320 (.pointer (some (E 7))), .iface 320 (.pointer (some (E 8))), .iface 320 (.pointer (some (E 9))), .iface 320 (.pointer (some (E 10))), .iface 320 (.pointer (some (E 11))), .iface 320 (.pointer (some (E 12)))] t)).cell? ⟨w.heap.size, k, none⟩
      = some (.iface 320 (.pointer (some (E (k + 1))))) := by
  have : k = 0 ∨ k = 1 ∨ k = 2 ∨ k = 3 ∨ k = 4 ∨ k = 5 ∨ k = 6 ∨ k = 7 ∨ k = 8 ∨ k = 9 ∨ k = 10 ∨ k = 11 := by omega
  rcases this with rfl | rfl | rfl | rfl | rfl | rfl | rfl | rfl | rfl | rfl | rfl | rfl <;> simp

set_option maxHeartbeats 1000000 in
theorem code_sent (E : Nat → Addr) (B : Nat) (c : Nat) (h1 : 1 ≤ c) (h12 : c ≤ 12) (w : World) (hE : Errs allE E B w) (hA : AsVar w) :
    Calls Tryz.prog 66 #[.iface 320 (.pointer (some (E c)))] w fun e w' => e = .returned (.tuple #[.int .i64 c, .int .i64 (-1)]) ∧ Below w.heap.size w w' := by
  have hif := isIfaceE
  have hA1 : ∀ o, AsVar (w.alloc o) := fun o => hA.below (B := w.heap.size) ((Below.refl _ _).alloc (Nat.le_refl _) _) (World.block_lt_of_cell? w ⟨13, 0, none⟩ hA)
  go_enter Tryz.func66, Tryz.ntmps66
  go_wp2_with fail
  refine (as_miss _ _ _ (hA1 _)).mono ?_
  rintro e w1 ⟨rfl, hb⟩
  have hb1 : Below w.heap.size w w1 := ((Below.refl _ _).alloc (Nat.le_refl _) _).trans (hb.mono (by simp))
  have hE1 := hE.below' hb1 hE.le
  have v1 := hE1.var 1 (by decide)
  have v2 := hE1.var 2 (by decide)
  have v3 := hE1.var 3 (by decide)
  have v4 := hE1.var 4 (by decide)
  have v5 := hE1.var 5 (by decide)
  have v6 := hE1.var 6 (by decide)
  have v7 := hE1.var 7 (by decide)
  have v8 := hE1.var 8 (by decide)
  have v9 := hE1.var 9 (by decide)
  have v10 := hE1.var 10 (by decide)
  have v11 := hE1.var 11 (by decide)
  have v12 := hE1.var 12 (by decide)
  simp only [errG] at v1 v2 v3 v4 v5 v6 v7 v8 v9 v10 v11 v12
  go_wp2_with fail
  have hcell := fun k hk => sent_cells E k hk w1 35
  have hb2 : Below w.heap.size w (w1.alloc _) := hb1.alloc hb1.size (.cells #[.iface 320 (.pointer (some (E 1))), .iface 320 (.pointer (some (E 2))), .iface 320 (.pointer (some (E 3))), .iface 320 (.pointer (some (E 4))), .iface 320 (.pointer (some (E 5))), .iface 320 (.pointer (some (E 6))), .iface 320 (.pointer (some (E 7))), .iface 320 (.pointer (some (E 8))), .iface 320 (.pointer (some (E 9))), .iface 320 (.pointer (some (E 10))), .iface 320 (.pointer (some (E 11))), .iface 320 (.pointer (some (E 12)))] 35)
  clear v1 v2 v3 v4 v5 v6 v7 v8 v9 v10 v11 v12
  generalize hW2 : w1.alloc (.cells _ _) = W2 at hcell hb2 ⊢
  clear hW2
  have hE2 := hE.below' hb2 hE.le
  go_loop [3, 30] (fun a i => ∃ k : Nat, k < c ∧ i = .int .i64 k ∧ a = .int .i64 (-1)) (fun _ i => 12 - (intOf i).toNat)
  case atStart => exact ⟨0, by omega, rfl, rfl⟩
  case round =>
    obtain ⟨k, hk, rfl, rfl⟩ := hrel
    have hc := hcell k (by omega)
    have hlt : (k : Int) < 12 := by omega
    clear hcell
    obtain ⟨ca, ta', ha⟩ := hE2.row c (mem_allE.2 ⟨h1, h12⟩)
    obtain ⟨cb, tb', hb'⟩ := hE2.row (k + 1) (mem_allE.2 ⟨by omega, by omega⟩)
    have H2 := Lib.hid ha; clear ha
    have H3 := Lib.hid hb'; clear hb'
    by_cases he : k + 1 = c
    · subst he
      go_wp2_with (go_at_call 110; refine (is_same _ _).mono ?_; rintro e w' ⟨rfl, rfl⟩)
      go_ret2
      exact ⟨by simp, hb2⟩
    · have hne : E c ≠ E (k + 1) := fun h => he (hE2.inj _ (mem_allE.2 ⟨h1, h12⟩) _ (mem_allE.2 ⟨by omega, by omega⟩) h).symm
      go_wp2_with (go_at_call 110; refine (is_other _ _ _ _ _ _ _ hne H2.out H3.out).mono ?_; rintro e w' ⟨rfl, rfl⟩)
      go_round
      case rel => exact ⟨k + 1, by omega, by go_num, rfl⟩
      case measure => simp [intOf]; omega

set_option maxHeartbeats 1000000 in
/-- Another error of errors.New's make. -/
theorem code_else (E : Nat → Addr) (B : Nat) (a : Addr) (ca : Array Value) (ta : TypeId) (w : World) (hE : Errs allE E B w) (hA : AsVar w) (ha : w.heap[a.block]? = some (.cells ca ta (0, 0))) (hlt : B ≤ a.block) :
    Calls Tryz.prog 66 #[.iface 320 (.pointer (some a))] w fun e w' => e = .returned (.tuple #[.int .i64 (-1), .int .i64 (-1)]) ∧ Below w.heap.size w w' := by
  have hif := isIfaceE
  have hA1 : ∀ o, AsVar (w.alloc o) := fun o => hA.below (B := w.heap.size) ((Below.refl _ _).alloc (Nat.le_refl _) _) (World.block_lt_of_cell? w ⟨13, 0, none⟩ hA)
  have hal : a.block < w.heap.size := by
    rcases Nat.lt_or_ge a.block w.heap.size with h | h
    · exact h
    · simp [Array.getElem?_eq_none h] at ha
  have Ha := Lib.hid ha; clear ha
  go_enter Tryz.func66, Tryz.ntmps66
  go_wp2_with fail
  refine (as_miss _ _ _ (hA1 _)).mono ?_
  rintro e w1 ⟨rfl, hb⟩
  have hb1 : Below w.heap.size w w1 := ((Below.refl _ _).alloc (Nat.le_refl _) _).trans (hb.mono (by simp))
  have hE1 := hE.below' hb1 hE.le
  have v1 := hE1.var 1 (by decide)
  have v2 := hE1.var 2 (by decide)
  have v3 := hE1.var 3 (by decide)
  have v4 := hE1.var 4 (by decide)
  have v5 := hE1.var 5 (by decide)
  have v6 := hE1.var 6 (by decide)
  have v7 := hE1.var 7 (by decide)
  have v8 := hE1.var 8 (by decide)
  have v9 := hE1.var 9 (by decide)
  have v10 := hE1.var 10 (by decide)
  have v11 := hE1.var 11 (by decide)
  have v12 := hE1.var 12 (by decide)
  simp only [errG] at v1 v2 v3 v4 v5 v6 v7 v8 v9 v10 v11 v12
  go_wp2_with fail
  have hcell := fun k hk => sent_cells E k hk w1 35
  have hb2 : Below w.heap.size w (w1.alloc _) := hb1.alloc hb1.size (.cells #[.iface 320 (.pointer (some (E 1))), .iface 320 (.pointer (some (E 2))), .iface 320 (.pointer (some (E 3))), .iface 320 (.pointer (some (E 4))), .iface 320 (.pointer (some (E 5))), .iface 320 (.pointer (some (E 6))), .iface 320 (.pointer (some (E 7))), .iface 320 (.pointer (some (E 8))), .iface 320 (.pointer (some (E 9))), .iface 320 (.pointer (some (E 10))), .iface 320 (.pointer (some (E 11))), .iface 320 (.pointer (some (E 12)))] 35)
  clear v1 v2 v3 v4 v5 v6 v7 v8 v9 v10 v11 v12
  generalize hW2 : w1.alloc (.cells _ _) = W2 at hcell hb2 ⊢
  clear hW2
  have hE2 := hE.below' hb2 hE.le
  have Ha2 : Hid (W2.heap[a.block]? = some (.cells ca ta (0, 0))) := (hb2.block _ hal).trans Ha.out
  go_loop [3, 30] (fun a i => ∃ k : Nat, k ≤ 12 ∧ i = .int .i64 k ∧ a = .int .i64 (-1)) (fun _ i => 12 - (intOf i).toNat)
  case atStart => exact ⟨0, by omega, rfl, rfl⟩
  case round =>
    obtain ⟨k, hk, rfl, rfl⟩ := hrel
    by_cases hlt' : k < 12
    · have hc := hcell k (by omega)
      have hlt2 : (k : Int) < 12 := by omega
      clear hcell
      obtain ⟨cb, tb', hb'⟩ := hE2.row (k + 1) (mem_allE.2 ⟨by omega, by omega⟩)
      have H3 := Lib.hid hb'; clear hb'
      have hne : a ≠ E (k + 1) := fun h => by have := (hE2.lt (k + 1) (mem_allE.2 ⟨by omega, by omega⟩)).1; rw [← h] at this; omega
      go_wp2_with (go_at_call 110; refine (is_other _ _ _ _ _ _ _ hne Ha2.out H3.out).mono ?_; rintro e w' ⟨rfl, rfl⟩)
      go_round
      case rel => exact ⟨k + 1, by omega, by go_num, rfl⟩
      case measure => simp [intOf]; omega
    · obtain rfl : k = 12 := by omega
      clear hcell
      go_wp2
      go_ret2
      exact ⟨rfl, hb2⟩

set_option maxHeartbeats 1000000 in
/-- A Fault around a sentinel. -/
theorem code_fault (E : Nat → Addr) (B : Nat) (c : Nat) (h1 : 1 ≤ c) (h12 : c ≤ 12) (at_ : Int) (fb : Nat) (w : World) (hE : Errs allE E B w) (hA : AsVar w) (hat : w.cell? ⟨fb, 0, none⟩ = some (.int .i64 at_)) (her : w.cell? ⟨fb, 1, none⟩ = some (.iface 320 (.pointer (some (E c))))) :
    Calls Tryz.prog 66 #[.iface 100 (.pointer (some ⟨fb, 0, none⟩))] w fun e w' => e = .returned (.tuple #[.int .i64 c, .int .i64 at_]) ∧ Below w.heap.size w w' := by
  have hif := isIfaceE
  have hA1 : ∀ o, AsVar (w.alloc o) := fun o => hA.below (B := w.heap.size) ((Below.refl _ _).alloc (Nat.le_refl _) _) (World.block_lt_of_cell? w ⟨13, 0, none⟩ hA)
  have hfb : fb < w.heap.size := World.block_lt_of_cell? w ⟨fb, 0, none⟩ hat
  go_enter Tryz.func66, Tryz.ntmps66
  go_wp2_with fail
  refine (as_hit _ _ (.pointer none) _ (hA1 _) (by simp) (by simp)).mono ?_
  rintro e w1 ⟨rfl, hg, hf⟩
  have hb1 : Below w.heap.size w w1 := ((Below.refl _ _).alloc (Nat.le_refl _) _).grown hg (by simp) (fun k hk => by cases hk; exact Nat.le_refl _)
  have hf : w1.cell? ⟨w.heap.size, 0, none⟩ = some (.pointer (some ⟨fb, 0, none⟩)) := hf
  have hat1 := (hb1.cell (p := ⟨fb, 0, none⟩) hfb).trans hat
  have her1 := (hb1.cell (p := ⟨fb, 1, none⟩) hfb).trans her
  have hE1 := hE.below' hb1 hE.le
  have v1 := hE1.var 1 (by decide)
  have v2 := hE1.var 2 (by decide)
  have v3 := hE1.var 3 (by decide)
  have v4 := hE1.var 4 (by decide)
  have v5 := hE1.var 5 (by decide)
  have v6 := hE1.var 6 (by decide)
  have v7 := hE1.var 7 (by decide)
  have v8 := hE1.var 8 (by decide)
  have v9 := hE1.var 9 (by decide)
  have v10 := hE1.var 10 (by decide)
  have v11 := hE1.var 11 (by decide)
  have v12 := hE1.var 12 (by decide)
  simp only [errG] at v1 v2 v3 v4 v5 v6 v7 v8 v9 v10 v11 v12
  go_wp2_with fail
  have hcell := fun k hk => sent_cells E k hk w1 35
  have hb2 : Below w.heap.size w (w1.alloc _) := hb1.alloc hb1.size (.cells #[.iface 320 (.pointer (some (E 1))), .iface 320 (.pointer (some (E 2))), .iface 320 (.pointer (some (E 3))), .iface 320 (.pointer (some (E 4))), .iface 320 (.pointer (some (E 5))), .iface 320 (.pointer (some (E 6))), .iface 320 (.pointer (some (E 7))), .iface 320 (.pointer (some (E 8))), .iface 320 (.pointer (some (E 9))), .iface 320 (.pointer (some (E 10))), .iface 320 (.pointer (some (E 11))), .iface 320 (.pointer (some (E 12)))] 35)
  clear v1 v2 v3 v4 v5 v6 v7 v8 v9 v10 v11 v12 hat1 hf
  generalize hW2 : w1.alloc (.cells _ _) = W2 at hcell hb2 ⊢
  clear hW2
  have hE2 := hE.below' hb2 hE.le
  have her2 := (hb2.cell (p := ⟨fb, 1, none⟩) hfb).trans her
  have H4 := Lib.hid her2; clear her2 her her1 hat
  go_loop [3, 30] (fun a i => ∃ k : Nat, k < c ∧ i = .int .i64 k ∧ a = .int .i64 at_) (fun _ i => 12 - (intOf i).toNat)
  case atStart => exact ⟨0, by omega, rfl, rfl⟩
  case round =>
    obtain ⟨k, hk, rfl, rfl⟩ := hrel
    have hc := hcell k (by omega)
    have hlt : (k : Int) < 12 := by omega
    clear hcell
    obtain ⟨ca, ta', ha⟩ := hE2.row c (mem_allE.2 ⟨h1, h12⟩)
    obtain ⟨cb, tb', hb'⟩ := hE2.row (k + 1) (mem_allE.2 ⟨by omega, by omega⟩)
    have H2 := Lib.hid ha; clear ha
    have H3 := Lib.hid hb'; clear hb'
    by_cases he : k + 1 = c
    · subst he
      go_wp2_with (go_at_call 110; refine (is_wrap_same _ _ _ _ H4.out).mono ?_; rintro e w' ⟨rfl, rfl⟩)
      go_ret2
      exact ⟨by simp, hb2⟩
    · have hne : E c ≠ E (k + 1) := fun h => he (hE2.inj _ (mem_allE.2 ⟨h1, h12⟩) _ (mem_allE.2 ⟨by omega, by omega⟩) h).symm
      go_wp2_with (go_at_call 110; refine (is_wrap_other _ _ _ _ _ _ _ _ _ H4.out hne H2.out H3.out).mono ?_; rintro e w' ⟨rfl, rfl⟩)
      go_round
      case rel => exact ⟨k + 1, by omega, by go_num, rfl⟩
      case measure => simp [intOf]; omega
end Go.Proofs.YtpfohfihkmjnaaaGreatDoor
namespace Go.Proofs.YtpfohfihkmjnaaaGreatDoor
open Go.RowKit

/-- An error, as the document speaks of it: none; one of the twelve; one of the twelve with its place. -/
inductive Er where
  | nil
  | bare (c : Nat)
  | loc (c : Nat) (i : Int)
  deriving DecidableEq

def Er.code : Er → Nat
  | .nil => 0
  | .bare c => c
  | .loc c _ => c
def Er.place : Er → Int
  | .nil => -1
  | .bare _ => -1
  | .loc _ i => i

/-- The value v is that error in the world w. -/
def ErV (E : Nat → Addr) (w : World) (v : Value) : Er → Prop
  | .nil => v = .nilIface
  | .bare c => (1 ≤ c ∧ c ≤ 12) ∧ v = .iface 320 (.pointer (some (E c)))
  | .loc c i => (1 ≤ c ∧ c ≤ 12) ∧ ∃ fb, v = .iface 100 (.pointer (some ⟨fb, 0, none⟩)) ∧ w.cell? ⟨fb, 0, none⟩ = some (.int .i64 i) ∧ w.cell? ⟨fb, 1, none⟩ = some (.iface 320 (.pointer (some (E c))))

theorem ErV.below {E : Nat → Addr} {w w' : World} {v : Value} {er : Er} (h : ErV E w v er) (hb : Below w.heap.size w w') : ErV E w' v er := by
  cases er with
  | nil => exact h
  | bare c => exact h
  | loc c i =>
    obtain ⟨hc, fb, hv, h0, h1⟩ := h
    exact ⟨hc, fb, hv, (hb.cell (World.block_lt_of_cell? w _ h0)).trans h0, (hb.cell (World.block_lt_of_cell? w _ h1)).trans h1⟩

theorem ErV.iface {E : Nat → Addr} {w : World} {v : Value} {er : Er} (h : ErV E w v er) (hn : er ≠ .nil) : ∃ u x, v = .iface u x := by
  cases er with
  | nil => exact absurd rfl hn
  | bare c => exact ⟨_, _, h.2⟩
  | loc c i => obtain ⟨_, fb, hv, _⟩ := h; exact ⟨_, _, hv⟩

/-- A fault laid anew. -/
theorem ErV.fresh {E : Nat → Addr} {c : Nat} (hc : 1 ≤ c ∧ c ≤ 12) (i : Int) (w : World) (t : TypeId) (H : Nat) (hH : w.heap.size = H) : ErV E (w.alloc (.cells #[.int .i64 i, .iface 320 (.pointer (some (E c)))] t)) (.iface 100 (.pointer (some ⟨H, 0, none⟩))) (.loc c i) := by
  subst hH
  exact ⟨hc, w.heap.size, rfl, by simp, by simp⟩
theorem code_any (E : Nat → Addr) (B : Nat) (er : Er) (v : Value) (w : World) (hE : Errs allE E B w) (hA : AsVar w) (hv : ErV E w v er) :
    Calls Tryz.prog 66 #[v] w fun e w' => e = .returned (.tuple #[.int .i64 er.code, .int .i64 er.place]) ∧ Below w.heap.size w w' := by
  cases er with
  | nil =>
    obtain rfl : v = .nilIface := hv
    exact (code_nil w).mono fun e w' ⟨h1, h2⟩ => ⟨h1, h2 ▸ Below.refl _ _⟩
  | bare c =>
    obtain ⟨⟨h1, h2⟩, rfl⟩ := hv
    exact code_sent E B c h1 h2 w hE hA
  | loc c i =>
    obtain ⟨⟨h1, h2⟩, fb, rfl, h3, h4⟩ := hv
    exact code_fault E B c h1 h2 i fb w hE hA h3 h4
end Go.Proofs.YtpfohfihkmjnaaaGreatDoor
namespace Go.Proofs.YtpfohfihkmjnaaaGreatDoor
open Go.RowKit

theorem szInt (w : World) : (sizeOf 3).run Tryz.prog w = .ok 1 w := by kernel_rfl
theorem szStr (w : World) : (sizeOf 9).run Tryz.prog w = .ok 1 w := by kernel_rfl

theorem list_ext_upto {α : Type} {l m : List α} (hl : l.length = m.length) (h : ∀ j < l.length, l[j]? = m[j]?) : l = m := by
  refine List.ext_getElem? fun i => ?_
  rcases Nat.lt_or_ge i l.length with hi | hi
  · exact h i hi
  · rw [List.getElem?_eq_none hi, List.getElem?_eq_none (by omega)]
theorem ret_bool {a b : Bool} (h : a = b) : Ending.returned (.bool a) = Ending.returned (.bool b) := by rw [h]

theorem sameTexts_any (v u : Value) (l m : List Str) (w : World) (hl : StrsAt w v l) (hm : StrsAt w u m) :
    Calls Tryz.prog 24 #[v, u] w fun e w' => e = .returned (.bool (decide (l = m))) ∧ Below w.heap.size w w' := by
  obtain ⟨a, c, b, o, rfl, ha, hc, hcm, hx⟩ := hl
  obtain ⟨a', c', b', o', rfl, ha', hc', hcm', hx'⟩ := hm
  unfold maxLen at hcm hcm'
  by_cases hlen : l.length = m.length
  · have hne : ((l.length : Int) != (m.length : Int)) = false := by simp [hlen]
    have Hl := Lib.hid hlen; clear hlen
    go_enter Tryz.func24, Tryz.ntmps24
    go_wp2_with fail
    go_loopw [5] (fun i wr => ∃ k : Nat, k ≤ l.length ∧ i = .int .i64 k ∧ Hid (∀ j < k, l[j]? = m[j]?) ∧ Below w.heap.size w wr) (fun i _ => l.length - (intOf i).toNat)
    case atStart => exact ⟨0, by omega, rfl, fun j hj => absurd hj (by omega), Below.refl _ _⟩
    case round =>
      obtain ⟨k, hk, rfl, hj, hb⟩ := hrel
      by_cases hlt : k < l.length
      · obtain ⟨x, hxk⟩ := get_ex hlt
        obtain ⟨y, hyk⟩ := get_ex (l := m) (k := k) (by rw [← Hl.out]; exact hlt)
        have c1 := hx k x hxk 0 _ rfl
        have c2 := hx' k y hyk 0 _ rfl
        have c1 := (hb.cell (World.block_lt_of_cell? w _ c1)).trans c1
        have c2 := (hb.cell (World.block_lt_of_cell? w _ c2)).trans c2
        have i1 := idx_at (c := c) 1 Tryz.underlying39 szStr ha k hlt
        have i2 := idx_at (c := c') 1 Tryz.underlying39 szStr ha' k (by rw [← Hl.out]; exact hlt)
        have hk1 : (k : Int) < (l.length : Int) := by omega
        simp only [Nat.mul_one, Nat.add_zero] at c1 c2 i1 i2
        have Hx := Lib.hid hxk; clear hxk
        have Hy := Lib.hid hyk; clear hyk
        go_wp2_with fail
        go_quiet (fail)
        go_wp2_with fail
        · have hne' : x ≠ y := by first | (simpa using ‹(x == y) = false›) | (simpa using ‹(!x == y) = true›)
          go_ret
          refine ⟨ret_bool ?_, Bdn hb _⟩
          refine (decide_eq_false fun e => hne' ?_).symm
          have := Hx.out; rw [e, Hy.out] at this; exact (Option.some.inj this).symm
        · have he : x = y := by first | (simpa using ‹(x == y) = true›) | (simpa using ‹(!x == y) = false›)
          go_roundw
          case rel => exact ⟨k + 1, by omega, by go_num, fun j hj' => by
            rcases Nat.lt_or_ge j k with h | h
            · exact hj.out j h
            · obtain rfl : j = k := by omega
              rw [Hx.out, Hy.out, he], Bdn hb _⟩
          case measure => simp [intOf]; omega
      · obtain rfl : k = l.length := by omega
        go_wp2_with fail
        go_ret
        exact ⟨ret_bool (decide_eq_true (list_ext_upto Hl.out hj.out)).symm, hb⟩
  · have hne : ((l.length : Int) != (m.length : Int)) = true := by simp; omega
    go_enter Tryz.func24, Tryz.ntmps24
    go_wp2_with fail
    go_ret
    exact ⟨ret_bool (decide_eq_false fun e => hlen (by rw [e])).symm, Below.refl _ _⟩
theorem inTexts_any (s : Str) (v : Value) (l : List Str) (w : World) (hl : StrsAt w v l) :
    Calls Tryz.prog 13 #[S s, v] w fun e w' => e = .returned (.bool (decide (s ∈ l))) ∧ Below w.heap.size w w' := by
  obtain ⟨a, c, b, o, rfl, ha, hc, hcm, hx⟩ := hl
  unfold maxLen at hcm
  go_enter Tryz.func13, Tryz.ntmps13
  go_wp2_with fail
  go_loopw [5] (fun i wr => ∃ k : Nat, k ≤ l.length ∧ i = .int .i64 k ∧ Hid (∀ j < k, l[j]? ≠ some s) ∧ Below w.heap.size w wr) (fun i _ => l.length - (intOf i).toNat)
  case atStart => exact ⟨0, by omega, rfl, fun j hj => absurd hj (by omega), Below.refl _ _⟩
  case round =>
    obtain ⟨k, hk, rfl, hj, hb⟩ := hrel
    by_cases hlt : k < l.length
    · obtain ⟨x, hxk⟩ := get_ex hlt
      have c1 := hx k x hxk 0 _ rfl
      have c1 := (hb.cell (World.block_lt_of_cell? w _ c1)).trans c1
      have i1 := idx_at (c := c) 1 Tryz.underlying39 szStr ha k hlt
      have hk1 : (k : Int) < (l.length : Int) := by omega
      simp only [Nat.mul_one, Nat.add_zero] at c1 i1
      have Hx := Lib.hid hxk; clear hxk
      go_wp2_with fail
      · have he : x = s := by simpa using ‹(x == s) = true›
        go_ret
        exact ⟨ret_bool (decide_eq_true (by rw [← he]; exact List.mem_of_getElem? Hx.out)).symm, hb⟩
      · have hne' : x ≠ s := by simpa using ‹(x == s) = false›
        go_roundw
        case rel => exact ⟨k + 1, by omega, by go_num, fun j hj' => by
          rcases Nat.lt_or_ge j k with h | h
          · exact hj.out j h
          · obtain rfl : j = k := by omega
            rw [Hx.out]; exact fun e => hne' (Option.some.inj e), hb⟩
        case measure => simp [intOf]; omega
    · obtain rfl : k = l.length := by omega
      go_wp2_with fail
      go_ret
      refine ⟨ret_bool (decide_eq_false fun e => ?_).symm, hb⟩
      obtain ⟨j, hjl, hje⟩ := List.getElem_of_mem e
      exact hj.out j hjl (by simp [hjl, hje])
end Go.Proofs.YtpfohfihkmjnaaaGreatDoor
namespace Go.Proofs.YtpfohfihkmjnaaaGreatDoor
open Go.RowKit

/-- What a slice's element is: the row of the program's table. -/
def ElemInfo (P : Program) (t e : TypeId) (size bytes : Nat) : Prop :=
  ∃ i z, P.underlying t = some (.slice e) ∧ P.info? e = some i ∧ i.zero = some z ∧ i.size = size ∧ i.bytes = bytes ∧ z.cells.size = size ∧ 0 < size

theorem elemInfo_of {P : Program} {t e : TypeId} {z : Value} {size bytes : Nat} (ht : P.underlying t = some (.slice e)) (h : (P.info? e).map (fun i => (i.zero, i.size, i.bytes)) = some (some z, size, bytes)) (hz : z.cells.size = size) (hs : 0 < size) : ElemInfo P t e size bytes := by
  obtain ⟨i, hi, h0, h1, h2⟩ := info_parts h
  exact ⟨i, z, ht, hi, h0, h1, h2, hz, hs⟩

theorem ElemInfo.sizeOf {P : Program} {t e : TypeId} {size bytes : Nat} (h : ElemInfo P t e size bytes) (w : World) : (Go.sizeOf e).run P w = .ok size w := by
  obtain ⟨i, z, _, hi, _, h1, _⟩ := h
  simp [Go.sizeOf, typeInfo, hi, h1]

/-- The value x is a slice of m elements of size cells each, that are these. -/
def SrcAt (w : World) (size : Nat) (x : Value) (m : Nat) (news : List Value) : Prop :=
  ∃ a c, x = .slice a m c ∧ news.length = m * size ∧ (∀ u ∈ news, u.oneCell' = true) ∧ (0 < m → ∃ b o, a = some ⟨b, o, none⟩ ∧ ∀ j u, news[j]? = some u → w.cell? ⟨b, o + j, none⟩ = some u)

theorem add_lit (b o j : Nat) : (⟨b, o, none⟩ : Addr).add j = ⟨b, o + j, none⟩ := by
  unfold Addr.add; split <;> simp_all

theorem run_app {P : Program} (w : World) (base : Nat) (t ty e : TypeId) (size bytes : Nat) (hE : ElemInfo P t e size bytes) (v : Value) (n : Nat) (xs : List Value) (hown : w.ownsRow base e size v n xs)
    (x : Value) (m : Nat) (news : List Value) (hx : SrcAt w size x m news) (h63 : n + m ≤ maxLen) (hbytes : (n + m) * bytes ≤ 140737488355328) (hbase : base ≤ w.heap.size) :
    ∃ v' w', (Builtin.append_ #[t, t] ty #[v, x]).run P w = .ok v' w' ∧ w'.ownsRow base e size v' (n + m) (xs ++ news) ∧ w.grownBy w' v.ownBlock ∧ (v'.ownBlock = v.ownBlock ∨ v'.ownBlock = some w.heap.size) := by
  obtain ⟨i, z, ht, hi, hz, hsize, hby, hzs, hsz⟩ := hE
  obtain ⟨a, c, rfl, hl, h1, hc⟩ := hx
  cases a with
  | some ad =>
    have hnews : ∀ j u, news[j]? = some u → w.cell? (ad.add j) = some u := by
      intro j u hu
      rcases Nat.eq_zero_or_pos m with rfl | hm
      · rw [List.getElem?_eq_none (by omega)] at hu; cases hu
      · obtain ⟨b, o, e1, hcell⟩ := hc hm
        cases e1
        rw [add_lit]; exact hcell j u hu
    obtain ⟨v', w', h2, h3, h4, _, h5⟩ := run_append_own_at w base t ty e i z size bytes ht hi hz hsize hby hzs hsz v n xs hown ad m c news hl hnews h1 h63 hbytes hbase
    exact ⟨v', w', h2, h3, h4, h5⟩
  | none =>
    obtain rfl : m = 0 := by
      rcases Nat.eq_zero_or_pos m with h | h
      · exact h
      · obtain ⟨b, o, e1, _⟩ := hc h; cases e1
    obtain rfl : news = [] := by
      cases news with
      | nil => rfl
      | cons y r => simp at hl
    refine ⟨v, w, ?_, by simpa using hown, ⟨rfl, rfl, rfl, Nat.le_refl _, fun _ _ _ => rfl⟩, .inl rfl⟩
    have hf := run_firstCells_none (P := P) w size 0 0 c
    rcases hown.2 with ⟨rfl, rfl⟩ | ⟨g, cap, cur, rfl, _, _, hle, _⟩
    · simp [Builtin.append_, run_underlying ht, Go.sizeOf, typeInfo, hi, hsize, Builtin.lenOf, hf]
    · simp [Builtin.append_, run_underlying ht, Go.sizeOf, typeInfo, hi, hsize, Builtin.lenOf, hf, hle, storeCells]

theorem wpList_app {P : Program} {w : World} {ops : Array Oper} {rest : List Oper} {o : Oper} {a : Act} {Q : Exit → Act → World → Prop} (hgd : o.guard = none) (s x : Operand) (t : TypeId)
    (ho : o.op = .call { callee := .builtin .append, args := #[s, x], argTypes := #[t, t] }) (base : Nat) {e : TypeId} {size bytes : Nat} (hE : ElemInfo P t e size bytes)
    (v : Value) (n : Nat) (xs : List Value) (hs : a.eval s = v) (hown : w.ownsRow base e size v n xs) (xv : Value) (m : Nat) (news : List Value) (hx : a.eval x = xv) (hsrc : SrcAt w size xv m news)
    (h63 : n + m ≤ maxLen) (hbytes : (n + m) * bytes ≤ 140737488355328) (hbase : base ≤ w.heap.size)
    (h : ∀ v' w', w'.ownsRow base e size v' (n + m) (xs ++ news) → w.grownBy w' v.ownBlock → (v'.ownBlock = v.ownBlock ∨ v'.ownBlock = some w.heap.size) → wpList P ops Q rest (a.put o.dst v') w') : wpList P ops Q (o :: rest) a w :=
  wpList_plain hgd fun _ hK => by
    obtain ⟨v', w', hr, h2, h3, h4⟩ := run_app (P := P) w base t o.type e size bytes hE v n xs hown xv m news hsrc h63 hbytes hbase
    unfold Oper.wp execOp
    simp only [ho, resolve, invoke, builtin, Sem.run_bind, Sem.run_pure, Result.andThen_ok, List.map_toArray, List.map_cons, List.map_nil, hs, hx, hr]
    exact hK _ _ (h v' w' h2 h3 h4)

/-- The value v is a slice in a row that the call owns from block B on. -/
def Own {α : Type} (enc : α → List Value) (e : TypeId) (sz B : Nat) (w : World) (v : Value) (l : List α) : Prop := w.ownsRow B e sz v l.length (l.flatMap enc)

/-- Each element takes sz cells, none of them an aggregate. -/
def Enc {α : Type} (enc : α → List Value) (sz : Nat) : Prop := ∀ x, (enc x).length = sz ∧ ∀ u ∈ enc x, u.oneCell' = true

theorem encI_enc : Enc encI 1 := fun x => ⟨rfl, by simp [Value.oneCell']⟩
theorem encS_enc : Enc encS 1 := fun x => ⟨rfl, by simp [Value.oneCell']⟩

theorem flat_length {α : Type} {enc : α → List Value} {sz : Nat} (h : Enc enc sz) (l : List α) : (l.flatMap enc).length = l.length * sz := by
  induction l with
  | nil => simp
  | cons x r ih => simp [List.flatMap_cons, ih, (h x).1, Nat.add_mul]; omega

theorem flat_get {α : Type} {enc : α → List Value} {sz : Nat} (h : Enc enc sz) : ∀ (l : List α) (k : Nat) (x : α), l[k]? = some x → ∀ j u, (enc x)[j]? = some u → (l.flatMap enc)[k * sz + j]? = some u
  | [], k, x, hk, _, _, _ => by simp at hk
  | y :: r, 0, x, hk, j, u, hu => by
    obtain rfl : y = x := by simpa using hk
    rw [List.flatMap_cons, Nat.zero_mul, Nat.zero_add, List.getElem?_append_left]
    · exact hu
    · rcases Nat.lt_or_ge j (enc y).length with h' | h'
      · exact h'
      · rw [List.getElem?_eq_none h'] at hu; cases hu
  | y :: r, k + 1, x, hk, j, u, hu => by
    have ih := flat_get h r k x (by simpa using hk) j u hu
    rw [List.flatMap_cons, List.getElem?_append_right (by rw [(h y).1, Nat.add_mul]; omega), (h y).1, show (k + 1) * sz + j - sz = k * sz + j by rw [Nat.add_mul]; omega]
    exact ih

/-- The other way: whatever stands in the flat list is a cell of some element. -/
theorem flat_get_inv {α : Type} {enc : α → List Value} {sz : Nat} (h : Enc enc sz) (hz : 0 < sz) : ∀ (l : List α) (i : Nat) (u : Value), (l.flatMap enc)[i]? = some u → ∃ x, l[i / sz]? = some x ∧ (enc x)[i % sz]? = some u
  | [], i, u, hu => by simp at hu
  | y :: r, i, u, hu => by
    rw [List.flatMap_cons] at hu
    rcases Nat.lt_or_ge i sz with h' | h'
    · rw [List.getElem?_append_left (by rw [(h y).1]; exact h')] at hu
      exact ⟨y, by simp [Nat.div_eq_of_lt h'], by rw [Nat.mod_eq_of_lt h']; exact hu⟩
    · rw [List.getElem?_append_right (by rw [(h y).1]; exact h'), (h y).1] at hu
      obtain ⟨x, h1, h2⟩ := flat_get_inv h hz r (i - sz) u hu
      obtain ⟨d, rfl⟩ : ∃ d, i = d + sz := ⟨i - sz, by omega⟩
      refine ⟨x, ?_, ?_⟩
      · rw [Nat.add_div_right _ hz]; simpa using h1
      · rw [Nat.add_mod_right]; simpa using h2

theorem Own.nil {α : Type} (enc : α → List Value) (e : TypeId) (sz B : Nat) (w : World) : Own enc e sz B w (.slice none 0 0) [] := World.ownsRow_nil w B e sz

theorem Own.at {α : Type} {enc : α → List Value} {e : TypeId} {sz B : Nat} {w : World} {v : Value} {l : List α} (hen : Enc enc sz) (h : Own enc e sz B w v l) : At enc sz w v l := by
  obtain ⟨hl, h2⟩ := h
  rcases h2 with ⟨rfl, h0⟩ | ⟨g, cap, cur, rfl, hb, hg, hn, hcm, hcs, htake⟩
  · have : l = [] := List.eq_nil_of_length_eq_zero h0
    subst this
    exact At.nil enc sz w
  · refine ⟨_, cap, g, 0, rfl, fun _ => rfl, hn, hcm, fun k x hk j u hu => ?_⟩
    have h1 := flat_get hen l k x hk j u hu
    rw [cell_of_row w g _ cur e (0, 0) hg]
    rw [← htake, List.getElem?_take] at h1
    split at h1
    · simpa using h1
    · cases h1

theorem At.src {α : Type} {enc : α → List Value} {sz : Nat} {w : World} {v : Value} {l : List α} (hen : Enc enc sz) (hz : 0 < sz) (h : At enc sz w v l) : SrcAt w sz v l.length (l.flatMap enc) := by
  obtain ⟨a, c, b, o, rfl, ha, hc, hcm, hx⟩ := h
  refine ⟨a, c, rfl, flat_length hen l, ?_, fun hm => ⟨b, o, ha hm, fun j u hu => ?_⟩⟩
  · intro u hu
    obtain ⟨x, _, hux⟩ := List.mem_flatMap.1 hu
    exact (hen x).2 u hux
  · obtain ⟨x, h1, h2⟩ := flat_get_inv hen hz l j u hu
    have := hx _ x h1 _ u h2
    rwa [show o + j / sz * sz + j % sz = o + j by have := Nat.div_add_mod j sz; rw [Nat.mul_comm] at this; omega] at this

/-- One element in a new block of its own, as the translation lays what is appended. -/
theorem src_one {w : World} {sz : Nat} {cs : List Value} {t : TypeId} {H : Nat} (hH : w.heap.size = H) (hl : cs.length = sz) (h1 : ∀ u ∈ cs, u.oneCell' = true) : SrcAt (w.alloc (.cells cs.toArray t)) sz (.slice (some ⟨H, 0, none⟩) 1 1) 1 cs := by
  subst hH
  refine ⟨_, 1, rfl, by omega, h1, fun _ => ⟨w.heap.size, 0, rfl, fun j u hu => ?_⟩⟩
  rw [cell_of_row (w.alloc _) w.heap.size _ cs.toArray t (0, 0) (heap_alloc_new w _)]
  simpa using hu

theorem Own.alloc {α : Type} {enc : α → List Value} {e : TypeId} {sz B : Nat} {w : World} {v : Value} {l : List α} (h : Own enc e sz B w v l) (o : Obj) : Own enc e sz B (w.alloc o) v l := World.ownsRow.alloc h o
theorem Own.drewN {α : Type} {enc : α → List Value} {e : TypeId} {sz B : Nat} {w : World} {v : Value} {l : List α} (h : Own enc e sz B w v l) (n : Nat) : Own enc e sz B (w.drewN n) v l := h
theorem Own.below {α : Type} {enc : α → List Value} {e : TypeId} {sz B : Nat} {w w' : World} {v : Value} {l : List α} (h : Own enc e sz B w v l) (hb : Below w.heap.size w w') : Own enc e sz B w' v l :=
  World.ownsRow.kept h (row := none) ⟨hb.os, hb.tape, hb.output, hb.size, fun k hk _ => hb.block k hk⟩ (by cases v.ownBlock <;> simp)
theorem Own.snoc {α : Type} {enc : α → List Value} {e : TypeId} {sz B : Nat} {w : World} {v : Value} {l : List α} {x : α} (h : w.ownsRow B e sz v (l.length + 1) (l.flatMap enc ++ enc x)) : Own enc e sz B w v (l ++ [x]) := by
  unfold Own; simpa using h
theorem Own.app {α : Type} {enc : α → List Value} {e : TypeId} {sz B : Nat} {w : World} {v : Value} {l m : List α} (h : w.ownsRow B e sz v (l.length + m.length) (l.flatMap enc ++ m.flatMap enc)) : Own enc e sz B w v (l ++ m) := by
  unfold Own; simpa using h
/-- Behind an append to a row of the call's own. -/
theorem Bapp {α : Type} {enc : α → List Value} {e : TypeId} {sz B B' : Nat} {a w w' : World} {v : Value} {l : List α} (h : Below B a w) (ho : Own enc e sz B' w v l) (hg : w.grownBy w' v.ownBlock) (hB : B ≤ B') (hs : B ≤ w.heap.size) : Below B a w' :=
  h.grown hg hs (fun k hk => Nat.le_trans hB (World.ownsRow.lt ho k hk).1)
end Go.Proofs.YtpfohfihkmjnaaaGreatDoor
