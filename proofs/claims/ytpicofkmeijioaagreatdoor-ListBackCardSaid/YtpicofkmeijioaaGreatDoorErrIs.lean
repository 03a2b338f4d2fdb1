/- errors.As and errors.Is: the contracts at what this program hands them: nil, a sentinel, a Fault around a sentinel. -/
import Derived.Test.YtpicofkmeijioaaGreatDoorErrAs
import Derived.WalkKit
import Derived.LaidEql
import Derived.Stop.Asserts
import Derived.RowKitTokens
namespace Go.Proofs.YtpicofkmeijioaaGreatDoor
open Go.RowKit Go.Extern.Stop Go.Stop Go.Extern

set_option maxHeartbeats 4000000 in
/-- errors.As where the error is a Fault: it is set. -/
theorem as_hit (e t : Addr) (old : Value) (w : World) (hg : w.cell? ⟨12, 0, none⟩ = some (.iface 246 (.agg #[.pointer (some ⟨21, 59, none⟩)]))) (ht0 : w.cell? t = some old) (hf0 : w.frozen? t = false) :
    Calls Tryz.prog 141 #[.iface 134 (.pointer (some e)), .iface 182 (.pointer (some t))] w fun ev w' => ev = .returned (.bool true) ∧ w.grownBy w' (some t.block) ∧ w'.cell? t = some (.pointer (some e)) := by
  have h6 := @run_callFunc_extern Tryz.prog 174 _ (fun args => ReflectliteValue.unpack (args.getD 0 (.tuple #[]))) Tryz.func174 (by kernel_rfl) (by kernel_rfl) (by kernel_rfl) (by kernel_rfl)
  have h7 := @run_callFunc_extern Tryz.prog 175 _ (ReflectliteValue.methodAny (ReflectliteValue.valueError "reflectlite.Value.Type" 0) (fun t _ _ _ => ReflectliteType.toType t)) Tryz.func175 (by kernel_rfl) (by kernel_rfl) (by kernel_rfl) (by kernel_rfl)
  have h8 := @run_callFunc_extern Tryz.prog 176 _ (ReflectliteValue.method (ReflectliteValue.valueError "reflectlite.Value.IsNil" 0) ReflectliteValue.isNil) Tryz.func176 (by kernel_rfl) (by kernel_rfl) (by kernel_rfl) (by kernel_rfl)
  have h27 := @run_callFunc_extern Tryz.prog 255 _ (ReflectliteType.abiMethod fun t => do pure (.int .u8 (← Rtype.kind t))) Tryz.func255 (by kernel_rfl) (by kernel_rfl) (by kernel_rfl) (by kernel_rfl)
  have h37 := @run_callFunc_extern Tryz.prog 267 _ (ReflectliteType.method ReflectliteType.elem) Tryz.func267 (by kernel_rfl) (by kernel_rfl) (by kernel_rfl) (by kernel_rfl)
  have h38 := @run_callFunc_extern Tryz.prog 268 _ (ReflectliteType.relation "Implements" ReflectliteType.implements_) Tryz.func268 (by kernel_rfl) (by kernel_rfl) (by kernel_rfl) (by kernel_rfl)
  have h10 := @run_callFunc_extern Tryz.prog 178 _ ReflectliteType.typeOf Tryz.func178 (by kernel_rfl) (by kernel_rfl) (by kernel_rfl) (by kernel_rfl)
  have h35 := @run_callFunc_extern Tryz.prog 265 _ (ReflectliteType.relation "AssignableTo" ReflectliteType.assignableTo) Tryz.func265 (by kernel_rfl) (by kernel_rfl) (by kernel_rfl) (by kernel_rfl)
  have h11 := @run_callFunc_extern Tryz.prog 206 _ (ReflectliteValue.method (ReflectliteValue.valueError "reflectlite.Value.Elem" 0) ReflectliteValue.elem) Tryz.func206 (by kernel_rfl) (by kernel_rfl) (by kernel_rfl) (by kernel_rfl)
  have h12 := @run_callFunc_extern Tryz.prog 207 _ ReflectliteValue.set Tryz.func207 (by kernel_rfl) (by kernel_rfl) (by kernel_rfl) (by kernel_rfl)
  have tO := Eas.typeOfP
  have mA := Eas.methodAssignableTo
  have a25 := Eas.assignableP
  have v25 := Eas.valueOfP
  have f6 := Eas.valueOfPP
  have f7 := Eas.typePP
  have mK := Eas.methodKind
  have mE := Eas.methodElem
  have mI := Eas.methodImplements
  have k27 := Eas.kindPP
  have k25 := Eas.kindP
  have e27 := Eas.elemPP
  have i25 := Eas.implementsP
  have n8 := Eas.isNilPP ⟨w.heap.size, 0, none⟩ t ((w.alloc (.cells #[.pointer (some t)] 182)).alloc (.cells #[.pointer (some ⟨21, 182, none⟩), .pointer (some ⟨w.heap.size, 0, none⟩), .int .u64 150] 211)) (by simp)
  have hlt : 12 < w.heap.size := by
    have := World.block_lt_of_cell? w ⟨12, 0, none⟩ hg
    exact this
  have hg2 : ((w.alloc (.cells #[.pointer (some t)] 182)).alloc (.cells #[.pointer (some ⟨21, 182, none⟩), .pointer (some ⟨w.heap.size, 0, none⟩), .int .u64 150] 211)).cell? ⟨12, 0, none⟩ = some (.iface 246 (.agg #[.pointer (some ⟨21, 59, none⟩)])) := by
    rw [World.cell?_alloc_lt _ _ ⟨12, 0, none⟩ (by simp; omega), World.cell?_alloc_lt _ _ ⟨12, 0, none⟩ hlt]; exact hg
  have htl : t.block < w.heap.size := World.block_lt_of_cell? w t ht0
  have el := Eas.elemVPP ⟨w.heap.size, 0, none⟩ t (((w.alloc (.cells #[.pointer (some t)] 182)).alloc (.cells #[.pointer (some ⟨21, 182, none⟩), .pointer (some ⟨w.heap.size, 0, none⟩), .int .u64 150] 211)).alloc (.cells #[.pointer (some ⟨21, 182, none⟩), .pointer (some ⟨w.heap.size, 0, none⟩), .int .u64 150] 211)) (by rw [World.cell?_alloc_lt _ _ ⟨w.heap.size, 0, none⟩ (by simp; omega)]; simp)
  have st := Eas.setP t ⟨w.heap.size + 1 + 1 + 1, 0, none⟩ e old ((((w.alloc (.cells #[.pointer (some t)] 182)).alloc (.cells #[.pointer (some ⟨21, 182, none⟩), .pointer (some ⟨w.heap.size, 0, none⟩), .int .u64 150] 211)).alloc (.cells #[.pointer (some ⟨21, 182, none⟩), .pointer (some ⟨w.heap.size, 0, none⟩), .int .u64 150] 211)).alloc (.cells #[.pointer (some e)] 134))
    (by rw [World.cell?_alloc_at _ _ _ _ (by simp)]; rfl)
    (by rw [World.cell?_alloc_lt _ _ t (by simp; omega), World.cell?_alloc_lt _ _ t (by simp; omega), World.cell?_alloc_lt _ _ t (by simp; omega), World.cell?_alloc_lt _ _ t htl]; exact ht0)
    (by rw [World.frozen?_alloc_old _ _ t (by simp; omega), World.frozen?_alloc_old _ _ t (by simp; omega), World.frozen?_alloc_old _ _ t (by simp; omega), World.frozen?_alloc_old _ _ t (Nat.ne_of_lt htl)]; exact hf0)
  go_enter Tryz.func141, Tryz.ntmps141
  go_wp2
  refine wp_loop_rounds 1 ?_
  rw [rounds_succ]
  go_wp2
  go_ret
  refine ⟨rfl, ?_, World.cell?_setCell_same' _ _ _ (by rw [World.cell?_alloc_lt _ _ t (by simp; omega), World.cell?_alloc_lt _ _ t (by simp; omega), World.cell?_alloc_lt _ _ t (by simp; omega), World.cell?_alloc_lt _ _ t htl, ht0]; rfl)⟩
  have hb : Below w.heap.size w ((((w.alloc (.cells #[.pointer (some t)] 182)).alloc (.cells #[.pointer (some ⟨21, 182, none⟩), .pointer (some ⟨w.heap.size, 0, none⟩), .int .u64 150] 211)).alloc (.cells #[.pointer (some ⟨21, 182, none⟩), .pointer (some ⟨w.heap.size, 0, none⟩), .int .u64 150] 211)).alloc (.cells #[.pointer (some e)] 134)) :=
    ((((Below.refl _ _).alloc (Nat.le_refl _) _).alloc (by simp) _).alloc (by simp; omega) _).alloc (by simp; omega) _
  exact ⟨hb.os, hb.tape, hb.output, by simpa [World.setCell] using hb.size, fun k hk hne => (Below.heap_setCell _ _ _ _ (fun h => hne (by rw [h]))).trans (hb.block k hk)⟩

set_option maxHeartbeats 4000000 in
/-- errors.As where the error is a plain one of errors.New's make: nothing is set. -/
theorem as_miss (e t : Addr) (w : World) (hg : w.cell? ⟨12, 0, none⟩ = some (.iface 246 (.agg #[.pointer (some ⟨21, 59, none⟩)]))) :
    Calls Tryz.prog 141 #[.iface 290 (.pointer (some e)), .iface 182 (.pointer (some t))] w fun ev w' => ev = .returned (.bool false) ∧ Below w.heap.size w w' := by
  have h6 := @run_callFunc_extern Tryz.prog 174 _ (fun args => ReflectliteValue.unpack (args.getD 0 (.tuple #[]))) Tryz.func174 (by kernel_rfl) (by kernel_rfl) (by kernel_rfl) (by kernel_rfl)
  have h7 := @run_callFunc_extern Tryz.prog 175 _ (ReflectliteValue.methodAny (ReflectliteValue.valueError "reflectlite.Value.Type" 0) (fun t _ _ _ => ReflectliteType.toType t)) Tryz.func175 (by kernel_rfl) (by kernel_rfl) (by kernel_rfl) (by kernel_rfl)
  have h8 := @run_callFunc_extern Tryz.prog 176 _ (ReflectliteValue.method (ReflectliteValue.valueError "reflectlite.Value.IsNil" 0) ReflectliteValue.isNil) Tryz.func176 (by kernel_rfl) (by kernel_rfl) (by kernel_rfl) (by kernel_rfl)
  have h27 := @run_callFunc_extern Tryz.prog 255 _ (ReflectliteType.abiMethod fun t => do pure (.int .u8 (← Rtype.kind t))) Tryz.func255 (by kernel_rfl) (by kernel_rfl) (by kernel_rfl) (by kernel_rfl)
  have h37 := @run_callFunc_extern Tryz.prog 267 _ (ReflectliteType.method ReflectliteType.elem) Tryz.func267 (by kernel_rfl) (by kernel_rfl) (by kernel_rfl) (by kernel_rfl)
  have h38 := @run_callFunc_extern Tryz.prog 268 _ (ReflectliteType.relation "Implements" ReflectliteType.implements_) Tryz.func268 (by kernel_rfl) (by kernel_rfl) (by kernel_rfl) (by kernel_rfl)
  have h10 := @run_callFunc_extern Tryz.prog 178 _ ReflectliteType.typeOf Tryz.func178 (by kernel_rfl) (by kernel_rfl) (by kernel_rfl) (by kernel_rfl)
  have h35 := @run_callFunc_extern Tryz.prog 265 _ (ReflectliteType.relation "AssignableTo" ReflectliteType.assignableTo) Tryz.func265 (by kernel_rfl) (by kernel_rfl) (by kernel_rfl) (by kernel_rfl)
  have tO := Eas.typeOfE
  have mA := Eas.methodAssignableTo
  have a25 := Eas.assignableE
  have f6 := Eas.valueOfPP
  have f7 := Eas.typePP
  have mK := Eas.methodKind
  have mE := Eas.methodElem
  have mI := Eas.methodImplements
  have k27 := Eas.kindPP
  have k25 := Eas.kindP
  have e27 := Eas.elemPP
  have i25 := Eas.implementsP
  have nA := Eas.noAsE
  have nU := Eas.noUnwrapE
  have nV := Eas.noUnwrapsE
  have n8 := Eas.isNilPP ⟨w.heap.size, 0, none⟩ t ((w.alloc (.cells #[.pointer (some t)] 182)).alloc (.cells #[.pointer (some ⟨21, 182, none⟩), .pointer (some ⟨w.heap.size, 0, none⟩), .int .u64 150] 211)) (by simp)
  have hlt : 12 < w.heap.size := by
    have := World.block_lt_of_cell? w ⟨12, 0, none⟩ hg
    exact this
  have hg2 : ((w.alloc (.cells #[.pointer (some t)] 182)).alloc (.cells #[.pointer (some ⟨21, 182, none⟩), .pointer (some ⟨w.heap.size, 0, none⟩), .int .u64 150] 211)).cell? ⟨12, 0, none⟩ = some (.iface 246 (.agg #[.pointer (some ⟨21, 59, none⟩)])) := by
    rw [World.cell?_alloc_lt _ _ ⟨12, 0, none⟩ (by simp; omega), World.cell?_alloc_lt _ _ ⟨12, 0, none⟩ hlt]; exact hg
  go_enter Tryz.func141, Tryz.ntmps141
  go_wp2
  refine wp_loop_rounds 1 ?_
  rw [rounds_succ]
  go_wp2
  go_ret
  exact ⟨rfl, by repeat (first | exact Below.refl _ _ | (refine Below.alloc ?_ (by simp; try omega) _))⟩

/-- errors.Is(x, x), x a pointer to an errors.errorString. -/
theorem is_same (a : Addr) (w : World) :
    Calls Tryz.prog 142 #[.iface 290 (.pointer (some a)), .iface 290 (.pointer (some a))] w fun e w' => e = .returned (.bool true) ∧ w = w' := by
  obtain ⟨i, hi, hcmp⟩ := Option.map_eq_some_iff.1 Eas.isComp
  obtain ⟨j, hj, hjs⟩ := Option.map_eq_some_iff.1 Eas.isSize
  have h8 := @run_callFunc_extern Tryz.prog 178 _ Extern.ReflectliteType.typeOf Tryz.func178 (by kernel_rfl) (by kernel_rfl) (by kernel_rfl) (by kernel_rfl)
  have tT := Eas.typeOfE
  have cT := Eas.isComparable
  have mR := Eas.isMethodComparable
  have heq := run_eql_iface_ptr_same (P := Tryz.prog) w a Tryz.underlying59 Tryz.underlying290 hi hcmp hj
  go_enter Tryz.func142, Tryz.ntmps142
  go_wp2
  refine wp_loop_rounds 1 ?_
  rw [rounds_succ]
  go_wp2
  go_ret
  exact ⟨rfl, rfl⟩

/-- errors.Is(x, y), two different pointers to errors.errorString: neither has Is nor Unwrap: false. -/
theorem is_other (a b : Addr) (ca cb : Array Value) (ta tb : TypeId) (w : World) (hne : a ≠ b) (ha : w.heap[a.block]? = some (.cells ca ta (0, 0))) (hb : w.heap[b.block]? = some (.cells cb tb (0, 0))) :
    Calls Tryz.prog 142 #[.iface 290 (.pointer (some a)), .iface 290 (.pointer (some b))] w fun e w' => e = .returned (.bool false) ∧ w = w' := by
  obtain ⟨i, hi, hcmp⟩ := Option.map_eq_some_iff.1 Eas.isComp
  obtain ⟨j, hj, hjs⟩ := Option.map_eq_some_iff.1 Eas.isSize
  have h8 := @run_callFunc_extern Tryz.prog 178 _ Extern.ReflectliteType.typeOf Tryz.func178 (by kernel_rfl) (by kernel_rfl) (by kernel_rfl) (by kernel_rfl)
  have tT := Eas.typeOfE
  have cT := Eas.isComparable
  have mR := Eas.isMethodComparable
  have nE := Eas.noIsE
  have uE := Eas.noUnwrapE
  have vE := Eas.noUnwrapsE
  have heq := run_eql_iface_ptr_other (P := Tryz.prog) w Tryz.underlying59 Tryz.underlying290 hi hcmp hj (by rw [hjs]; decide) hne ha hb
  go_enter Tryz.func142, Tryz.ntmps142
  go_wp2
  refine wp_loop_rounds 1 ?_
  rw [rounds_succ]
  go_wp2
  go_ret
  exact ⟨rfl, rfl⟩

/-- errors.Is(e, x), e a Fault around x itself: one Unwrap, then equal. -/
theorem is_wrap_same (pb po : Nat) (b : Addr) (w : World) (h1 : w.cell? ⟨pb, po + 1, none⟩ = some (.iface 290 (.pointer (some b)))) :
    Calls Tryz.prog 142 #[.iface 134 (.pointer (some ⟨pb, po, none⟩)), .iface 290 (.pointer (some b))] w fun e w' => e = .returned (.bool true) ∧ w = w' := by
  obtain ⟨i, hi, hcmp⟩ := Option.map_eq_some_iff.1 Eas.isComp
  obtain ⟨j, hj, hjs⟩ := Option.map_eq_some_iff.1 Eas.isSize
  have h8 := @run_callFunc_extern Tryz.prog 178 _ Extern.ReflectliteType.typeOf Tryz.func178 (by kernel_rfl) (by kernel_rfl) (by kernel_rfl) (by kernel_rfl)
  have tT := Eas.typeOfE
  have cT := Eas.isComparable
  have mR := Eas.isMethodComparable
  have nW := Eas.noIsW
  have uW := Eas.hasUnwrapW
  have mU := Eas.methodUnwrap
  have heq := run_eql_iface_ptr_same (P := Tryz.prog) w b Tryz.underlying59 Tryz.underlying290 hi hcmp hj
  have hty := run_eql_iface_types (P := Tryz.prog) 134 290 (.pointer (some ⟨pb, po, none⟩)) (.pointer (some b)) Tryz.underlying59 (by decide) w
  go_enter Tryz.func142, Tryz.ntmps142
  go_wp2
  refine wp_loop_rounds 2 ?_
  rw [rounds_succ]
  go_wp2
  rw [rounds_succ]
  go_wp2
  go_ret
  exact ⟨rfl, rfl⟩

/-- errors.Is(e, x), e a Fault around another error of errors.New's make. -/
theorem is_wrap_other (pb po : Nat) (b a : Addr) (ca cb : Array Value) (ta tb : TypeId) (w : World) (h1 : w.cell? ⟨pb, po + 1, none⟩ = some (.iface 290 (.pointer (some a)))) (hne : a ≠ b) (ha : w.heap[a.block]? = some (.cells ca ta (0, 0))) (hb : w.heap[b.block]? = some (.cells cb tb (0, 0))) :
    Calls Tryz.prog 142 #[.iface 134 (.pointer (some ⟨pb, po, none⟩)), .iface 290 (.pointer (some b))] w fun e w' => e = .returned (.bool false) ∧ w = w' := by
  obtain ⟨i, hi, hcmp⟩ := Option.map_eq_some_iff.1 Eas.isComp
  obtain ⟨j, hj, hjs⟩ := Option.map_eq_some_iff.1 Eas.isSize
  have h8 := @run_callFunc_extern Tryz.prog 178 _ Extern.ReflectliteType.typeOf Tryz.func178 (by kernel_rfl) (by kernel_rfl) (by kernel_rfl) (by kernel_rfl)
  have tT := Eas.typeOfE
  have cT := Eas.isComparable
  have mR := Eas.isMethodComparable
  have nE := Eas.noIsE
  have uE := Eas.noUnwrapE
  have vE := Eas.noUnwrapsE
  have nW := Eas.noIsW
  have uW := Eas.hasUnwrapW
  have mU := Eas.methodUnwrap
  have heq := run_eql_iface_ptr_other (P := Tryz.prog) w Tryz.underlying59 Tryz.underlying290 hi hcmp hj (by rw [hjs]; decide) hne ha hb
  have hty := run_eql_iface_types (P := Tryz.prog) 134 290 (.pointer (some ⟨pb, po, none⟩)) (.pointer (some b)) Tryz.underlying59 (by decide) w
  go_enter Tryz.func142, Tryz.ntmps142
  go_wp2
  refine wp_loop_rounds 2 ?_
  rw [rounds_succ]
  go_wp2
  rw [rounds_succ]
  go_wp2
  go_ret
  exact ⟨rfl, rfl⟩
end Go.Proofs.YtpicofkmeijioaaGreatDoor
