/- From the row's condition on the listed variables to what the walks ask: the sentinels, and what errors.As reads. The builder with the row's listed variables and the world's shape both; slices of numbers that came in; the library's variables out of the condition. A slice that came in, of whatever elements; texts; files. Parameters that came in: a number, a text, a byte, a file by value; lists of five and six parameters. Rows that came in. The checksum in plain words: of each byte what its bits make; one byte another one, and the sum is another one. Of no program. Snaps in plain words. Of no program. -/
import Derived.Test.YtcdcfolhnjgigaaGreatDoorBx1
import Derived.LaidLaws
import Derived.LaidHandle
import Derived.Stop.LaidErr
import Derived.Test.YtcdcfolhnjgigaaGreatDoorBx4
import Derived.HandedShaped
import Derived.OpenShut
import Derived.Carry
import Derived.Shelf.Vars
import Derived.ProofKit
import Derived.LaidMore
import Derived.Lay
import Derived.Test.YtcdcfolhnjgigaaGreatDoorBx6
import Derived.Test.YtcdcfolhnjgigaaGreatDoorBx3
namespace Go.Proofs.YtcdcfolhnjgigaaGreatDoor
open Go.RowKit Go.ChangeShapes Go.WideShapes

def errName : Nat → String
  | 1 => "deedbox/api.ErrText" | 2 => "deedbox/api.ErrBound" | 3 => "deedbox/api.ErrShape" | 4 => "deedbox/api.ErrKind" | 5 => "deedbox/api.ErrName" | 6 => "deedbox/api.ErrNone"
  | 7 => "deedbox/api.ErrExist" | 8 => "deedbox/api.ErrFull" | 9 => "deedbox/api.ErrOrder" | 10 => "deedbox/api.ErrSum" | 11 => "deedbox/api.ErrStale" | _ => "deedbox/api.ErrOff"
theorem errName_inj : ∀ c ∈ allE, ∀ d ∈ allE, errName c = errName d → c = d := by decide

theorem laidVars_get {P : Program} {w : World} : ∀ {L : List (String × DataW Unit)} {ps : List MemPlace} {i : Nat} {n : String} {d : DataW Unit}, DataW.LaidVars P w L ps → L[i]? = some (n, d) →
    ∃ g t cs fuel p, P.globalNamed n = some g ∧ (P.globals[g]?).map (·.type) = some t ∧ w.var? P n = some cs ∧ DataW.trod (fun _ => ()) P w 0 (fun _ => true) false fuel t cs.toList = some (d, p) ∧ ∀ x ∈ MemPlace.row ⟨g, 0, none⟩ cs.size ++ p, x ∈ ps
  | [], _, i, n, d, _, hi => by simp at hi
  | (n0, d0) :: r, ps, 0, n, d, h, hi => by
    obtain ⟨g, t, cs, fuel, p, q, h1, h2, h3, h4, _, rfl⟩ := h
    simp only [List.getElem?_cons_zero, Option.some.injEq, Prod.mk.injEq] at hi
    obtain ⟨rfl, rfl⟩ := hi
    exact ⟨g, t, cs, fuel, p, h1, h2, h3, h4, fun x hx => List.mem_append_left _ hx⟩
  | (n0, d0) :: r, ps, i + 1, n, d, h, hi => by
    obtain ⟨g, t, cs, fuel, p, q, _, _, _, _, h5, rfl⟩ := h
    obtain ⟨g', t', cs', fuel', p', h1, h2, h3, h4, h6⟩ := laidVars_get h5 (by simpa using hi)
    exact ⟨g', t', cs', fuel', p', h1, h2, h3, h4, fun x hx => List.mem_append_right _ (h6 x hx)⟩

theorem laidVars_apart {P : Program} {w : World} : ∀ {L : List (String × DataW Unit)} {ps : List MemPlace} {i j : Nat} {n m : String} {d e : DataW Unit}, DataW.LaidVars P w L ps → ps.Nodup → i < j → L[i]? = some (n, d) → L[j]? = some (m, e) →
    ∃ (g : Nat) (t : TypeId) (cs : Array Value) (fuel : Nat) (p : List MemPlace) (g' : Nat) (t' : TypeId) (cs' : Array Value) (fuel' : Nat) (p' : List MemPlace), P.globalNamed n = some g ∧ (P.globals[g]?).map (·.type) = some t ∧ w.var? P n = some cs ∧ DataW.trod (fun _ => ()) P w 0 (fun _ => true) false fuel t cs.toList = some (d, p) ∧
      P.globalNamed m = some g' ∧ (P.globals[g']?).map (·.type) = some t' ∧ w.var? P m = some cs' ∧ DataW.trod (fun _ => ()) P w 0 (fun _ => true) false fuel' t' cs'.toList = some (e, p') ∧ ∀ x ∈ p, x ∉ p'
  | [], _, i, j, n, m, d, e, _, _, _, hi, _ => by simp at hi
  | (n0, d0) :: r, ps, 0, j + 1, n, m, d, e, h, hnd, _, hi, hj => by
    obtain ⟨g, t, cs, fuel, p, q, h1, h2, h3, h4, h5, rfl⟩ := h
    simp only [List.getElem?_cons_zero, Option.some.injEq, Prod.mk.injEq] at hi
    obtain ⟨rfl, rfl⟩ := hi
    obtain ⟨g', t', cs', fuel', p', h1', h2', h3', h4', h6⟩ := laidVars_get h5 (by simpa using hj)
    refine ⟨g, t, cs, fuel, p, g', t', cs', fuel', p', h1, h2, h3, h4, h1', h2', h3', h4', fun x hx hx' => ?_⟩
    have hd := (List.nodup_append.1 hnd).2.2
    exact hd x (List.mem_append_right _ hx) x (h6 x (List.mem_append_right _ hx')) rfl
  | (n0, d0) :: r, ps, i + 1, j + 1, n, m, d, e, h, hnd, hij, hi, hj => by
    obtain ⟨g, t, cs, fuel, p, q, _, _, _, _, h5, rfl⟩ := h
    exact laidVars_apart (i := i) (j := j) h5 (List.nodup_append.1 hnd).2.1 (by omega) (by simpa using hi) (by simpa using hj)
  | _ :: _, _, _, 0, _, _, _, _, _, _, hij, _, _ => by omega

/-- Behind what address a variable's error lies. -/
noncomputable def addrOf (W : World) (c : Nat) : Addr :=
  match W.var? Tryz.prog (errName c) with
  | some #[.iface _ (.pointer (some a))] => a
  | _ => ⟨0, 0, none⟩

theorem gn1 : Tryz.prog.globalNamed (errName 1) = some (errG 1) := by kernel_rfl
theorem gn2 : Tryz.prog.globalNamed (errName 2) = some (errG 2) := by kernel_rfl
theorem gn3 : Tryz.prog.globalNamed (errName 3) = some (errG 3) := by kernel_rfl
theorem gn4 : Tryz.prog.globalNamed (errName 4) = some (errG 4) := by kernel_rfl
theorem gn5 : Tryz.prog.globalNamed (errName 5) = some (errG 5) := by kernel_rfl
theorem gn6 : Tryz.prog.globalNamed (errName 6) = some (errG 6) := by kernel_rfl
theorem gn7 : Tryz.prog.globalNamed (errName 7) = some (errG 7) := by kernel_rfl
theorem gn8 : Tryz.prog.globalNamed (errName 8) = some (errG 8) := by kernel_rfl
theorem gn9 : Tryz.prog.globalNamed (errName 9) = some (errG 9) := by kernel_rfl
theorem gn10 : Tryz.prog.globalNamed (errName 10) = some (errG 10) := by kernel_rfl
theorem gn11 : Tryz.prog.globalNamed (errName 11) = some (errG 11) := by kernel_rfl
theorem gn12 : Tryz.prog.globalNamed (errName 12) = some (errG 12) := by kernel_rfl
theorem gt1 : (Tryz.prog.globals[errG 1]?).map (·.type) = some 27 := by kernel_rfl
theorem gt2 : (Tryz.prog.globals[errG 2]?).map (·.type) = some 27 := by kernel_rfl
theorem gt3 : (Tryz.prog.globals[errG 3]?).map (·.type) = some 27 := by kernel_rfl
theorem gt4 : (Tryz.prog.globals[errG 4]?).map (·.type) = some 27 := by kernel_rfl
theorem gt5 : (Tryz.prog.globals[errG 5]?).map (·.type) = some 27 := by kernel_rfl
theorem gt6 : (Tryz.prog.globals[errG 6]?).map (·.type) = some 27 := by kernel_rfl
theorem gt7 : (Tryz.prog.globals[errG 7]?).map (·.type) = some 27 := by kernel_rfl
theorem gt8 : (Tryz.prog.globals[errG 8]?).map (·.type) = some 27 := by kernel_rfl
theorem gt9 : (Tryz.prog.globals[errG 9]?).map (·.type) = some 27 := by kernel_rfl
theorem gt10 : (Tryz.prog.globals[errG 10]?).map (·.type) = some 27 := by kernel_rfl
theorem gt11 : (Tryz.prog.globals[errG 11]?).map (·.type) = some 27 := by kernel_rfl
theorem gt12 : (Tryz.prog.globals[errG 12]?).map (·.type) = some 27 := by kernel_rfl
theorem starE : "*" ++ "errors.errorString" = "*errors.errorString" := by decide
theorem rowE (u : TypeId) (h : Tryz.prog.typeName? 3 u = some "*errors.errorString") : u = 320 :=
  typeName_ptr_named (nm := "errors.errorString") (by rw [starE]; kernel_rfl) (by kernel_rfl) (by decide) u (by rw [starE]; exact h)
theorem cellsErrStr : Tryz.prog.cellsOf 322 = 1 := by kernel_rfl
theorem cellsStr : Tryz.prog.cellsOf 9 = 1 := by kernel_rfl

set_option maxRecDepth 100000 in
/-- WHAT THE CONDITION GIVES THE WALKS: the sentinels of the numbers D, where the list L bears each at the place idx says. -/
theorem errs_of_laid {L : List (String × DataW Unit)} {W : World} (h : laidMet Tryz.prog L W) (D : List Nat) (idx : Nat → Nat) (hD : ∀ c ∈ D, c ∈ allE)
    (hg : ∀ c ∈ D, Tryz.prog.globalNamed (errName c) = some (errG c)) (ht : ∀ c ∈ D, (Tryz.prog.globals[errG c]?).map (·.type) = some 27)
    (hL : ∀ c ∈ D, ∃ text, L[idx c]? = some (errName c, .iface "*errors.errorString" (.ptr (.agg [.lit (.string text)])))) :
    Errs D (addrOf W) W.heap.size W := by
  obtain ⟨ps, hv, hnd, hrows⟩ := h
  have key : ∀ c ∈ D, ∀ {g t cs fuel p text}, Tryz.prog.globalNamed (errName c) = some g → (Tryz.prog.globals[g]?).map (·.type) = some t → W.var? Tryz.prog (errName c) = some cs →
      DataW.trod (fun _ => ()) Tryz.prog W 0 (fun _ => true) false fuel t cs.toList = some (.iface "*errors.errorString" (.ptr (.agg [.lit (.string text)])), p) → (∀ x ∈ MemPlace.row ⟨g, 0, none⟩ cs.size, x ∈ ps) →
      W.cell? ⟨errG c, 0, none⟩ = some (.iface 320 (.pointer (some (addrOf W c)))) ∧ (∃ s, W.cell? (addrOf W c) = some (.string s)) ∧ p = MemPlace.row (addrOf W c) 1 := by
    intro c hc g t cs fuel p text h1 h2 h3 h4 h5
    obtain rfl := Option.some.inj ((hg c hc).symm.trans h1)
    obtain rfl := Option.some.inj ((ht c hc).symm.trans h2)
    obtain ⟨l0⟩ := cs
    have ok0 : ∀ u v, l0 = [.iface u v] → Value.okWide Tryz.prog W .any 0 u v := fun u v e => by
      subst e
      exact (hrows (errG c) 0 (h5 _ (by simp [MemPlace.row]))).2 u v (by simpa using World.var?_cell h1 h3 0)
    obtain ⟨a0, s0, rfl, hc0, hs0, hz0, rfl⟩ := errorString_of_trod Tryz.underlying27 rowE Tryz.underlying320 Tryz.underlying322 rfl rfl Tryz.underlying9 cellsErrStr cellsStr h4 ok0
    have ea : addrOf W c = a0 := by
      unfold addrOf
      rw [h3]
      exact rfl
    refine ⟨?_, ⟨s0, by rw [ea]; exact hc0⟩, by rw [ea]⟩
    rw [ea]
    simpa using World.var?_cell h1 h3 0
  have get : ∀ c ∈ D, W.cell? ⟨errG c, 0, none⟩ = some (.iface 320 (.pointer (some (addrOf W c)))) ∧ (∃ s, W.cell? (addrOf W c) = some (.string s)) ∧ MemPlace.cell (addrOf W c).block (addrOf W c).off ∈ ps := by
    intro c hc
    obtain ⟨text, hl⟩ := hL c hc
    obtain ⟨g, t, cs, fuel, p, h1, h2, h3, h4, h5⟩ := laidVars_get hv hl
    obtain ⟨k1, k2, rfl⟩ := key c hc h1 h2 h3 h4 (fun x hx => h5 x (List.mem_append_left _ hx))
    exact ⟨k1, k2, h5 _ (List.mem_append_right _ (by simp [MemPlace.row]))⟩
  have apart : ∀ c ∈ D, ∀ d ∈ D, idx c < idx d → addrOf W c ≠ addrOf W d := by
    intro c hc d hd hlt he
    obtain ⟨t1, hl1⟩ := hL c hc
    obtain ⟨t2, hl2⟩ := hL d hd
    obtain ⟨g, t, cs, fuel, p, g', t', cs', fuel', p', a1, a2, a3, a4, b1, b2, b3, b4, hap⟩ := laidVars_apart hv hnd hlt hl1 hl2
    obtain ⟨g0, t0, cs0, f0, p0, u1, u2, u3, u4, u5⟩ := laidVars_get hv hl1
    obtain ⟨g0', t0', cs0', f0', p0', v1, v2, v3, v4, v5⟩ := laidVars_get hv hl2
    obtain rfl := Option.some.inj (a1.symm.trans u1)
    obtain rfl := Option.some.inj (a3.symm.trans u3)
    obtain rfl := Option.some.inj (b1.symm.trans v1)
    obtain rfl := Option.some.inj (b3.symm.trans v3)
    obtain ⟨_, _, rfl⟩ := key c hc a1 a2 a3 a4 (fun x hx => u5 x (List.mem_append_left _ hx))
    obtain ⟨_, _, rfl⟩ := key d hd b1 b2 b3 b4 (fun x hx => v5 x (List.mem_append_left _ hx))
    rw [he] at hap
    exact hap (.cell (addrOf W d).block (addrOf W d).off) (by simp [MemPlace.row]) (by simp [MemPlace.row])
  refine ⟨fun c hc => (get c hc).1, fun c hc => (hrows _ _ (get c hc).2.2).1, fun c hc => ?_, fun c hc d hd he => ?_, Nat.le_refl _⟩
  · obtain ⟨k1, ⟨s, k2⟩, _⟩ := get c hc
    exact ⟨World.block_lt_of_cell? W _ k2, World.block_lt_of_cell? W ⟨errG c, 0, none⟩ k1⟩
  · rcases Nat.lt_trichotomy (idx c) (idx d) with h | h | h
    · exact absurd he (apart c hc d hd h)
    · obtain ⟨t1, hl1⟩ := hL c hc
      obtain ⟨t2, hl2⟩ := hL d hd
      rw [h, hl2] at hl1
      have : errName d = errName c := by simpa using congrArg (fun x => x.1) (Option.some.inj hl1)
      exact errName_inj c (hD c hc) d (hD d hd) this.symm
    · exact absurd he.symm (apart d hd c hc h)

theorem etG : Tryz.prog.globalNamed "errors.errorType" = some 13 := by kernel_rfl
theorem rtT : (Tryz.prog.cutTypes.find? (·.1 == "internal/reflectlite.rtype")).map (·.2) = some 280 := by kernel_rfl
theorem oneRowE : ((List.range 354).filter fun t => Tryz.prog.rowNamed t [101, 114, 114, 111, 114]) = [27] := by kernel_rfl
theorem typesSize : Tryz.prog.types.size = 354 := by kernel_rfl
theorem asVar_of_laid {L : List (String × DataW Unit)} {W : World} (h : handlesMet Tryz.prog L W) (hm : ("errors.errorType", .iface "internal/reflectlite.rtype" (.agg [.ptr (.lit (.string [101, 114, 114, 111, 114]))])) ∈ L) : AsVar W := by
  obtain ⟨name, u, ty, e1, e2, e3, e4, e5⟩ := h _ hm
  have en : name = [101, 114, 114, 111, 114] := (Option.some.inj e1).symm
  subst en
  obtain rfl := Option.some.inj (rtT.symm.trans e2)
  have hm : ty ∈ (List.range 354).filter fun t => Tryz.prog.rowNamed t [101, 114, 114, 111, 114] := List.mem_filter.2 ⟨List.mem_range.2 (by rw [← typesSize]; exact e3), e4⟩
  rw [oneRowE] at hm
  obtain rfl := List.mem_singleton.1 hm
  have hh : typeHandle Tryz.prog 27 = .pointer (some ⟨21, 27, none⟩) := by kernel_rfl
  rw [hh] at e5
  have := World.var?_cell etG e5 0
  unfold AsVar
  simpa using this
end Go.Proofs.YtcdcfolhnjgigaaGreatDoor
namespace Go.Proofs.YtcdcfolhnjgigaaGreatDoor
open Go.ChangeShapes Go.WideShapes Go.ChangeAt Go.RowKit

theorem handed_both {H : Type} {enc : TypeId × Value → H} {a : Assume} {C : Checked} {os : Os} {f : FuncId} {fn : Func} {s : ChangeSpec} {conds : List PathCond} {apart fresh handsOn again : Bool} {X : World → Array Value → Prop}
    (hX : ∀ (w w' : World) (args : Array Value), w.heap = w'.heap → X w args → X w' args)
    (own : ownKnob C.prog.godebug = none) (started : os.Started) (noInit : C.prog.inits.idxOf? f = none) (hfn : C.prog.funcs[f]? = some fn)
    (witness : ∃ (w : World) (tape : Tape) (i : Input), w.os = os ∧ (w.forCall tape i).Shaped C.prog ∧ i.vars = [] ∧ Input.okWide C.prog (w.forCall tape i) .any w.heap.size f i ∧
      ((s.pre enc C.prog fn conds apart (w.forCall tape i).memory i.args ∧ X (w.forCall tape i).memory i.args) ∧ sizedMet enc C.prog fn (OpenSpec.ofChange s) apart (w.forCall tape i).memory i.args) ∧ a.holds C.prog (lone (Frame.enter C.prog f i.args .normal) [] (w.forCall tape i)))
    (contract : ∀ (W : World) (base : Nat) (args : Array Value) (ds gs : List (DataW H)) (before : List MemPlace),
      (∀ (j : Nat) t v, fn.params[j]? = some t → args[j]? = some v → Value.okWide C.prog W .any base t v) →
      DataW.Whole enc C.prog fn.params.toList s.vars apart W args.toList ds gs before → X W args → W.ShapedOpen C.prog →
      Calls C.prog f args W fun e W' => ∃ v, e = .returned v ∧ s.post enc C.prog fn apart fresh handsOn again W args v W') :
    ReturnsInHanded a C os f .any (fun w args => (s.pre enc C.prog fn conds apart w args ∧ X w args) ∧ sizedMet enc C.prog fn (OpenSpec.ofChange s) apart w args) (s.post enc C.prog fn apart fresh handsOn again) := by
  refine returnsInHanded_of_calls own started noInit witness ?_
  intro w tape i _ hsh _ hok hpre _
  obtain ⟨_, _, _, fn', hfn', _, _, _, _, hval⟩ := hok
  have e : fn' = fn := Option.some.inj (hfn'.symm.trans hfn)
  subst e
  obtain ⟨⟨⟨ds, gs, before, hw, hc⟩, hx⟩, hz⟩ := hpre
  have hw' := DataW.Whole.of_heap (w' := w.forCall tape i) (by rfl) hw
  refine (contract (w.forCall tape i) w.heap.size i.args ds gs before hval hw' (hX _ _ _ (by rfl) hx) hsh).mono fun e W' ⟨v, he, hp⟩ => ?_
  subst he
  exact ChangeSpec.post_blind hp

theorem cellsInt : Tryz.prog.cellsOf 3 = 1 := by kernel_rfl
theorem laidOut : laidOutB Tryz.prog = true := by kernel_rfl

set_option maxRecDepth 100000 in
/-- A slice of numbers that came in. -/
theorem ints_came {H : Type} {enc : TypeId × Value → H} {W : World} {base : Nat} {sp : Nat → Bool} {v : Value} {d : DataW H} {p : List MemPlace} (hv : Value.okWide Tryz.prog W .any base 39 v)
    (h : DataW.Trod enc Tryz.prog W 0 sp true 39 v d p) : ∃ l, IntsAt W v l ∧ ∀ x ∈ l, (Lit.int .i64 x).wf = true := by
  obtain ⟨a0, len, cap, rfl⟩ := okWide_slice Tryz.underlying39 hv
  obtain ⟨fuel, hf⟩ := h
  rcases open_ints Tryz.underlying39 Tryz.underlying3 cellsInt hf with ⟨hcs, hx⟩ | ⟨a, len', cap', zs, hcs, _, hl, hm, hz, hx, hcell, hwz⟩
  · simp [Value.cells] at hcs
    obtain ⟨rfl, rfl, rfl⟩ := hcs
    exact ⟨[], At.nil _ _ _, fun _ h => by cases h⟩
  · simp [Value.cells] at hcs
    obtain ⟨rfl, rfl, rfl⟩ := hcs
    have hzl : len ≤ zs.length := by split at hz <;> omega
    have hlen : (zs.take len).length = len := by rw [List.length_take]; omega
    refine ⟨zs.take len, ⟨some a, cap, a.block, a.off, by rw [hlen], fun h0 => ?_, by rw [hlen]; exact hl, hm, fun k x hk j u hu => ?_⟩, fun x hx => hwz x (List.mem_of_mem_take hx)⟩
    · obtain ⟨b, off, spot⟩ := a
      have hs : spot = none := by simpa [Addr.add] using World.cell?_spot (hcell 0 (by omega))
      subst hs; rfl
    · obtain rfl : j = 0 := by
        rcases Nat.eq_zero_or_pos j with h | h
        · exact h
        · rw [List.getElem?_eq_none (by simp; omega)] at hu; cases hu
      obtain rfl : .int .i64 x = u := by simpa using hu
      have hk' : k < len := by
        rcases Nat.lt_or_ge k len with h | h
        · exact h
        · rw [List.getElem?_eq_none (by omega)] at hk; cases hk
      have hc := hcell k (by omega)
      have hx : zs.getD k 0 = x := by
        rw [List.getElem?_take_of_lt hk'] at hk
        simp [List.getD, hk]
      rw [hx] at hc
      obtain ⟨b, off, spot⟩ := a
      have hs : spot = none := by simpa [Addr.add] using World.cell?_spot (hcell 0 (by omega))
      subst hs
      have hadd : (⟨b, off, none⟩ : Addr).add k = ⟨b, off + k, none⟩ := by
        unfold Addr.add; split <;> simp_all
      rw [hadd] at hc
      simpa using hc

theorem global_lt {P : Program} {W : World} {g : Nat} (h : W.ShapedOpen P) (hg : g < P.globals.size) (h0 : (((begin P (fun _ _ => 0) default).world.heap[g]?).bind Obj.row?).isSome = true) : g < W.heap.size := by
  obtain ⟨⟨zero, t⟩, hx⟩ := Option.isSome_iff_exists.1 h0
  obtain ⟨cs, hh, _⟩ := h.1 g zero t hg hx
  exact (Array.getElem?_eq_some_iff.1 hh).1
theorem lastG : ((((begin Tryz.prog (fun _ _ => 0) default).world.heap[21 - 1]?).bind Obj.row?).isSome) = true := by kernel_rfl
theorem globals_le {W : World} (h : W.ShapedOpen Tryz.prog) : 21 ≤ W.heap.size := by
  have := global_lt h (g := 21 - 1) (of_decide_eq_true (by kernel_rfl)) lastG
  omega
theorem max_begin : ((begin Tryz.prog (fun _ _ => 0) default).world.heap[12]?).bind Obj.row? = some (#[.int .i64 0], 3) := by kernel_rfl
theorem lmax_of {W : World} (h : W.ShapedOpen Tryz.prog) : LMax W.heap.size W :=
  ⟨cell_of_shapedOpen_int (g := 12) (t := 3) h (of_decide_eq_true (by kernel_rfl)) max_begin rfl (by kernel_rfl) (by kernel_rfl) Tryz.underlying3, globals_le h, Nat.le_refl _⟩

theorem tabT : (Tryz.prog.globals[14]?).map (·.type) = some 277 := by kernel_rfl
theorem synG : Tryz.prog.globalNamed "strconv.ErrSyntax" = some 15 := by kernel_rfl
theorem synT : (Tryz.prog.globals[15]?).map (·.type) = some 27 := by kernel_rfl
theorem rngG : Tryz.prog.globalNamed "strconv.ErrRange" = some 16 := by kernel_rfl
theorem rngT : (Tryz.prog.globals[16]?).map (·.type) = some 27 := by kernel_rfl
theorem cells20 : Tryz.prog.cellsOf 277 = 20 := by kernel_rfl
theorem cellsU64 : Tryz.prog.cellsOf 143 = 1 := by kernel_rfl
theorem under20 : Tryz.prog.underlying 277 = some (.array 20 143) := by kernel_rfl
theorem underU64 : Tryz.prog.underlying 143 = some (.int .u64) := by kernel_rfl

theorem iface_laid {W : World} {L : List (String × DataW Unit)} {ps : List MemPlace} {i g : Nat} {n nm : String} {d : DataW Unit} (hv : DataW.LaidVars Tryz.prog W L ps) (hi : L[i]? = some (n, .iface nm d)) (hg : Tryz.prog.globalNamed n = some g) (ht : (Tryz.prog.globals[g]?).map (·.type) = some 27) :
    ∃ te pe, W.cell? ⟨g, 0, none⟩ = some (.iface te pe) := by
  obtain ⟨g', t, cs, fuel, p, h1, h2, h3, h4, h5⟩ := laidVars_get hv hi
  obtain rfl := Option.some.inj (hg.symm.trans h1)
  obtain rfl := Option.some.inj (ht.symm.trans h2)
  obtain ⟨l0⟩ := cs
  obtain ⟨f1, u, v, rfl, _, _⟩ := iface_of_trod Tryz.underlying27 h4
  exact ⟨u, v, by simpa using World.var?_cell hg h3 0⟩

theorem lnum_of {W : World} {L : List (String × DataW Unit)} {i j k : Nat} {n1 n2 : String} {d1 d2 : DataW Unit} (h : laidMet Tryz.prog L W) (hsh : W.ShapedOpen Tryz.prog) (hi : L[i]? = some ("internal/strconv.uint64pow10", Lib.tabData .u64 Lib.pow10Tab))
    (hj : L[j]? = some ("strconv.ErrSyntax", .iface n1 d1)) (hk : L[k]? = some ("strconv.ErrRange", .iface n2 d2)) : LNum W.heap.size W := by
  obtain ⟨ps, hv, _, _⟩ := h
  refine ⟨?_, iface_laid hv hj synG synT, iface_laid hv hk rngG rngT, globals_le hsh, Nat.le_refl _⟩
  obtain ⟨g', t, cs, fuel, p, h1, h2, h3, h4, h5⟩ := laidVars_get hv hi
  obtain rfl := Option.some.inj (pow10G.symm.trans h1)
  obtain rfl := Option.some.inj (tabT.symm.trans h2)
  unfold Lib.TabIs
  rw [h3, ← Lib.cells_of_tab under20 underU64 cellsU64 cells20 h4]
end Go.Proofs.YtcdcfolhnjgigaaGreatDoor
namespace Go.Proofs.YtcdcfolhnjgigaaGreatDoor
open Go.ChangeShapes Go.WideShapes Go.ChangeAt Go.RowKit

theorem some_ix {α : Type} {l : List α} {n k : Nat} (h : l.length = n) (hk : k < n) : ∃ x, l[k]? = some x := ⟨l[k]'(by omega), by simp [h, hk]⟩
theorem six_of {α : Type} : ∀ {l : List α}, l.length = 6 → ∃ a b c d e f, l = [a, b, c, d, e, f]
  | [a, b, c, d, e, f], _ => ⟨a, b, c, d, e, f, rfl⟩

set_option maxRecDepth 100000 in
/-- The slice's cells, by its elements' own reading. -/
theorem slice_came {H : Type} {enc : TypeId × Value → H} {W : World} {base fuel : Nat} {sp : Nat → Bool} {held : Bool} {cs : List Value} {y : DataW H × List MemPlace} {α : Type} (en : α → List Value) (sz : Nat) (hsz : 0 < sz) (tS tE : TypeId) (hu : Tryz.prog.underlying tS = some (.slice tE)) (hc : Tryz.prog.cellsOf tE = sz)
    (Pr : α → Prop) (one : ∀ (fuel : Nat) (sp : Nat → Bool) (held : Bool) (cs : List Value) (y : DataW H × List MemPlace), DataW.trod enc Tryz.prog W base sp held fuel tE cs = some y → ∃ x : α, cs = en x ∧ (en x).length = sz ∧ Pr x)
    (hf : DataW.trod enc Tryz.prog W base sp held fuel tS cs = some y) : ∃ v l, cs = [v] ∧ At en sz W v l ∧ ∀ x ∈ l, Pr x := by
  rcases DataW.trod_slice hu hf with ⟨hcs, hx⟩ | ⟨a, len', cap', elems, rest, n, _, hcs, _, _, hl, hm, hlen, hel, _, _⟩
  · exact ⟨_, [], hcs, At.nil _ _ _, fun _ h => by cases h⟩
  · refine ⟨.slice (some a) len' cap', ?_⟩
    rcases Nat.eq_zero_or_pos len' with rfl | hpos
    · exact ⟨[], hcs, ⟨some a, cap', 0, 0, rfl, fun h => absurd h (by simp), by simp, hm, fun k x h => by simp at h⟩, fun _ h => by cases h⟩
    obtain ⟨b, off, spot⟩ := a
    have hsp : spot = none := by
      have h1 := hel 0 hpos
      obtain ⟨y, hy⟩ := some_ix hlen hpos
      rw [hy, hc, Option.bind_eq_some_iff] at h1
      obtain ⟨cs, hcl, ht⟩ := h1
      obtain ⟨x, rfl, hxl, _⟩ := one _ _ _ _ _ ht
      obtain ⟨_, _, hcc⟩ := World.cells?_some hcl
      obtain ⟨u, hu0⟩ := some_ix hxl hsz
      have := hcc 0 hsz
      rw [hu0] at this
      have := World.cell?_spot this
      simpa [Addr.add] using this
    subst hsp
    have each : ∀ i, i < len' → ∃ x : α, (∀ j u, (en x)[j]? = some u → W.cell? ((⟨b, off, none⟩ : Addr).add (i * sz + j)) = some u) ∧ Pr x := by
      intro i hi
      have h1 := hel i hi
      obtain ⟨y, hy⟩ := some_ix hlen hi
      rw [hy, hc, Option.bind_eq_some_iff] at h1
      obtain ⟨cs, hcl, ht⟩ := h1
      obtain ⟨x, rfl, hxl, hp⟩ := one _ _ _ _ _ ht
      obtain ⟨_, _, hcc⟩ := World.cells?_some hcl
      refine ⟨x, fun j u hu => ?_, hp⟩
      have hj : j < sz := by
        rcases Nat.lt_or_ge j sz with h | h
        · exact h
        · rw [List.getElem?_eq_none (by omega)] at hu; cases hu
      have := hcc j hj
      rw [hu] at this
      rw [add_lit] at this
      rw [add_lit] at this
      rw [add_lit, ← Nat.add_assoc]
      exact this
    have build : ∀ m, m ≤ len' → ∃ l : List α, l.length = m ∧ (∀ k x, l[k]? = some x → ∀ j u, (en x)[j]? = some u → W.cell? ((⟨b, off, none⟩ : Addr).add (k * sz + j)) = some u) ∧ ∀ x ∈ l, Pr x := by
      intro m
      induction m with
      | zero => exact fun _ => ⟨[], rfl, fun k x h => by simp at h, fun _ h => by cases h⟩
      | succ m ih =>
        intro hm
        obtain ⟨l, h1, h2, h3⟩ := ih (by omega)
        obtain ⟨x, hx, hn⟩ := each m (by omega)
        refine ⟨l ++ [x], by simp [h1], fun k z hk j u hu => ?_, fun z hz => ?_⟩
        · rcases Nat.lt_or_ge k l.length with h | h
          · rw [List.getElem?_append_left h] at hk
            exact h2 k z hk j u hu
          · have hk' := (List.getElem?_eq_some_iff.1 hk).1
            rw [List.length_append, List.length_singleton] at hk'
            obtain rfl : k = l.length := by omega
            rw [List.getElem?_append_right (Nat.le_refl _), Nat.sub_self] at hk
            simp at hk
            subst hk
            rw [h1]
            exact hx j u hu
        · rcases List.mem_append.1 hz with h | h
          · exact h3 z h
          · simp at h; subst h; exact hn
    obtain ⟨l, h1, h2, h3⟩ := build len' (Nat.le_refl _)
    refine ⟨l, hcs, ⟨_, cap', b, off, by rw [h1], fun _ => rfl, by rw [h1]; exact hl, hm, fun k x hk j u hu => ?_⟩, h3⟩
    have := h2 k x hk j u hu
    rw [add_lit, ← Nat.add_assoc] at this
    exact this

set_option maxRecDepth 100000 in
/-- The same, of a parameter. -/
theorem param_came {H : Type} {enc : TypeId × Value → H} {W : World} {base : Nat} {sp : Nat → Bool} {v : Value} {d : DataW H} {p : List MemPlace} {α : Type} (en : α → List Value) (sz : Nat) (hsz : 0 < sz) (tS tE : TypeId) (hu : Tryz.prog.underlying tS = some (.slice tE)) (hc : Tryz.prog.cellsOf tE = sz)
    (Pr : α → Prop) (one : ∀ (fuel : Nat) (sp : Nat → Bool) (held : Bool) (cs : List Value) (y : DataW H × List MemPlace), DataW.trod enc Tryz.prog W 0 sp held fuel tE cs = some y → ∃ x : α, cs = en x ∧ (en x).length = sz ∧ Pr x)
    (hv : Value.okWide Tryz.prog W .any base tS v) (h : DataW.Trod enc Tryz.prog W 0 sp true tS v d p) : ∃ l, At en sz W v l ∧ ∀ x ∈ l, Pr x := by
  obtain ⟨a0, len, cap, rfl⟩ := okWide_slice hu hv
  obtain ⟨fuel, hf⟩ := h
  obtain ⟨v, l, hcs, ha, hp⟩ := slice_came en sz hsz tS tE hu hc Pr one hf
  simp [Value.cells] at hcs
  subst hcs
  exact ⟨l, ha, hp⟩

theorem str_of_trod {H : Type} {enc : TypeId × Value → H} {W : World} {base fuel : Nat} {sp : Nat → Bool} {held : Bool} {cs : List Value} {y : DataW H × List MemPlace} (h : DataW.trod enc Tryz.prog W base sp held fuel 9 cs = some y) :
    ∃ s : Str, cs = encS s := by
  obtain ⟨s, h0, _, _⟩ := DataW.trod_string Tryz.underlying9 h
  exact ⟨s.data.toList, by rw [h0]⟩
theorem cellsFile : Tryz.prog.cellsOf 69 = 6 := by kernel_rfl
theorem cellsStrF : Tryz.prog.cellsOf 9 = 1 := by kernel_rfl
/-- An integer's bounds. -/
def inI (n : Int) : Prop := -9223372036854775808 ≤ n ∧ n ≤ 9223372036854775807
def FileWf (x : Fl) : Prop := inI x.n ∧ inI x.lo ∧ inI x.hi ∧ inI x.seq
/-- One file, read. -/
theorem file_of_trod {H : Type} {enc : TypeId × Value → H} {W : World} {base fuel : Nat} {sp : Nat → Bool} {held : Bool} {cs : List Value} {y : DataW H × List MemPlace} (h : DataW.trod enc Tryz.prog W base sp held fuel 69 cs = some y) :
    ∃ x : Fl, cs = encF x ∧ (encF x).length = 6 ∧ FileWf x := by
  obtain ⟨xs, n, _, _, hl, hxs, hf⟩ := DataW.trod_struct Tryz.underlying69 h
  rw [cellsFile] at hl
  obtain ⟨c0, c1, c2, c3, c4, c5, rfl⟩ := six_of hl
  have f0 := hf 0 _ rfl
  have f1 := hf 1 _ rfl
  have f2 := hf 2 _ rfl
  have f3 := hf 3 _ rfl
  have f4 := hf 4 _ rfl
  have f5 := hf 5 _ rfl
  obtain ⟨x0, e0⟩ := some_ix hxs (k := 0) (by decide)
  obtain ⟨x1, e1⟩ := some_ix hxs (k := 1) (by decide)
  obtain ⟨x2, e2⟩ := some_ix hxs (k := 2) (by decide)
  obtain ⟨x3, e3⟩ := some_ix hxs (k := 3) (by decide)
  obtain ⟨x4, e4⟩ := some_ix hxs (k := 4) (by decide)
  obtain ⟨x5, e5⟩ := some_ix hxs (k := 5) (by decide)
  rw [e0] at f0; rw [e1] at f1; rw [e2] at f2; rw [e3] at f3; rw [e4] at f4; rw [e5] at f5
  obtain ⟨s0, h0, _, _⟩ := DataW.trod_string Tryz.underlying9 f0
  obtain ⟨s1, h1, _, _⟩ := DataW.trod_string Tryz.underlying9 f1
  obtain ⟨m2, h2, _, w2⟩ := DataW.trod_int Tryz.underlying3 f2
  obtain ⟨m3, h3, _, w3⟩ := DataW.trod_int Tryz.underlying3 f3
  obtain ⟨m4, h4, _, w4⟩ := DataW.trod_int Tryz.underlying3 f4
  obtain ⟨m5, h5, _, w5⟩ := DataW.trod_int Tryz.underlying3 f5
  simp [cellsStrF, cellsInt] at h0 h1 h2 h3 h4 h5
  subst h0 h1 h2 h3 h4 h5
  exact ⟨⟨s0.data.toList, s1.data.toList, m2, m3, m4, m5⟩, by simp, rfl, bounds_i64 w2, bounds_i64 w3, bounds_i64 w4, bounds_i64 w5⟩
set_option maxRecDepth 100000 in
/-- A slice of files that came in. -/
theorem files_came {H : Type} {enc : TypeId × Value → H} {W : World} {base : Nat} {sp : Nat → Bool} {v : Value} {d : DataW H} {p : List MemPlace} (hv : Value.okWide Tryz.prog W .any base 56 v)
    (h : DataW.Trod enc Tryz.prog W 0 sp true 56 v d p) : ∃ l, FilesAt W v l ∧ ∀ x ∈ l, FileWf x :=
  param_came encF 6 (by decide) _ _ Tryz.underlying56 cellsFile FileWf (fun _ _ _ _ _ ht => file_of_trod ht) hv h
end Go.Proofs.YtcdcfolhnjgigaaGreatDoor
namespace Go.Proofs.YtcdcfolhnjgigaaGreatDoor
open Go.ChangeShapes Go.WideShapes Go.ChangeAt Go.RowKit

set_option maxRecDepth 100000 in
theorem int_came {H : Type} {enc : TypeId × Value → H} {W : World} {base : Nat} {sp : Nat → Bool} {v : Value} {d : DataW H} {p : List MemPlace} (hv : Value.okWide Tryz.prog W .any base 3 v)
    (h : DataW.Trod enc Tryz.prog W 0 sp true 3 v d p) : ∃ x, v = .int .i64 x ∧ (-9223372036854775808 ≤ x ∧ x ≤ 9223372036854775807) := by
  obtain ⟨x, h1, _, _, wx⟩ := open_int Tryz.underlying3 hv h
  exact ⟨x, h1, bounds_i64 wx⟩
set_option maxRecDepth 100000 in
theorem str_came {H : Type} {enc : TypeId × Value → H} {W : World} {base : Nat} {sp : Nat → Bool} {v : Value} {d : DataW H} {p : List MemPlace} (hv : Value.okWide Tryz.prog W .any base 9 v)
    (h : DataW.Trod enc Tryz.prog W 0 sp true 9 v d p) : ∃ s : Str, v = S s ∧ (s.length : Int) ≤ 9223372036854775807 := by
  obtain ⟨s, h1, _, _, ws⟩ := ChangeMaps.open_string Tryz.underlying9 hv h
  refine ⟨s.data.toList, by rw [h1], ?_⟩
  have : s.data.toList.length = s.size := Array.length_toList
  unfold maxLen at ws; omega
theorem bounds_u8 {n : Int} (h : (Lit.int .u8 n).wf = true) : 0 ≤ n ∧ n ≤ 255 := by
  simp [Lit.wf, IntKind.min, IntKind.max, IntKind.signed, IntKind.bits] at h
  omega
set_option maxRecDepth 100000 in
theorem byte_came {H : Type} {enc : TypeId × Value → H} {W : World} {base : Nat} {sp : Nat → Bool} {v : Value} {d : DataW H} {p : List MemPlace} (hv : Value.okWide Tryz.prog W .any base 5 v)
    (h : DataW.Trod enc Tryz.prog W 0 sp true 5 v d p) : ∃ c : UInt8, v = .int .u8 c.toNat := by
  obtain ⟨x, h1, _, _, wx⟩ := open_int Tryz.underlying5 hv h
  have hb := bounds_u8 wx
  refine ⟨UInt8.ofNat x.toNat, ?_⟩
  rw [h1]
  congr 1
  rw [UInt8.toNat_ofNat', Nat.mod_eq_of_lt (by omega)]
  omega
set_option maxRecDepth 100000 in
/-- A file by value. -/
theorem file_came {H : Type} {enc : TypeId × Value → H} {W : World} {base : Nat} {sp : Nat → Bool} {v : Value} {d : DataW H} {p : List MemPlace} (hv : Value.okWide Tryz.prog W .any base 69 v)
    (h : DataW.Trod enc Tryz.prog W 0 sp true 69 v d p) : ∃ f : Fl, v = fileV f ∧ FileWf f := by
  obtain ⟨cs, rfl, hsz⟩ := okWide_struct Tryz.underlying69 hv
  obtain ⟨fuel, hf⟩ := h
  obtain ⟨x, h1, h2, h3⟩ := file_of_trod hf
  refine ⟨x, ?_, h3⟩
  simp only [Value.cells] at h1
  exact congrArg Value.agg (Array.toList_inj.1 h1)

theorem trodAll_five {H : Type} {enc : TypeId × Value → H} {P : Program} {w : World} {base : Nat} {sp : Nat → Bool} {held : Bool} {t1 t2 t3 t4 t5 : TypeId} {args : Array Value} {ds : List (DataW H)} {ps : List MemPlace} (h : DataW.TrodAll enc P w base sp held [t1, t2, t3, t4, t5] args.toList ds ps) :
    ∃ v1 v2 v3 v4 v5 d1 d2 d3 d4 d5 p1 p2 p3 p4 p5, args = #[v1, v2, v3, v4, v5] ∧ ds = [d1, d2, d3, d4, d5] ∧ ps = p1 ++ (p2 ++ (p3 ++ (p4 ++ p5))) ∧ DataW.Trod enc P w base sp held t1 v1 d1 p1 ∧ DataW.Trod enc P w base sp held t2 v2 d2 p2 ∧ DataW.Trod enc P w base sp held t3 v3 d3 p3 ∧ DataW.Trod enc P w base sp held t4 v4 d4 p4 ∧ DataW.Trod enc P w base sp held t5 v5 d5 p5 := by
  obtain ⟨l⟩ := args
  obtain ⟨v1, l1, d1, e1, p1, q1, rfl, rfl, rfl, h1, h⟩ := trodAll_cons h
  obtain ⟨v2, l2, d2, e2, p2, q2, rfl, rfl, rfl, h2, h⟩ := trodAll_cons h
  obtain ⟨v3, l3, d3, e3, p3, q3, rfl, rfl, rfl, h3, h⟩ := trodAll_cons h
  obtain ⟨v4, l4, d4, e4, p4, q4, rfl, rfl, rfl, h4, h⟩ := trodAll_cons h
  obtain ⟨v5, l5, d5, e5, p5, q5, rfl, rfl, rfl, h5, h⟩ := trodAll_cons h
  obtain ⟨rfl, rfl, rfl⟩ := trodAll_nil h
  exact ⟨v1, v2, v3, v4, v5, d1, d2, d3, d4, d5, p1, p2, p3, p4, p5, rfl, rfl, by simp, h1, h2, h3, h4, h5⟩
theorem trodAll_six {H : Type} {enc : TypeId × Value → H} {P : Program} {w : World} {base : Nat} {sp : Nat → Bool} {held : Bool} {t1 t2 t3 t4 t5 t6 : TypeId} {args : Array Value} {ds : List (DataW H)} {ps : List MemPlace} (h : DataW.TrodAll enc P w base sp held [t1, t2, t3, t4, t5, t6] args.toList ds ps) :
    ∃ v1 v2 v3 v4 v5 v6 d1 d2 d3 d4 d5 d6 p1 p2 p3 p4 p5 p6, args = #[v1, v2, v3, v4, v5, v6] ∧ ds = [d1, d2, d3, d4, d5, d6] ∧ ps = p1 ++ (p2 ++ (p3 ++ (p4 ++ (p5 ++ p6)))) ∧ DataW.Trod enc P w base sp held t1 v1 d1 p1 ∧ DataW.Trod enc P w base sp held t2 v2 d2 p2 ∧ DataW.Trod enc P w base sp held t3 v3 d3 p3 ∧ DataW.Trod enc P w base sp held t4 v4 d4 p4 ∧ DataW.Trod enc P w base sp held t5 v5 d5 p5 ∧ DataW.Trod enc P w base sp held t6 v6 d6 p6 := by
  obtain ⟨l⟩ := args
  obtain ⟨v1, l1, d1, e1, p1, q1, rfl, rfl, rfl, h1, h⟩ := trodAll_cons h
  obtain ⟨v2, l2, d2, e2, p2, q2, rfl, rfl, rfl, h2, h⟩ := trodAll_cons h
  obtain ⟨v3, l3, d3, e3, p3, q3, rfl, rfl, rfl, h3, h⟩ := trodAll_cons h
  obtain ⟨v4, l4, d4, e4, p4, q4, rfl, rfl, rfl, h4, h⟩ := trodAll_cons h
  obtain ⟨v5, l5, d5, e5, p5, q5, rfl, rfl, rfl, h5, h⟩ := trodAll_cons h
  obtain ⟨v6, l6, d6, e6, p6, q6, rfl, rfl, rfl, h6, h⟩ := trodAll_cons h
  obtain ⟨rfl, rfl, rfl⟩ := trodAll_nil h
  exact ⟨v1, v2, v3, v4, v5, v6, d1, d2, d3, d4, d5, d6, p1, p2, p3, p4, p5, p6, rfl, rfl, by simp, h1, h2, h3, h4, h5, h6⟩
end Go.Proofs.YtcdcfolhnjgigaaGreatDoor
namespace Go.Proofs.YtcdcfolhnjgigaaGreatDoor
open Go.ChangeShapes Go.WideShapes Go.ChangeAt Go.RowKit

theorem cellsRow : Tryz.prog.cellsOf 36 = 3 := by kernel_rfl
theorem three_of {α : Type} : ∀ {l : List α}, l.length = 3 → ∃ a b c, l = [a, b, c]
  | [a, b, c], _ => ⟨a, b, c, rfl⟩
theorem row_of_trod {H : Type} {enc : TypeId × Value → H} {W : World} {base fuel : Nat} {sp : Nat → Bool} {held : Bool} {cs : List Value} {y : DataW H × List MemPlace} (h : DataW.trod enc Tryz.prog W base sp held fuel 36 cs = some y) :
    ∃ x : Rw, cs = encR x ∧ (encR x).length = 3 ∧ RowWf x := by
  obtain ⟨xs, n, _, _, hl, hxs, hf⟩ := DataW.trod_struct Tryz.underlying36 h
  rw [cellsRow] at hl
  obtain ⟨c0, c1, c2, rfl⟩ := three_of hl
  have f0 := hf 0 _ rfl
  have f1 := hf 1 _ rfl
  have f2 := hf 2 _ rfl
  obtain ⟨x0, e0⟩ := some_ix hxs (k := 0) (by decide)
  obtain ⟨x1, e1⟩ := some_ix hxs (k := 1) (by decide)
  obtain ⟨x2, e2⟩ := some_ix hxs (k := 2) (by decide)
  rw [e0] at f0; rw [e1] at f1; rw [e2] at f2
  obtain ⟨s0, h0, _, _⟩ := DataW.trod_string Tryz.underlying9 f0
  obtain ⟨m1, h1, _, w1⟩ := DataW.trod_int Tryz.underlying3 f1
  obtain ⟨m2, h2, _, w2⟩ := DataW.trod_int Tryz.underlying3 f2
  simp [cellsStrF, cellsInt] at h0 h1 h2
  subst h0 h1 h2
  exact ⟨⟨s0.data.toList, m1, m2⟩, by simp, rfl, bounds_i64 w1, bounds_i64 w2⟩
set_option maxRecDepth 100000 in
/-- A slice of rows that came in. -/
theorem rows_came {H : Type} {enc : TypeId × Value → H} {W : World} {base : Nat} {sp : Nat → Bool} {v : Value} {d : DataW H} {p : List MemPlace} (hv : Value.okWide Tryz.prog W .any base 22 v)
    (h : DataW.Trod enc Tryz.prog W 0 sp true 22 v d p) : ∃ l, RowsAt W v l ∧ ∀ x ∈ l, RowWf x :=
  param_came encR 3 (by decide) _ _ Tryz.underlying22 cellsRow RowWf (fun _ _ _ _ _ ht => row_of_trod ht) hv h
end Go.Proofs.YtcdcfolhnjgigaaGreatDoor
namespace Go.Proofs.YtcdcfolhnjgigaaGreatDoor

def crcP : Nat := 3988292384
def crcBit (x : Nat) : Nat := if x % 2 = 1 then x / 2 ^^^ crcP else x / 2
def crcIter : Nat → Nat → Nat
  | 0, x => x
  | k + 1, x => crcIter k (crcBit x)
def crcStep (c : Nat) (b : UInt8) : Nat := crcIter 8 (c ^^^ b.toNat)
def crcFold (c : Nat) (s : Str) : Nat := s.foldl crcStep c
def sumOf (s : Str) : Nat := crcFold 4294967295 s ^^^ 4294967295

theorem xor_canc {a b c : Nat} (h : a ^^^ c = b ^^^ c) : a = b := by
  have := congrArg (· ^^^ c) h
  simpa [Nat.xor_assoc] using this
theorem xor_cancl {a b c : Nat} (h : c ^^^ a = c ^^^ b) : a = b := xor_canc (c := c) (by rw [Nat.xor_comm a, Nat.xor_comm b]; exact h)
theorem crcBit_lt {x : Nat} (h : x < 4294967296) : crcBit x < 4294967296 := by
  unfold crcBit crcP
  split
  · exact Nat.xor_lt_two_pow (n := 32) (by omega) (by omega)
  · omega
theorem crcBit_inj {x y : Nat} (hx : x < 4294967296) (hy : y < 4294967296) (h : crcBit x = crcBit y) : x = y := by
  have t : ∀ a : Nat, a < 2 ^ 31 → (a ^^^ crcP).testBit 31 = true := fun a ha => by
    rw [Nat.testBit_xor, Nat.testBit_lt_two_pow ha]; decide
  have f : ∀ a : Nat, a < 2 ^ 31 → a.testBit 31 = false := fun a ha => Nat.testBit_lt_two_pow ha
  unfold crcBit at h
  split at h <;> split at h
  · have := xor_canc h; omega
  · have h1 := t (x / 2) (by omega); rw [h, f (y / 2) (by omega)] at h1; cases h1
  · have h1 := t (y / 2) (by omega); rw [← h, f (x / 2) (by omega)] at h1; cases h1
  · omega
theorem crcIter_lt : ∀ (k : Nat) {x : Nat}, x < 4294967296 → crcIter k x < 4294967296
  | 0, _, h => h
  | k + 1, _, h => crcIter_lt k (crcBit_lt h)
theorem crcIter_inj : ∀ (k : Nat) {x y : Nat}, x < 4294967296 → y < 4294967296 → crcIter k x = crcIter k y → x = y
  | 0, _, _, _, _, h => h
  | k + 1, _, _, hx, hy, h => crcBit_inj hx hy (crcIter_inj k (crcBit_lt hx) (crcBit_lt hy) h)
theorem byte_lt (b : UInt8) : b.toNat < 256 := b.toNat_lt
theorem xor_byte {c : Nat} (h : c < 4294967296) (b : UInt8) : c ^^^ b.toNat < 4294967296 :=
  Nat.xor_lt_two_pow (n := 32) h (by have := byte_lt b; omega)
theorem crcStep_lt {c : Nat} (h : c < 4294967296) (b : UInt8) : crcStep c b < 4294967296 := crcIter_lt 8 (xor_byte h b)
theorem crcStep_state {c d : Nat} {b : UInt8} (hc : c < 4294967296) (hd : d < 4294967296) (h : crcStep c b = crcStep d b) : c = d :=
  xor_canc (crcIter_inj 8 (xor_byte hc b) (xor_byte hd b) h)
theorem crcStep_byte {c : Nat} {a b : UInt8} (hc : c < 4294967296) (h : crcStep c a = crcStep c b) : a = b :=
  UInt8.toNat_inj.1 (xor_cancl (crcIter_inj 8 (xor_byte hc a) (xor_byte hc b) h))
theorem crcFold_lt : ∀ (s : Str) {c : Nat}, c < 4294967296 → crcFold c s < 4294967296
  | [], _, h => h
  | b :: r, _, h => crcFold_lt r (crcStep_lt h b)
theorem crcFold_inj : ∀ (s : Str) {c d : Nat}, c < 4294967296 → d < 4294967296 → crcFold c s = crcFold d s → c = d
  | [], _, _, _, _, h => h
  | b :: r, _, _, hc, hd, h => crcStep_state hc hd (crcFold_inj r (crcStep_lt hc b) (crcStep_lt hd b) h)
theorem crcFold_app (c : Nat) (p q : Str) : crcFold c (p ++ q) = crcFold (crcFold c p) q := List.foldl_append
theorem crcFold_snoc (c : Nat) (p : Str) (b : UInt8) : crcFold c (p ++ [b]) = crcStep (crcFold c p) b := by rw [crcFold_app]; rfl
theorem sumOf_lt (s : Str) : sumOf s < 4294967296 := Nat.xor_lt_two_pow (n := 32) (crcFold_lt s (by omega)) (by omega)
/-- One byte another one: another sum. -/
theorem sumOf_one {p q : Str} {a b : UInt8} (h : sumOf (p ++ a :: q) = sumOf (p ++ b :: q)) : a = b := by
  have h1 := xor_canc h
  rw [crcFold_app, crcFold_app] at h1
  have hc := crcFold_lt p (c := 4294967295) (by omega)
  exact crcStep_byte hc (crcFold_inj q (crcStep_lt hc a) (crcStep_lt hc b) h1)
theorem sumOf_set {s : Str} {i : Nat} {c x : UInt8} (hx : s[i]? = some x) (hne : x ≠ c) : sumOf (s.set i c) ≠ sumOf s := by
  obtain ⟨hi, rfl⟩ := List.getElem?_eq_some_iff.1 hx
  intro h
  have e1 : s.set i c = s.take i ++ c :: s.drop (i + 1) := List.set_eq_take_append_cons_drop.trans (if_pos hi)
  have e2 : s = s.take i ++ s[i] :: s.drop (i + 1) := by rw [← List.drop_eq_getElem_cons hi, List.take_append_drop]
  have e3 : sumOf s = sumOf (s.take i ++ s[i] :: s.drop (i + 1)) := congrArg sumOf e2
  rw [e1, e3] at h
  exact hne (sumOf_one h).symm

theorem crcIter_high : ∀ (k x h : Nat), crcIter k (x ^^^ 2 ^ k * h) = crcIter k x ^^^ h
  | 0, x, h => by simp [crcIter]
  | k + 1, x, h => by
    have e : crcBit (x ^^^ 2 ^ (k + 1) * h) = crcBit x ^^^ 2 ^ k * h := by
      have e0 : 2 ^ (k + 1) * h = 2 * (2 ^ k * h) := by rw [Nat.pow_succ, Nat.mul_comm (2 ^ k) 2, Nat.mul_assoc]
      rw [e0]
      generalize 2 ^ k * h = m
      have hm : (x ^^^ 2 * m) % 2 = x % 2 := by
        have := Nat.xor_mod_two_pow (a := x) (b := 2 * m) (n := 1)
        rw [Nat.pow_one, Nat.mul_mod_right, Nat.xor_zero] at this
        exact this
      have hd : (x ^^^ 2 * m) / 2 = x / 2 ^^^ m := by
        rw [Nat.xor_div_two]; congr 1; omega
      unfold crcBit
      rw [hm, hd]
      split
      · rw [Nat.xor_assoc, Nat.xor_comm m crcP, ← Nat.xor_assoc]
      · rfl
    rw [crcIter, e, crcIter_high k, crcIter]
theorem low_high (c : Nat) : c = c % 256 ^^^ 2 ^ 8 * (c / 256) := by
  apply Nat.eq_of_testBit_eq
  intro i
  rw [Nat.testBit_xor, Nat.testBit_two_pow_mul, show (256 : Nat) = 2 ^ 8 from rfl, Nat.testBit_mod_two_pow, Nat.testBit_div_two_pow]
  by_cases h : i < 8
  · have h' : ¬ 8 ≤ i := by omega
    simp [h, h']
  · have h' : 8 ≤ i := by omega
    simp [h, h']
/-- A round by the table. -/
theorem crc_table (c : Nat) (b : UInt8) : c / 256 ^^^ crcIter 8 (c % 256 ^^^ b.toNat) = crcStep c b := by
  unfold crcStep
  have e : c ^^^ b.toNat = (c % 256 ^^^ b.toNat) ^^^ 2 ^ 8 * (c / 256) := by
    rw [Nat.xor_assoc, Nat.xor_comm b.toNat, ← Nat.xor_assoc, ← low_high]
  rw [e, crcIter_high, Nat.xor_comm]
theorem crcIter_succ (k x : Nat) : crcIter (k + 1) x = crcBit (crcIter k x) := by
  induction k generalizing x with
  | zero => rfl
  | succ k ih => rw [crcIter, ih, crcIter]
end Go.Proofs.YtcdcfolhnjgigaaGreatDoor
namespace Go.Proofs.YtcdcfolhnjgigaaGreatDoor
open Go.RowKit

/-- A table at one time. -/
structure Sn where
  id : Int
  parent : Int
  seq : Int
  day : Int
  index : Int
  op : Str
  files : List Fl
  deriving DecidableEq

abbrev kStart : Str := [115, 116, 97, 114, 116]
abbrev kAppend : Str := [97, 112, 112, 101, 110, 100]
abbrev kDelete : Str := [100, 101, 108, 101, 116, 101]
abbrev kRewrite : Str := [114, 101, 119, 114, 105, 116, 101]
abbrev kSnap : Str := [115, 110, 97, 112]
def kOps : List Str := [kStart, kAppend, kDelete, kRewrite]
def zeroSn : Sn := ⟨0, 0, 0, 0, 0, [], []⟩

def inB (n lo hi : Int) : Bool := decide (lo ≤ n) && decide (n ≤ hi)
def snapBound (s : Sn) : Bool := !inB s.id 1 1073741824 || (decide (s.parent < 0) || (decide (s.id ≤ s.parent) || (!inB s.seq 0 1073741824 || (!inB s.day 0 100000 || !inB s.index 0 1073741824))))
def seqFault (s : Sn) (i : Nat) : Nat :=
  match s.files[i]? with
  | none => 0
  | some f => if s.seq < f.seq then 9 else 0
/-- A snap's fault. -/
def snapCheck (s : Sn) : Er :=
  if snapBound s = true then .bare 2 else if s.op ∉ kOps then .bare 4 else if listCheck s.files ≠ .nil then listCheck s.files else firstErr (seqFault s) s.files.length
structure RightSn (s : Sn) : Prop where
  bnd : snapBound s = false
  op : s.op ∈ kOps
  lst : RightL s.files
  sq : ∀ f ∈ s.files, f.seq ≤ s.seq
theorem snap_iff (s : Sn) : snapCheck s = .nil ↔ RightSn s := by
  unfold snapCheck
  constructor
  · intro h
    split at h
    · cases h
    · rename_i h1
      split at h
      · cases h
      · rename_i h2
        split at h
        · rename_i h3; exact absurd h h3
        · rename_i h3
          have hf := firstErr_nil h
          refine ⟨by simpa using h1, Decidable.not_not.1 h2, (right_iff _).1 (Decidable.not_not.1 h3), fun f hf' => ?_⟩
          obtain ⟨i, hi⟩ := List.getElem?_of_mem hf'
          have := hf i (List.getElem?_eq_some_iff.1 hi).1
          unfold seqFault at this
          rw [hi] at this
          simp only at this
          split at this
          · cases this
          · omega
  · intro h
    rw [if_neg (by rw [h.bnd]; simp), if_neg (fun h' => h' h.op), if_neg (fun h' => h' ((right_iff _).2 h.lst))]
    refine firstErr_all fun j hj => ?_
    unfold seqFault
    obtain ⟨f, hf⟩ : ∃ f, s.files[j]? = some f := ⟨s.files[j], List.getElem?_eq_getElem hj⟩
    rw [hf]
    simp only
    rw [if_neg]
    have := h.sq f (List.mem_of_getElem? hf)
    omega
theorem RightSn.nums {s : Sn} (h : RightSn s) : (1 ≤ s.id ∧ s.id ≤ 1073741824) ∧ (0 ≤ s.parent ∧ s.parent < s.id) ∧ (0 ≤ s.seq ∧ s.seq ≤ 1073741824) ∧ (0 ≤ s.day ∧ s.day ≤ 100000) ∧ (0 ≤ s.index ∧ s.index ≤ 1073741824) := by
  have := h.bnd
  unfold snapBound inB at this
  simp at this
  omega

def snapHead (s : Sn) (sum : Int) : Str := kSnap ++ (numsTail [s.id, s.parent, s.seq, s.day, s.index] ++ 32 :: (s.op ++ 32 :: Lib.itoa sum))
def snapText (s : Sn) : Str := snapHead s (sumOf (listText s.files)) ++ 10 :: listText s.files

/-- What a head says. -/
def headOf : List Str → Option (Sn × Int)
  | [t, a, b, c, d, e, op, g] =>
    if t = kSnap then
      match numsOf [a, b, c, d, e, g] with
      | some [n0, n1, n2, n3, n4, n5] => some (⟨n0, n1, n2, n3, n4, op, []⟩, n5)
      | _ => none
    else none
  | _ => none
def headAt (s : Str) : Option (Sn × Int) := if (Lib.cut s [10]).2.2 = true then headOf (cutAt 32 (Lib.cut s [10]).1) else none
def bodyRead (x : Sn) (sum : Int) (body : Str) : Sn × Er :=
  if sum ≠ sumOf body then (zeroSn, .bare 10)
  else if listReadE body ≠ .nil then (zeroSn, listReadE body)
  else if snapCheck { x with files := listReadL body } ≠ .nil then (zeroSn, snapCheck { x with files := listReadL body })
  else ({ x with files := listReadL body }, .nil)
/-- A snap's text, read. -/
def snapRead (s : Str) : Sn × Er :=
  if 20000 < s.length then (zeroSn, .bare 2) else
  match headAt s with
  | none => (zeroSn, .bare 1)
  | some (x, sum) => bodyRead x sum (Lib.cut s [10]).2.1

theorem op_sign {op : Str} (h : op ∈ kOps) : (∀ c ∈ op, 47 ≤ c.toNat) ∧ op.length ≤ 7 := by
  unfold kOps at h
  simp only [List.mem_cons, List.not_mem_nil, or_false] at h
  rcases h with rfl | rfl | rfl | rfl <;> decide
theorem not_itoa32 (n : Int) : (32 : UInt8) ∉ Lib.itoa n := not_mem_itoa' (by decide) (by decide)
theorem cut_head {s : Sn} (h : s.op ∈ kOps) (sum : Int) : cutAt 32 (snapHead s sum) = [kSnap, Lib.itoa s.id, Lib.itoa s.parent, Lib.itoa s.seq, Lib.itoa s.day, Lib.itoa s.index, s.op, Lib.itoa sum] := by
  have hop : (32 : UInt8) ∉ s.op := fun hm => by have := (op_sign h).1 _ hm; revert this; decide
  have e : snapHead s sum = kSnap ++ 32 :: (Lib.itoa s.id ++ 32 :: (Lib.itoa s.parent ++ 32 :: (Lib.itoa s.seq ++ 32 :: (Lib.itoa s.day ++ 32 :: (Lib.itoa s.index ++ 32 :: (s.op ++ 32 :: Lib.itoa sum)))))) := by
    unfold snapHead numsTail; simp
  rw [e, cutAt_app (by decide), cutAt_app (not_itoa32 _), cutAt_app (not_itoa32 _), cutAt_app (not_itoa32 _), cutAt_app (not_itoa32 _), cutAt_app (not_itoa32 _), cutAt_app hop, cutAt_none (not_itoa32 _)]
theorem head_none {s : Sn} (h : s.op ∈ kOps) (sum : Int) : (10 : UInt8) ∉ snapHead s sum := by
  unfold snapHead
  intro hm
  have hs : ∀ c : UInt8, (c = 32 ∨ c = 45 ∨ 47 ≤ c.toNat) → c ≠ 10 := fun c hc => by
    rintro rfl; rcases hc with hc | hc | hc <;> revert hc <;> decide
  have hi : ∀ n, ∀ c ∈ Lib.itoa n, c = 32 ∨ c = 45 ∨ 47 ≤ c.toNat := fun n c hc => by
    rcases itoa_sign n c hc with h | h
    · exact .inr (.inl h)
    · exact .inr (.inr (by omega))
  rcases List.mem_append.1 hm with hm | hm
  · revert hm; decide
  · rcases List.mem_append.1 hm with hm | hm
    · exact hs _ (nums_sign _ _ hm) rfl
    · rcases List.mem_cons.1 hm with hm | hm
      · revert hm; decide
      · rcases List.mem_append.1 hm with hm | hm
        · exact hs _ (.inr (.inr ((op_sign h).1 _ hm))) rfl
        · rcases List.mem_cons.1 hm with hm | hm
          · revert hm; decide
          · exact hs _ (hi _ _ hm) rfl
theorem headOf_text {s : Sn} (h : RightSn s) (sum : Int) (h0 : 0 ≤ sum) (h1 : sum < 4294967296) : headOf (cutAt 32 (snapHead s sum)) = some ({ s with files := [] }, sum) := by
  obtain ⟨a1, a2, a3, a4, a5⟩ := h.nums
  rw [cut_head h.op]
  have hn : numsOf ([s.id, s.parent, s.seq, s.day, s.index, sum].map Lib.itoa) = some [s.id, s.parent, s.seq, s.day, s.index, sum] := numsOf_map _ fun x hx => by
    simp only [List.mem_cons, List.not_mem_nil, or_false] at hx
    rcases hx with rfl | rfl | rfl | rfl | rfl | rfl <;> omega
  simp only [List.map_cons, List.map_nil] at hn
  unfold headOf
  simp only [if_true, hn]
theorem head_len {s : Sn} (h : RightSn s) (sum : Int) (h0 : 0 ≤ sum) (h1 : sum < 4294967296) : (snapHead s sum).length ≤ 200 := by
  obtain ⟨a1, a2, a3, a4, a5⟩ := h.nums
  have hl := fun n (h0 : (0 : Int) ≤ n) (h1 : n ≤ 4294967296) => itoa_len n (by omega) (by omega)
  have b1 := hl s.id (by omega) (by omega); have b2 := hl s.parent (by omega) (by omega); have b3 := hl s.seq (by omega) (by omega); have b4 := hl s.day (by omega) (by omega); have b5 := hl s.index (by omega) (by omega); have b6 := hl sum h0 (by omega)
  have b7 := (op_sign h.op).2
  unfold snapHead numsTail
  simp
  omega
theorem text_len {s : Sn} (h : RightSn s) : (listText s.files).length ≤ 9060 := by
  have := listText_len h.lst.ok
  have := h.lst.len
  omega
theorem snapText_len {s : Sn} (h : RightSn s) : (snapText s).length ≤ 9300 := by
  have h1 := head_len h (sumOf (listText s.files)) (by omega) (by have := sumOf_lt (listText s.files); omega)
  have h2 := text_len h
  unfold snapText
  rw [List.length_append, List.length_cons]
  omega
theorem snapRead_of {s : Sn} (h : RightSn s) (body : Str) (hb : body.length ≤ 9060) : snapRead (snapHead s (sumOf (listText s.files)) ++ 10 :: body) = bodyRead { s with files := [] } (sumOf (listText s.files)) body := by
  have hsl := sumOf_lt (listText s.files)
  have h1 := head_len h (sumOf (listText s.files)) (by omega) (by omega)
  have hc := cut_app1 (c := 10) (p := snapHead s (sumOf (listText s.files))) (q := body) (head_none h.op _)
  unfold snapRead headAt
  rw [if_neg (by rw [List.length_append, List.length_cons]; omega), hc]
  simp only [if_true]
  rw [headOf_text h _ (by omega) (by omega)]
theorem snapRead_text {s : Sn} (h : RightSn s) : snapRead (snapText s) = (s, .nil) := by
  unfold snapText
  rw [snapRead_of h _ (text_len h)]
  obtain ⟨r1, r2⟩ := listRead_text h.lst
  have hs : ({ ({ s with files := [] } : Sn) with files := listReadL (listText s.files) } : Sn) = s := by rw [r2]
  unfold bodyRead
  rw [if_neg (by simp), if_neg (by rw [r1]; simp), hs, if_neg (by rw [(snap_iff s).2 h]; simp)]
theorem snapRead_one {s : Sn} (h : RightSn s) {i : Nat} {x c : UInt8} (hx : (listText s.files)[i]? = some x) (hne : x ≠ c) :
    snapRead (snapHead s (sumOf (listText s.files)) ++ 10 :: (listText s.files).set i c) = (zeroSn, .bare 10) := by
  rw [snapRead_of h _ (by rw [List.length_set]; exact text_len h)]
  unfold bodyRead
  rw [if_pos]
  have := sumOf_set hx hne
  omega
end Go.Proofs.YtcdcfolhnjgigaaGreatDoor
