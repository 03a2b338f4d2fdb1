/- From the row's condition on the listed variables to what the walks ask: the sentinels, and what errors.As reads. -/
import Derived.Test.YtpicofkmeijioaaGreatDoorErrs
import Derived.LaidLaws
import Derived.LaidHandle
import Derived.Stop.LaidErr
namespace Go.Proofs.YtpicofkmeijioaaGreatDoor
open Go.RowKit Go.ChangeShapes Go.WideShapes

def errName : Nat → String
  | 1 => "deedbox/api.ErrText" | 2 => "deedbox/api.ErrBound" | 3 => "deedbox/api.ErrShape" | 4 => "deedbox/api.ErrKind" | 5 => "deedbox/api.ErrName" | 6 => "deedbox/api.ErrNone"
  | 7 => "deedbox/api.ErrExist" | 8 => "deedbox/api.ErrFull" | 9 => "deedbox/api.ErrOrder" | 10 => "deedbox/api.ErrSum" | 11 => "deedbox/api.ErrStale" | _ => "deedbox/api.ErrOff"
theorem errName_inj : ∀ c ∈ allE, ∀ d ∈ allE, errName c = errName d → c = d := by decide

theorem laidVars_get {P : Program} {w : World} : ∀ {L : List (String × DataW Unit)} {ps : List MemPlace} {i : Nat} {n : String} {d : DataW Unit}, DataW.LaidVars P w L ps → L[i]? = some (n, d) →
    ∃ g t cs fuel p, P.globalNamed n = some g ∧ (P.globals[g]?).map (·.type) = some t ∧ w.var? P n = some cs ∧ DataW.trod (fun _ => ()) P w 0 (fun _ => true) false fuel t cs.toList = some (d, p) ∧ ∀ x ∈ MemPlace.row ⟨g, 0, none⟩ cs.size ++ p, x ∈ ps
  | [], _, i, n, d, _, hi => by simp at hi
  | (n0, d0) :: r, ps, 0, n, d, h, hi => by
    obtain ⟨g, t, cs, fuel, p, q, h1, h2, h3, h4, _, rfl⟩ := h
    simp only [List.getElem?_cons_zero, Option.some.injEq, Prod.mk.injEq] at hi
    obtain ⟨rfl, rfl⟩ := hi
    exact ⟨g, t, cs, fuel, p, h1, h2, h3, h4, fun x hx => List.mem_append_left _ hx⟩
  | (n0, d0) :: r, ps, i + 1, n, d, h, hi => by
    obtain ⟨g, t, cs, fuel, p, q, _, _, _, _, h5, rfl⟩ := h
    obtain ⟨g', t', cs', fuel', p', h1, h2, h3, h4, h6⟩ := laidVars_get h5 (by simpa using hi)
    exact ⟨g', t', cs', fuel', p', h1, h2, h3, h4, fun x hx => List.mem_append_right _ (h6 x hx)⟩

theorem laidVars_apart {P : Program} {w : World} : ∀ {L : List (String × DataW Unit)} {ps : List MemPlace} {i j : Nat} {n m : String} {d e : DataW Unit}, DataW.LaidVars P w L ps → ps.Nodup → i < j → L[i]? = some (n, d) → L[j]? = some (m, e) →
    ∃ (g : Nat) (t : TypeId) (cs : Array Value) (fuel : Nat) (p : List MemPlace) (g' : Nat) (t' : TypeId) (cs' : Array Value) (fuel' : Nat) (p' : List MemPlace), P.globalNamed n = some g ∧ (P.globals[g]?).map (·.type) = some t ∧ w.var? P n = some cs ∧ DataW.trod (fun _ => ()) P w 0 (fun _ => true) false fuel t cs.toList = some (d, p) ∧
      P.globalNamed m = some g' ∧ (P.globals[g']?).map (·.type) = some t' ∧ w.var? P m = some cs' ∧ DataW.trod (fun _ => ()) P w 0 (fun _ => true) false fuel' t' cs'.toList = some (e, p') ∧ ∀ x ∈ p, x ∉ p'
  | [], _, i, j, n, m, d, e, _, _, _, hi, _ => by simp at hi
  | (n0, d0) :: r, ps, 0, j + 1, n, m, d, e, h, hnd, _, hi, hj => by
    obtain ⟨g, t, cs, fuel, p, q, h1, h2, h3, h4, h5, rfl⟩ := h
    simp only [List.getElem?_cons_zero, Option.some.injEq, Prod.mk.injEq] at hi
    obtain ⟨rfl, rfl⟩ := hi
    obtain ⟨g', t', cs', fuel', p', h1', h2', h3', h4', h6⟩ := laidVars_get h5 (by simpa using hj)
    refine ⟨g, t, cs, fuel, p, g', t', cs', fuel', p', h1, h2, h3, h4, h1', h2', h3', h4', fun x hx hx' => ?_⟩
    have hd := (List.nodup_append.1 hnd).2.2
    exact hd x (List.mem_append_right _ hx) x (h6 x (List.mem_append_right _ hx')) rfl
  | (n0, d0) :: r, ps, i + 1, j + 1, n, m, d, e, h, hnd, hij, hi, hj => by
    obtain ⟨g, t, cs, fuel, p, q, _, _, _, _, h5, rfl⟩ := h
    exact laidVars_apart (i := i) (j := j) h5 (List.nodup_append.1 hnd).2.1 (by omega) (by simpa using hi) (by simpa using hj)
  | _ :: _, _, _, 0, _, _, _, _, _, _, hij, _, _ => by omega

/-- Behind what address a variable's error lies. -/
noncomputable def addrOf (W : World) (c : Nat) : Addr :=
  match W.var? Tryz.prog (errName c) with
  | some #[.iface _ (.pointer (some a))] => a
  | _ => ⟨0, 0, none⟩

theorem gn1 : Tryz.prog.globalNamed (errName 1) = some (errG 1) := by kernel_rfl
theorem gn2 : Tryz.prog.globalNamed (errName 2) = some (errG 2) := by kernel_rfl
theorem gn3 : Tryz.prog.globalNamed (errName 3) = some (errG 3) := by kernel_rfl
theorem gn4 : Tryz.prog.globalNamed (errName 4) = some (errG 4) := by kernel_rfl
theorem gn5 : Tryz.prog.globalNamed (errName 5) = some (errG 5) := by kernel_rfl
theorem gn6 : Tryz.prog.globalNamed (errName 6) = some (errG 6) := by kernel_rfl
theorem gn7 : Tryz.prog.globalNamed (errName 7) = some (errG 7) := by kernel_rfl
theorem gn8 : Tryz.prog.globalNamed (errName 8) = some (errG 8) := by kernel_rfl
theorem gn9 : Tryz.prog.globalNamed (errName 9) = some (errG 9) := by kernel_rfl
theorem gn10 : Tryz.prog.globalNamed (errName 10) = some (errG 10) := by kernel_rfl
theorem gn11 : Tryz.prog.globalNamed (errName 11) = some (errG 11) := by kernel_rfl
theorem gn12 : Tryz.prog.globalNamed (errName 12) = some (errG 12) := by kernel_rfl
theorem gt1 : (Tryz.prog.globals[errG 1]?).map (·.type) = some 59 := by kernel_rfl
theorem gt2 : (Tryz.prog.globals[errG 2]?).map (·.type) = some 59 := by kernel_rfl
theorem gt3 : (Tryz.prog.globals[errG 3]?).map (·.type) = some 59 := by kernel_rfl
theorem gt4 : (Tryz.prog.globals[errG 4]?).map (·.type) = some 59 := by kernel_rfl
theorem gt5 : (Tryz.prog.globals[errG 5]?).map (·.type) = some 59 := by kernel_rfl
theorem gt6 : (Tryz.prog.globals[errG 6]?).map (·.type) = some 59 := by kernel_rfl
theorem gt7 : (Tryz.prog.globals[errG 7]?).map (·.type) = some 59 := by kernel_rfl
theorem gt8 : (Tryz.prog.globals[errG 8]?).map (·.type) = some 59 := by kernel_rfl
theorem gt9 : (Tryz.prog.globals[errG 9]?).map (·.type) = some 59 := by kernel_rfl
theorem gt10 : (Tryz.prog.globals[errG 10]?).map (·.type) = some 59 := by kernel_rfl
theorem gt11 : (Tryz.prog.globals[errG 11]?).map (·.type) = some 59 := by kernel_rfl
theorem gt12 : (Tryz.prog.globals[errG 12]?).map (·.type) = some 59 := by kernel_rfl
theorem starE : "*" ++ "errors.errorString" = "*errors.errorString" := by decide
theorem rowE (u : TypeId) (h : Tryz.prog.typeName? 3 u = some "*errors.errorString") : u = 290 :=
  typeName_ptr_named (nm := "errors.errorString") (by rw [starE]; kernel_rfl) (by kernel_rfl) (by decide) u (by rw [starE]; exact h)
theorem cellsErrStr : Tryz.prog.cellsOf 292 = 1 := by kernel_rfl
theorem cellsStr : Tryz.prog.cellsOf 9 = 1 := by kernel_rfl

set_option maxRecDepth 100000 in
/-- WHAT THE CONDITION GIVES THE WALKS: the sentinels of the numbers D, where the list L bears each at the place idx says. -/
theorem errs_of_laid {L : List (String × DataW Unit)} {W : World} (h : laidMet Tryz.prog L W) (D : List Nat) (idx : Nat → Nat) (hD : ∀ c ∈ D, c ∈ allE)
    (hg : ∀ c ∈ D, Tryz.prog.globalNamed (errName c) = some (errG c)) (ht : ∀ c ∈ D, (Tryz.prog.globals[errG c]?).map (·.type) = some 59)
    (hL : ∀ c ∈ D, ∃ text, L[idx c]? = some (errName c, .iface "*errors.errorString" (.ptr (.agg [.lit (.string text)])))) :
    Errs D (addrOf W) W.heap.size W := by
  obtain ⟨ps, hv, hnd, hrows⟩ := h
  have key : ∀ c ∈ D, ∀ {g t cs fuel p text}, Tryz.prog.globalNamed (errName c) = some g → (Tryz.prog.globals[g]?).map (·.type) = some t → W.var? Tryz.prog (errName c) = some cs →
      DataW.trod (fun _ => ()) Tryz.prog W 0 (fun _ => true) false fuel t cs.toList = some (.iface "*errors.errorString" (.ptr (.agg [.lit (.string text)])), p) → (∀ x ∈ MemPlace.row ⟨g, 0, none⟩ cs.size, x ∈ ps) →
      W.cell? ⟨errG c, 0, none⟩ = some (.iface 290 (.pointer (some (addrOf W c)))) ∧ (∃ s, W.cell? (addrOf W c) = some (.string s)) ∧ p = MemPlace.row (addrOf W c) 1 := by
    intro c hc g t cs fuel p text h1 h2 h3 h4 h5
    obtain rfl := Option.some.inj ((hg c hc).symm.trans h1)
    obtain rfl := Option.some.inj ((ht c hc).symm.trans h2)
    obtain ⟨l0⟩ := cs
    have ok0 : ∀ u v, l0 = [.iface u v] → Value.okWide Tryz.prog W .any 0 u v := fun u v e => by
      subst e
      exact (hrows (errG c) 0 (h5 _ (by simp [MemPlace.row]))).2 u v (by simpa using World.var?_cell h1 h3 0)
    obtain ⟨a0, s0, rfl, hc0, hs0, hz0, rfl⟩ := errorString_of_trod Tryz.underlying59 rowE Tryz.underlying290 Tryz.underlying292 rfl rfl Tryz.underlying9 cellsErrStr cellsStr h4 ok0
    have ea : addrOf W c = a0 := by
      unfold addrOf
      rw [h3]
      exact rfl
    refine ⟨?_, ⟨s0, by rw [ea]; exact hc0⟩, by rw [ea]⟩
    rw [ea]
    simpa using World.var?_cell h1 h3 0
  have get : ∀ c ∈ D, W.cell? ⟨errG c, 0, none⟩ = some (.iface 290 (.pointer (some (addrOf W c)))) ∧ (∃ s, W.cell? (addrOf W c) = some (.string s)) ∧ MemPlace.cell (addrOf W c).block (addrOf W c).off ∈ ps := by
    intro c hc
    obtain ⟨text, hl⟩ := hL c hc
    obtain ⟨g, t, cs, fuel, p, h1, h2, h3, h4, h5⟩ := laidVars_get hv hl
    obtain ⟨k1, k2, rfl⟩ := key c hc h1 h2 h3 h4 (fun x hx => h5 x (List.mem_append_left _ hx))
    exact ⟨k1, k2, h5 _ (List.mem_append_right _ (by simp [MemPlace.row]))⟩
  have apart : ∀ c ∈ D, ∀ d ∈ D, idx c < idx d → addrOf W c ≠ addrOf W d := by
    intro c hc d hd hlt he
    obtain ⟨t1, hl1⟩ := hL c hc
    obtain ⟨t2, hl2⟩ := hL d hd
    obtain ⟨g, t, cs, fuel, p, g', t', cs', fuel', p', a1, a2, a3, a4, b1, b2, b3, b4, hap⟩ := laidVars_apart hv hnd hlt hl1 hl2
    obtain ⟨g0, t0, cs0, f0, p0, u1, u2, u3, u4, u5⟩ := laidVars_get hv hl1
    obtain ⟨g0', t0', cs0', f0', p0', v1, v2, v3, v4, v5⟩ := laidVars_get hv hl2
    obtain rfl := Option.some.inj (a1.symm.trans u1)
    obtain rfl := Option.some.inj (a3.symm.trans u3)
    obtain rfl := Option.some.inj (b1.symm.trans v1)
    obtain rfl := Option.some.inj (b3.symm.trans v3)
    obtain ⟨_, _, rfl⟩ := key c hc a1 a2 a3 a4 (fun x hx => u5 x (List.mem_append_left _ hx))
    obtain ⟨_, _, rfl⟩ := key d hd b1 b2 b3 b4 (fun x hx => v5 x (List.mem_append_left _ hx))
    rw [he] at hap
    exact hap (.cell (addrOf W d).block (addrOf W d).off) (by simp [MemPlace.row]) (by simp [MemPlace.row])
  refine ⟨fun c hc => (get c hc).1, fun c hc => (hrows _ _ (get c hc).2.2).1, fun c hc => ?_, fun c hc d hd he => ?_, Nat.le_refl _⟩
  · obtain ⟨k1, ⟨s, k2⟩, _⟩ := get c hc
    exact ⟨World.block_lt_of_cell? W _ k2, World.block_lt_of_cell? W ⟨errG c, 0, none⟩ k1⟩
  · rcases Nat.lt_trichotomy (idx c) (idx d) with h | h | h
    · exact absurd he (apart c hc d hd h)
    · obtain ⟨t1, hl1⟩ := hL c hc
      obtain ⟨t2, hl2⟩ := hL d hd
      rw [h, hl2] at hl1
      have : errName d = errName c := by simpa using congrArg (fun x => x.1) (Option.some.inj hl1)
      exact errName_inj c (hD c hc) d (hD d hd) this.symm
    · exact absurd he.symm (apart d hd c hc h)

theorem etG : Tryz.prog.globalNamed "errors.errorType" = some 12 := by kernel_rfl
theorem rtT : (Tryz.prog.cutTypes.find? (·.1 == "internal/reflectlite.rtype")).map (·.2) = some 246 := by kernel_rfl
theorem oneRowE : ((List.range 319).filter fun t => Tryz.prog.rowNamed t [101, 114, 114, 111, 114]) = [59] := by kernel_rfl
theorem typesSize : Tryz.prog.types.size = 319 := by kernel_rfl
theorem asVar_of_laid {L : List (String × DataW Unit)} {W : World} (h : handlesMet Tryz.prog L W) (hm : ("errors.errorType", .iface "internal/reflectlite.rtype" (.agg [.ptr (.lit (.string [101, 114, 114, 111, 114]))])) ∈ L) : AsVar W := by
  obtain ⟨name, u, ty, e1, e2, e3, e4, e5⟩ := h _ hm
  have en : name = [101, 114, 114, 111, 114] := (Option.some.inj e1).symm
  subst en
  obtain rfl := Option.some.inj (rtT.symm.trans e2)
  have hm : ty ∈ (List.range 319).filter fun t => Tryz.prog.rowNamed t [101, 114, 114, 111, 114] := List.mem_filter.2 ⟨List.mem_range.2 (by rw [← typesSize]; exact e3), e4⟩
  rw [oneRowE] at hm
  obtain rfl := List.mem_singleton.1 hm
  have hh : typeHandle Tryz.prog 59 = .pointer (some ⟨21, 59, none⟩) := by kernel_rfl
  rw [hh] at e5
  have := World.var?_cell etG e5 0
  unfold AsVar
  simpa using this
end Go.Proofs.YtpicofkmeijioaaGreatDoor
