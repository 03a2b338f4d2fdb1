/- pack.Plan: the walk. deedboxlaw3.packed: a closed fact. What a rewriting has, and that groups lose no rows: plain. Of no program. pack.Rewrite: the walk. -/
import Derived.Test.YtpfohfihkmjnaaaGreatDoorPk17
import Derived.Test.YtpfohfihkmjnaaaGreatDoorPk6
import Derived.Deep.DeepCutAuto
import Derived.OwnWalk
import Derived.Test.YtpfohfihkmjnaaaGreatDoorPk10
import Derived.Test.YtpfohfihkmjnaaaGreatDoorPk1
import Derived.Test.YtpfohfihkmjnaaaGreatDoorPk15
import Derived.Test.YtpfohfihkmjnaaaGreatDoorPk16
import Derived.Test.YtpfohfihkmjnaaaGreatDoorPk7
import Derived.Test.YtpfohfihkmjnaaaGreatDoorPk8
import Derived.Test.YtpfohfihkmjnaaaGreatDoorPk11
import Derived.Test.YtpfohfihkmjnaaaGreatDoorPk9
import Derived.Deep.RegionLaw
namespace Go.Proofs.YtpfohfihkmjnaaaGreatDoor
open Go.RowKit Go.Maps
def groupsK (least : Int) (l : List Fl) (k : Nat) : List Gp := ((l.take k).filter (smallF least)).foldl (fun gs f => putG f gs) []
theorem groupsK_next {least : Int} {l : List Fl} {k : Nat} {f : Fl} (h : l[k]? = some f) : groupsK least l (k + 1) = if smallF least f = true then putG f (groupsK least l k) else groupsK least l k := by
  unfold groupsK
  rw [take_snoc' h, List.filter_append, List.foldl_append, List.filter_cons]
  cases smallF least f <;> rfl
def NumsG (m : Nat) (gs : List Gp) : Prop := ∀ g ∈ gs, (0 ≤ g.n ∧ g.n ≤ 40) ∧ g.paths.length ≤ m
theorem nums_put {m : Nat} {f : Fl} {gs : List Gp} (h : NumsG m gs) (hf : 0 ≤ f.n ∧ f.n ≤ 40) : NumsG (m + 1) (putG f gs) := fun g hg => by
  rcases mem_putG hg with hg | ⟨y, h1, -, h3, rfl⟩
  · exact ⟨(h g hg).1, by have := (h g hg).2; omega⟩
  · have hy : 0 ≤ y.n ∧ y.paths.length ≤ m := by
      rcases h1 with h1 | rfl
      · exact ⟨(h y h1).1.1, (h y h1).2⟩
      · exact ⟨Int.le_refl _, Nat.zero_le _⟩
    refine ⟨?_, ?_⟩
    · show 0 ≤ y.n + f.n ∧ y.n + f.n ≤ 40
      omega
    · show (y.paths ++ [f.path]).length ≤ m + 1
      rw [List.length_append]
      exact Nat.add_le_add_right hy.2 1
theorem NumsG.next {m : Nat} {gs : List Gp} (h : NumsG m gs) : NumsG (m + 1) gs := fun g hg => ⟨(h g hg).1, by have := (h g hg).2; omega⟩
theorem flat_zip : ∀ {gs : List Gp} {bs : List Nat}, gs.length = bs.length → (gs.zip bs).flatMap encQ = bs.flatMap encP
  | [], [], _ => rfl
  | g :: gs, b :: bs, h => by
    rw [List.zip_cons_cons, List.flatMap_cons, List.flatMap_cons, flat_zip (by simpa using h)]
theorem own_zip {B : Nat} {w : World} {v : Value} {gs : List Gp} {bs : List Nat} {e : TypeId} (h : Own encP e 1 B w v bs) (hl : gs.length = bs.length) : Own encQ e 1 B w v (gs.zip bs) := by
  unfold Own at *
  rw [flat_zip hl, List.length_zip, hl, Nat.min_self]
  exact h
theorem idx_zip {gs : List Gp} {bs : List Nat} (h : gs.length = bs.length) (f : Fl) :
    (idxVal (fun x : Gp × Nat => fitsG f x.1) (gs.zip bs) = -1 ∧ ∀ x ∈ gs, fitsG f x = false) ∨ ∃ (j : Nat) (g : Gp), idxVal (fun x : Gp × Nat => fitsG f x.1) (gs.zip bs) = j ∧ gs[j]? = some g ∧ fitsG f g = true ∧ ∀ i < j, ∀ x, gs[i]? = some x → fitsG f x = false := by
  unfold idxVal
  cases hf : (gs.zip bs).findIdx? (fun x : Gp × Nat => fitsG f x.1) with
  | none =>
    refine .inl ⟨rfl, fun x hx => ?_⟩
    obtain ⟨i, hi, rfl⟩ := List.getElem_of_mem hx
    have hz : (gs[i], bs[i]'(by omega)) ∈ gs.zip bs := by
      rw [← List.getElem_zip (h := by rw [List.length_zip]; omega)]
      exact List.getElem_mem _
    simpa using List.findIdx?_eq_none_iff.1 hf _ hz
  | some j =>
    obtain ⟨h1, h2, h3⟩ := List.findIdx?_eq_some_iff_getElem.1 hf
    rw [List.length_zip] at h1
    rw [List.getElem_zip] at h2
    refine .inr ⟨j, gs[j]'(by omega), rfl, List.getElem?_eq_getElem (by omega), h2, fun i hi x hx => ?_⟩
    obtain ⟨hi1, rfl⟩ := List.getElem?_eq_some_iff.1 hx
    have := h3 i hi
    rw [List.getElem_zip] at this
    simpa using this
theorem put_set {f : Fl} {gs : List Gp} {j : Nat} {g : Gp} (h : gs[j]? = some g) (h1 : fitsG f g = true) (h2 : ∀ i < j, ∀ x, gs[i]? = some x → fitsG f x = false) : putG f gs = gs.set j (growG f g) := by
  have hj := (List.getElem?_eq_some_iff.1 h).1
  rw [putG_hit h h1 h2, List.set_eq_take_append_cons_drop, if_pos hj]
theorem put_new {f : Fl} {gs : List Gp} (h : ∀ x ∈ gs, fitsG f x = false) : putG f gs = (gs ++ [(⟨f.part, 0, []⟩ : Gp)]).set gs.length (growG f ⟨f.part, 0, []⟩) := by
  rw [putG_miss h, List.set_append_right _ _ (Nat.le_refl _), Nat.sub_self]
  rfl
/-- Where a block stands among others. -/
noncomputable def ixB (bs : List Nat) (b : Nat) : Nat := open Classical in if h : ∃ i : Nat, bs[i]? = some b then Classical.choose h else 0
theorem ixB_at {bs : List Nat} {i b : Nat} (nd : ∀ i j b : Nat, bs[i]? = some b → bs[j]? = some b → i = j) (h : bs[i]? = some b) : ixB bs b = i := by
  unfold ixB
  rw [dif_pos ⟨i, h⟩]
  exact nd _ _ b (Classical.choose_spec (⟨i, h⟩ : ∃ i : Nat, bs[i]? = some b)) h
theorem plan_zip {l : List Fl} {least : Int} {gs : List Gp} {bs : List Nat} (hG : gs = groupsG least l) (hlz : gs.length = bs.length) :
    ((((partsF l).flatMap fun p => (gs.zip bs).filter fun z => z.1.part == p).map (·.1)).filter manyG).map (·.paths) = planAll l least := by
  unfold planAll
  rw [List.map_flatMap, filter_flatMap, List.map_flatMap]
  refine flatMap_same fun p _ => ?_
  congr 2
  unfold ofPart
  rw [← hG]
  have e : gs = (gs.zip bs).map (·.1) := (List.map_fst_zip (by omega)).symm
  conv => rhs; rw [e]
  rw [List.filter_map]
  rfl
theorem elV : ElemInfo Tryz.prog 33 39 1 24 := elemInfo_of Tryz.underlying33 (z := .slice none 0 0) (by kernel_rfl) rfl (by decide)
theorem elPg : ElemInfo Tryz.prog 84 86 1 8 := elemInfo_of Tryz.underlying84 (z := .pointer none) (by kernel_rfl) rfl (by decide)
def shutApp (argTypes : Array TypeId) (type : TypeId) (args : Array Value) : Sem Value := Builtin.append_ argTypes type args
theorem shutApp_eq (argTypes : Array TypeId) (type : TypeId) (args : Array Value) : Builtin.append_ argTypes type args = shutApp argTypes type args := rfl
attribute [local go_sem ↓] shutApp_eq in
set_option maxHeartbeats 4000000 in
set_option maxRecDepth 20000 in
theorem packPlan_any (E : Nat → Addr) (B : Nat) (v : Value) (l : List Fl) (least : Int) (w : World) (hE : Errs [2, 4, 5, 8, 9] E B w) (hT : LNum B w) (hM : LMax B w) (hl : FilesAt w v l) (hs : ∀ f ∈ l, midF f) (hn : l.length ≤ 60) :
    Calls Tryz.prog 10 #[v, .int .i64 least] w fun e w' => ∃ u ev, e = .returned (.tuple #[u, ev]) ∧ ErV E w' ev (planE l least) ∧ ListsAt w' u (planL l least) ∧ Below w.heap.size w w' := by
  have hif := isIfaceE
  have hBw := hE.le
  have HCk := Lib.hid (listCheck_any E B v l w hE hT hM hl hs)
  have XE := Lib.hid (fun W (h : Below w.heap.size w W) => hE.below' h hBw)
  obtain ⟨a, c, b, o, rfl, ha, hc, hcm, hx⟩ := hl
  unfold maxLen at hcm
  have HX := Lib.hid hx
  have HPE : Hid (planE l least = if listCheck l ≠ .nil then listCheck l else if least < 0 ∨ 41 < least then .bare 2 else .nil) := Lib.hid rfl
  have HPL : Hid (planE l least ≠ .nil → planL l least = []) := Lib.hid fun h => if_neg h
  clear hE hT hM hs hx
  go_enter Tryz.func10, Tryz.ntmps10
  go_wp2_with fail
  refine HCk.out.mono ?_
  rintro e w1 ⟨ev, rfl, hev, hb1⟩
  clear HCk
  by_cases hck : listCheck l = .nil
  case neg =>
    obtain ⟨t1, x1, rfl⟩ := hev.iface hck
    have HEv := Lib.hid hev
    have HE2 : Hid (planE l least = listCheck l) := Lib.hid (by rw [HPE.out, if_pos hck])
    have HL2 : Hid (planL l least = []) := Lib.hid (HPL.out (by rw [HE2.out]; exact hck))
    clear hev hck
    go_wp2_with fail
    go_ret2
    exact ⟨_, _, rfl, by rw [HE2.out]; exact HEv.out, by rw [HL2.out]; exact ListsAt.nil _, hb1⟩
  rw [hck] at hev
  obtain rfl : ev = .nilIface := hev
  have HR := Lib.hid ((right_iff l).1 hck)
  have HE1 : Hid (planE l least = if least < 0 ∨ 41 < least then .bare 2 else .nil) := Lib.hid (by rw [HPE.out, if_neg (by rw [hck]; simp)])
  have hE2g := (XE.out w1 hb1).var 2 (by decide)
  change w1.cell? ⟨0, 0, none⟩ = _ at hE2g
  clear hck HPE
  by_cases h0 : least < 0
  case pos =>
    have HE2 : Hid (planE l least = .bare 2) := Lib.hid (by rw [HE1.out, if_pos (.inl h0)])
    have HL2 : Hid (planL l least = []) := Lib.hid (HPL.out (by rw [HE2.out]; simp))
    go_wp2_with fail
    go_quiet (fail)
    go_wp2_with fail
    go_ret2
    exact ⟨_, _, rfl, by rw [HE2.out]; exact ⟨by omega, rfl⟩, by rw [HL2.out]; exact ListsAt.nil _, Bdn hb1 _⟩
  have g0 : decide (least < 0) = false := decide_eq_false h0
  by_cases h41 : 41 < least
  case pos =>
    have HE2 : Hid (planE l least = .bare 2) := Lib.hid (by rw [HE1.out, if_pos (.inr h41)])
    have HL2 : Hid (planL l least = []) := Lib.hid (HPL.out (by rw [HE2.out]; simp))
    go_wp2_with fail
    go_quiet (fail)
    go_wp2_with fail
    go_ret2
    exact ⟨_, _, rfl, by rw [HE2.out]; exact ⟨by omega, rfl⟩, by rw [HL2.out]; exact ListsAt.nil _, Bdn hb1 _⟩
  have g41 : decide (41 < least) = false := decide_eq_false h41
  have HE2 : Hid (planE l least = .nil) := Lib.hid (by rw [HE1.out, if_neg (by omega)])
  have HL2 : Hid (planL l least = planAll l least) := Lib.hid (if_pos HE2.out)
  clear h0 h41 HE1 HPL hE2g
  go_wp2_with fail
  go_loopw [7, 28] (fun u i wr => ∃ (k : Nat) (bs : List Nat) (vs : List Value) (gs : List Gp) (vo : Value), k ≤ l.length ∧ i = .int .i64 k ∧ vo = u ∧ bs.length ≤ k ∧ Hid (gs = groupsK least l k) ∧ Hid (NumsG k gs) ∧ Hid (Own encP 86 1 w1.heap.size wr vo bs) ∧ Hid (GpsAt 88 wr w1.heap.size bs vs gs) ∧ Below w1.heap.size w1 wr) (fun _ i _ => l.length - (intOf i).toNat)
  case atStart => exact ⟨0, [], [], [], _, by omega, rfl, rfl, Nat.zero_le _, Lib.hid (by unfold groupsK; rw [List.take_zero]; rfl), Lib.hid (fun _ h => by cases h), Lib.hid (Own.nil _ _ _ _ _), Lib.hid (GpsAt.nil _ _ _), Below.refl _ _⟩
  case round =>
    obtain ⟨k, bs, vs, gs, vo, hk, rfl, rfl, hbl, hgs, hnm, ho, hgp, hb⟩ := hrel
    obtain ⟨wo, rfl⟩ : ∃ wo, wo = wr := ⟨wr, rfl⟩
    have hbwo := hb1.trans (hb.mono hb1.size)
    by_cases hlt : k < l.length
    case neg =>
      obtain rfl : k = l.length := by omega
      have f1 : decide ((l.length : Int) < (l.length : Int)) = false := by simp
      have hG : gs = groupsG least l := by rw [hgs.out]; unfold groupsK groupsG; rw [List.take_length]
      have hlz : gs.length = bs.length := hgp.out.lb.symm
      have hzi : ∀ (i : Nat) (z : Gp × Nat), (gs.zip bs)[i]? = some z → gs[i]? = some z.1 ∧ bs[i]? = some z.2 := fun i z hi => by
        obtain ⟨hi1, rfl⟩ := List.getElem?_eq_some_iff.1 hi
        rw [List.length_zip] at hi1
        rw [List.getElem_zip]
        exact ⟨List.getElem?_eq_getElem (by omega), List.getElem?_eq_getElem (by omega)⟩
      have hix : (gs.zip bs).Pairwise (fun x y => ixB bs x.2 < ixB bs y.2) := by
        refine List.pairwise_iff_getElem.2 fun i j hi hj hij => ?_
        have h1 := (hzi i _ (List.getElem?_eq_getElem hi)).2
        have h2 := (hzi j _ (List.getElem?_eq_getElem hj)).2
        rw [ixB_at hgp.out.nd h1, ixB_at hgp.out.nd h2]
        exact hij
      have hin : ∀ z ∈ gs.zip bs, ∃ i : Nat, gs[i]? = some z.1 ∧ bs[i]? = some z.2 := fun z hz => by
        obtain ⟨i, hi, rfl⟩ := List.getElem_of_mem hz
        exact ⟨i, hzi i _ (List.getElem?_eq_getElem hi)⟩
      have hgz : ∀ (W : World), GpsAt 88 W w1.heap.size bs vs gs → ∀ z ∈ gs.zip bs, ∃ v', GpAt 88 W w1.heap.size z.2 v' z.1 := fun W hW z hz => by
        obtain ⟨i, h1, h2⟩ := hin z hz
        obtain ⟨b', v', q1, q2, q3⟩ := hW.get h1
        rw [h2] at q1
        obtain rfl := Option.some.inj q1
        exact ⟨v', q3⟩
      have hso := sortStableG_any w1.heap.size vo (gs.zip bs) wo (own_zip ho.out hlz) hb.size (by rw [List.length_zip]; omega) (fun z hz => by
        obtain ⟨v', h2⟩ := hgz wo hgp.out z hz
        exact ⟨h2.cells.1, _, h2.blk, fun cs hcs => by simp at hcs⟩) (fun z => ixB bs z.2) hix
      unfold SortedG at hso
      have HSo := Lib.hid hso
      have HGz := Lib.hid hgz
      have HNm := Lib.hid (fun (z : Gp × Nat) (hz : z ∈ gs.zip bs) => by
        obtain ⟨i, h1, -⟩ := hin z hz
        exact (hnm.out _ (List.mem_of_getElem? h1)).2)
      have HPl : Hid (∀ m : List (Gp × Nat), m.Perm (gs.zip bs) → m.Pairwise (Stb.R befG fun z => ixB bs z.2) → ((m.map (·.1)).filter manyG).map (·.paths) = planAll l least) := Lib.hid fun m h1 h2 => by
        have := by_parts (part := fun z : Gp × Nat => z.1.part) (ix := fun z => ixB bs z.2) (ps := partsF l) (partsF_up l) (fun z hz => by
          obtain ⟨i, h3, -⟩ := hin z hz
          exact groups_parts least l _ (by rw [← hG]; exact List.mem_of_getElem? h3)) hix h1 h2
        rw [this]
        exact plan_zip hG hlz
      obtain ⟨av, cv, rfl, -, -⟩ := At.form' (ho.out.at encP_enc)
      clear hG hzi hix hin hso hgs hnm hgz
      go_wp2_with fail
      refine HSo.out.mono ?_
      rintro e w2 ⟨rfl, m, hperm, hpw, hom, hkb, hb12⟩
      have hgp2 := hgp.out.kept hkb (by decide) (by decide)
      have HM := Lib.hid (HPl.out m hperm hpw)
      have hml : m.length = bs.length := by rw [hperm.length_eq, List.length_zip, hlz, Nat.min_self]
      have HZ := Lib.hid (fun z (hz : z ∈ m) => And.intro (HGz.out w2 hgp2 z (hperm.mem_iff.1 hz)) (HNm.out z (hperm.mem_iff.1 hz)))
      obtain ⟨am, cm, bm, om, hvm, ham, hcm', hcmm, hxm⟩ := hom.at encQ_enc
      rw [hml] at hvm ham hcm'
      unfold maxLen at hcmm
      cases hvm
      have HXm := Lib.hid hxm
      have hbw2 := hb1.trans ((hb.trans hb12).mono hb1.size)
      clear hperm hpw hom hkb hgp2 hxm hgp HPl HGz HNm HSo
      go_wp2_with fail
      go_loopw [11, 13, 89] (fun u _ i wr => ∃ (q : Nat) (ls : List (List Str)) (xs : List SlV) (vo2 : Value), q ≤ bs.length ∧ i = .int .i64 q ∧ vo2 = u ∧ xs.length = ls.length ∧ xs.length ≤ q ∧ Hid (ls = (((m.take q).map (·.1)).filter manyG).map (·.paths)) ∧ Hid (Own encV 39 1 w2.heap.size wr vo2 xs) ∧ Hid (∀ (i : Nat) (x : SlV) (y : List Str), xs[i]? = some x → ls[i]? = some y → Own encS 9 1 w1.heap.size wr (slV x) y) ∧ Below w2.heap.size w2 wr) (fun _ _ i _ => bs.length - (intOf i).toNat)
      case atStart => exact ⟨0, [], [], _, by omega, rfl, rfl, rfl, Nat.zero_le _, Lib.hid (by rw [List.take_zero]; rfl), Lib.hid (Own.nil _ _ _ _ _), Lib.hid (fun i x y h => by simp at h), Below.refl _ _⟩
      case round =>
        obtain ⟨q, ls, xs, vo2, hq, rfl, rfl, hxl, hxq, hls, ho2, hst, hbq⟩ := hrel
        obtain ⟨wp, rfl⟩ : ∃ wp, wp = wr := ⟨wr, rfl⟩
        by_cases hql : q < bs.length
        case neg =>
          obtain rfl : q = bs.length := by omega
          have f2 : decide ((bs.length : Int) < (bs.length : Int)) = false := by simp
          have HLs : Hid (ls = planAll l least) := Lib.hid (by rw [hls.out, ← hml, List.take_length]; exact HM.out)
          have Hxl := Lib.hid hxl
          clear hxl
          go_wp2_with fail
          go_ret2
          exact ⟨_, _, rfl, by rw [HE2.out]; rfl, by rw [HL2.out, ← HLs.out]; exact ⟨xs, Hxl.out, ho2.out.at encV_enc, fun i x y h1 h2 => (hst.out i x y h1 h2).at encS_enc⟩, hbw2.trans (hbq.mono hbw2.size)⟩
        have f2 : (q : Int) < (bs.length : Int) := by omega
        obtain ⟨z, hz⟩ := get_ex (l := m) (k := q) (by omega)
        obtain ⟨⟨pv, hat0⟩, hpl⟩ := HZ.out z (List.mem_of_getElem? hz)
        have hat := hat0.below hbq
        have x0 := (hbq.cell (World.block_lt_of_cell? _ _ (HXm.out q z hz 0 _ rfl))).trans (HXm.out q z hz 0 _ rfl)
        have i1 := idx_at (c := cv) 1 Tryz.underlying84 szPg ham q hql
        simp only [Nat.mul_one, Nat.add_zero] at x0 i1
        obtain ⟨ap, cp, rfl, -, -⟩ := At.form' (hat.own.at encS_enc)
        obtain ⟨q0, q1, q2, -⟩ := hat.cells
        have HSp := Lib.hid hat.own
        have HTk : Hid (((m.take (q + 1)).map (·.1)).filter manyG = ((m.take q).map (·.1)).filter manyG ++ (if manyG z.1 = true then [z.1] else [])) := Lib.hid (by
          rw [take_snoc' hz, List.map_append, List.filter_append, List.map_singleton, List.filter_cons]
          cases manyG z.1 <;> rfl)
        clear hz hat hat0
        cases hmy : manyG z.1 with
        | false =>
          have g1 : decide ((1 : Int) < (z.1.paths.length : Int)) = false := by
            unfold manyG at hmy
            have := of_decide_eq_false hmy
            simp; omega
          have HLs2 : Hid (ls = (((m.take (q + 1)).map (·.1)).filter manyG).map (·.paths)) := Lib.hid (by rw [HTk.out, hmy, if_neg (by decide), List.append_nil]; exact hls.out)
          clear hmy
          go_wp2_with fail
          go_roundw
          case rel => exact ⟨q + 1, ls, xs, vo2, by omega, by go_num, rfl, hxl, by omega, HLs2, ho2, hst, hbq⟩
          case measure => simp [intOf]; omega
        | true =>
          have g1 : (1 : Int) < (z.1.paths.length : Int) := by
            unfold manyG at hmy
            have := of_decide_eq_true hmy
            omega
          have HLs2 : Hid (ls ++ [z.1.paths] = (((m.take (q + 1)).map (·.1)).filter manyG).map (·.paths)) := Lib.hid (by rw [HTk.out, hmy, if_pos rfl, List.map_append, ← hls.out]; rfl)
          clear hmy
          go_wp2_with (at_builtin; refine wpList_app rfl _ _ _ rfl w2.heap.size elV vo2 xs.length _ rfl (ho2.out.alloc _) (.slice (some ⟨wp.heap.size, 0, none⟩) 1 1) 1 (encV (ap, z.1.paths.length, cp)) rfl (src_one rfl rfl (by simp [Value.oneCell'])) (by unfold maxLen; omega) (by omega) (by have h2 := hbq.size; simp; omega) ?_; intro v3 w3 hown hg3 _)
          have ho3 : Own encV 39 1 w2.heap.size w3 v3 (xs ++ [(ap, z.1.paths.length, cp)]) := Own.snoc hown
          have hb3 := Bapp (hbq.alloc hbq.size (.cells (encV (ap, z.1.paths.length, cp)).toArray 39)) (ho2.out.alloc _) hg3 (Nat.le_refl _) (by have := hbq.size; simp; omega)
          have hk3 := ((KeptBut.refl 39 wp).below ((Below.refl _ _).alloc (Nat.le_refl _) (.cells (encV (ap, z.1.paths.length, cp)).toArray 39))).grown (ho2.out.alloc _) hg3
          have hst3 : ∀ (i : Nat) (x : SlV) (y : List Str), (xs ++ [(ap, z.1.paths.length, cp)])[i]? = some x → (ls ++ [z.1.paths])[i]? = some y → Own encS 9 1 w1.heap.size w3 (slV x) y := fun i x y h1 h2 => by
            rcases Nat.lt_or_ge i xs.length with hi | hi
            · rw [List.getElem?_append_left hi] at h1
              rw [List.getElem?_append_left (by omega)] at h2
              exact hk3.own (by decide) (hst.out i x y h1 h2)
            · have hi1 := (List.getElem?_eq_some_iff.1 h1).1
              rw [List.length_append, List.length_singleton] at hi1
              obtain rfl : i = xs.length := by omega
              rw [List.getElem?_append_right (Nat.le_refl _), Nat.sub_self] at h1
              rw [List.getElem?_append_right (by omega), show xs.length - ls.length = 0 by omega] at h2
              obtain rfl := Option.some.inj h1
              obtain rfl := Option.some.inj h2
              exact hk3.own (by decide) HSp.out
          go_roundw
          case rel => exact ⟨q + 1, ls ++ [z.1.paths], xs ++ [(ap, z.1.paths.length, cp)], v3, by omega, by go_num, rfl, by simp [hxl], by simp; omega, HLs2, Lib.hid ho3, Lib.hid hst3, hb3⟩
          case measure => simp [intOf]; omega
    have f1 : (k : Int) < (l.length : Int) := by omega
    obtain ⟨x, hxk⟩ := get_ex hlt
    obtain ⟨c0, c1, c2, c3, c4, c5⟩ := flCells HX.out hbwo hxk
    have i1 := idx_at (c := c) 6 Tryz.underlying23 szFl ha k hlt
    have HNx := Lib.hid (@groupsK_next least l k x hxk)
    rw [← hgs.out] at HNx
    have HNn : Hid (0 ≤ x.n ∧ x.n ≤ 40) := Lib.hid (by have := (check_near (HR.out.ok x (List.mem_of_getElem? hxk))).2.2.2; omega)
    have hA : Below wo.heap.size wo (wo.alloc (fileO x)) := (Below.refl _ _).alloc (Nat.le_refl _) _
    have hgA := heap_alloc_new wo (fileO x)
    have HoA := Lib.hid (ho.out.below hA)
    have HgpA := Lib.hid (hgp.out.below hA)
    have hbA := hb.trans (hA.mono hb.size)
    clear hxk ho hgp
    go_upto_region 10 with fail
    clear c0 c1 c2 c3 c4 c5 i1
    generalize wo.alloc (fileO x) = wA at *
    obtain ⟨P, hP⟩ : ∃ P, wo.heap.size = P := ⟨_, rfl⟩
    rw [hP] at hgA ⊢
    clear hP
    have HgA := Lib.hid hgA
    obtain ⟨c0, c1, c2, c3, c4, c5⟩ := rowF6 hgA
    clear hgA
    cases hsm : smallF least x with
    | false =>
      have HN2 : Hid (groupsK least l (k + 1) = gs) := Lib.hid (by rw [HNx.out, hsm]; rfl)
      have hw : (x.part == [45]) = true ∨ ((x.part == [45]) = false ∧ least ≤ x.n) := by
        unfold smallF isG at hsm
        cases hp : (x.part == [45]) with
        | true => exact .inl rfl
        | false => rw [hp] at hsm; simp at hsm; exact .inr ⟨rfl, hsm⟩
      clear hsm
      rcases hw with g1 | ⟨g1, g2⟩
      all_goals
        go_wp2_with fail
        go_roundw
        case rel => exact ⟨k + 1, bs, vs, gs, vo, by omega, by go_num, rfl, by omega, Lib.hid HN2.out.symm, Lib.hid hnm.out.next, HoA, HgpA, hbA⟩
        case measure => simp [intOf]; omega
    | true =>
    have hw : (x.part == [45]) = false ∧ decide (least ≤ x.n) = false := by
      unfold smallF isG at hsm
      simp only [Bool.and_eq_true, Bool.not_eq_true', decide_eq_true_eq] at hsm
      exact ⟨hsm.1, decide_eq_false (by omega)⟩
    obtain ⟨g1, g2⟩ := hw
    have HN2 : Hid (groupsK least l (k + 1) = putG x gs) := Lib.hid (by rw [HNx.out, if_pos hsm])
    have hlz : gs.length = bs.length := HgpA.out.lb.symm
    have HIx := Lib.hid (indexFuncG_any 40 #[.pointer (some ⟨P, 0, none⟩)] (fun y => fitsG x y.1) wA.heap.size wA vo (gs.zip bs) wA clo_plan1 (fun W y hy hbW _ => by
      obtain ⟨i, hi, rfl⟩ := List.getElem_of_mem hy
      rw [List.length_zip] at hi
      rw [List.getElem_zip]
      have hgi : gs[i]? = some (gs[i]'(by omega)) := List.getElem?_eq_getElem (by omega)
      obtain ⟨b', v', h1, h2, h3⟩ := HgpA.out.get hgi
      have hb' : bs[i]'(by omega) = b' := by
        rw [List.getElem?_eq_getElem (by omega)] at h1; exact Option.some.inj h1
      obtain ⟨-, q1, q2, -, -, -⟩ := rowF6 (f := x) (rowKept HgA.out hbW)
      have := plan1_any x P w1.heap.size b' v' _ W (h3.below hbW) q1 q2 (hnm.out _ (List.mem_of_getElem? hgi)).1 HNn.out
      rw [hb']
      exact this) ((own_zip HoA.out hlz).at encQ_enc) (Below.refl _ _) (Nat.le_refl _))
    have hways := idx_zip hlz x
    obtain ⟨iv, hiv⟩ : ∃ iv, idxVal (fun y : Gp × Nat => fitsG x y.1) (gs.zip bs) = iv := ⟨_, rfl⟩
    rw [hiv] at HIx hways
    have HWays := Lib.hid hways
    have Hlz := Lib.hid hlz
    clear hsm hways hiv hlz
    go_wp2_with fail
    refine HIx.out.mono ?_
    rintro e w2 ⟨rfl, hb2⟩
    have hb2' := hbA.trans (hb2.mono hbA.size)
    have HoB := Lib.hid (HoA.out.below hb2)
    have HgpB := Lib.hid (HgpA.out.below hb2)
    have HgB := Lib.hid (rowKept HgA.out hb2)
    clear c0 c1 c2 c3 c4 c5 HIx
    go_upto_if 45 with fail
    go_cut [7, 10] (fun u i wx => ∃ (bs' : List Nat) (vs' : List Value) (gs' : List Gp) (vo' : Value) (j : Nat) (g : Gp), vo' = u ∧ i = .int .i64 j ∧ gs'[j]? = some g ∧ putG x gs = gs'.set j (growG x g) ∧ bs'.length ≤ k + 1 ∧ ((0 ≤ g.n ∧ g.n ≤ 40) ∧ g.paths.length ≤ k) ∧ Own encP 86 1 w1.heap.size wx vo' bs' ∧ GpsAt 88 wx w1.heap.size bs' vs' gs' ∧ wx.heap[P]? = some (fileO x) ∧ Below w1.heap.size w1 wx)
    case first =>
      rcases HWays.out with ⟨rfl, hno⟩ | ⟨j, g, rfl, hj, hfit, hlow⟩
      case' inr =>
        have g5 : decide ((j : Int) < 0) = false := by simp
        have HA := Lib.hid (And.intro hj (And.intro (put_set hj hfit hlow) (hnm.out g (List.mem_of_getElem? hj))))
        clear hj hfit hlow
        go_wp2_with fail
        go_meet
        exact ⟨bs, vs, gs, vo, j, g, rfl, rfl, HA.out.1, HA.out.2.1, by omega, HA.out.2.2, HoB.out, HgpB.out, HgB.out, hb2'⟩
      have HNew := Lib.hid (put_new hno)
      obtain ⟨c0, c1, c2, c3, c4, c5⟩ := rowF6 (f := x) HgB.out
      obtain ⟨ao, co, rfl, -, -⟩ := At.form' (HoB.out.at encP_enc)
      have hG : Below w2.heap.size w2 (w2.alloc (.cells #[S x.part, .int .i64 0, .slice none 0 0] 88)) := (Below.refl _ _).alloc (Nat.le_refl _) _
      have HoC := Lib.hid (HoB.out.below hG)
      have HgpC := Lib.hid (HgpB.out.push hb2'.size x.part)
      have HgC := Lib.hid (rowKept HgB.out hG)
      have hb3 := hb2'.trans (hG.mono hb2'.size)
      clear hno
      go_wp2_with (at_builtin; refine wpList_app rfl _ _ _ rfl w1.heap.size elPg (.slice ao bs.length co) bs.length _ rfl (HoC.out.alloc _) (.slice (some ⟨w2.heap.size + 1, 0, none⟩) 1 1) 1 (encP w2.heap.size) rfl (src_one (by simp) rfl (by simp [Value.oneCell'])) (by unfold maxLen; omega) (by omega) (by have h2 := hb2'.size; simp; omega) ?_; intro v4 w4 hown hg4 _)
      have ho4 := Own.snoc hown
      have hkb := ((KeptBut.refl 86 (w2.alloc (.cells #[S x.part, .int .i64 0, .slice none 0 0] 88))).below ((Below.refl _ _).alloc (Nat.le_refl _) (.cells (encP w2.heap.size).toArray 86))).grown (HoC.out.alloc _) hg4
      have hgp4 := HgpC.out.kept hkb (by decide) (by decide)
      have hP4 := hkb.2 P _ HgC.out (fun cs h => by simp at h)
      have hb4 := Bapp (hb3.alloc hb3.size (.cells (encP w2.heap.size).toArray 86)) (HoC.out.alloc _) hg4 (Nat.le_refl _) (by have h2 := hb2'.size; simp; omega)
      go_meet
      exact ⟨bs ++ [w2.heap.size], vs ++ [.slice none 0 0], gs ++ [⟨x.part, 0, []⟩], v4, gs.length, ⟨x.part, 0, []⟩, rfl, by rw [Hlz.out], by simp, HNew.out, by simp; omega, ⟨⟨Int.le_refl _, by show (0 : Int) ≤ 40; decide⟩, Nat.zero_le _⟩, ho4, hgp4, hP4, hb4⟩
    case rest =>
      obtain ⟨bs2, vs2, gs2, vo2, j, g, rfl, rfl, hj, hput, hbl2, ⟨hgn, hgl⟩, ho2, hgp2, hgP, hbc⟩ := hcut
      obtain ⟨w5, rfl⟩ : ∃ w5, w5 = wc := ⟨wc, rfl⟩
      obtain ⟨b5, pv, hbj, hvj, hat⟩ := hgp2.get hj
      have HPut : Hid (groupsK least l (k + 1) = gs2.set j (growG x g)) := Lib.hid (by rw [HN2.out, hput])
      have HO2 := Lib.hid ho2
      have HGp2 := Lib.hid hgp2
      have HGP := Lib.hid hgP
      have HJ := Lib.hid (And.intro hj (And.intro hbj hvj))
      have HAt := Lib.hid hat
      obtain ⟨ao, co, bo, oo, rfl, hao, hco, hcmo, hxo⟩ := ho2.at encP_enc
      unfold maxLen at hcmo
      have hjl : j < bs2.length := (List.getElem?_eq_some_iff.1 hbj).1
      have x0 := hxo j b5 hbj 0 _ rfl
      have i1 := idx_at (c := co) 1 Tryz.underlying84 szPg hao j hjl
      simp only [Nat.mul_one, Nat.add_zero] at x0 i1
      obtain ⟨q0, q1, q2, qz⟩ := hat.cells
      have f1' := qz 1
      obtain ⟨c0, c1, c2, c3, c4, c5⟩ := rowF6 (f := x) hgP
      have hNn := HNn.out
      have hw1 : wrap64 (g.n + x.n) = g.n + x.n := IntWalk.wrap64_in _ (by omega)
      have hw2 : IntKind.i64.wrap (g.n + x.n) = g.n + x.n := IntWalk.i64_in _ (by omega)
      have f9 : (j : Int) < (bs2.length : Int) := by omega
      have HXo := Lib.hid hxo
      clear hj hput ho2 hgp2 hgP hbj hvj hat hxo qz
      go_wp2_with fail
      go_region
      all_goals
        clear q0 q1 q2 f1' c0 c1 c2 c3 c4 c5 x0 hw1 hw2
        go_upto_region 16 with fail
        have hne : b5 ≠ P := by
          rintro rfl
          have := HAt.out.blk
          rw [HGP.out] at this
          simp at this
        have hj1 := HJ.out.1
        have hjg := (List.getElem?_eq_some_iff.1 hj1).1
        have hgpS := HGp2.out.setN HJ.out.2.1 hj1 (by decide) (g.n + x.n)
        have hbS := hbc.setCell (p := ⟨b5, 1, none⟩) HAt.out.le (.int .i64 (g.n + x.n))
        have hoS := own_set (i := 1) (x := .int .i64 (g.n + x.n)) HO2.out HAt.out.blk (fun cs hc => by simp at hc)
        have hPS := (set_other (w := w5) (i := 1) hne (.int .i64 (g.n + x.n))).trans HGP.out
        have hd : Below (w5.setCell ⟨b5, 1, none⟩ (.int .i64 (g.n + x.n))).heap.size (w5.setCell ⟨b5, 1, none⟩ (.int .i64 (g.n + x.n))) (w5.setCell ⟨b5, 1, none⟩ (.int .i64 (g.n + x.n))).drew := Bdn (Below.refl _ _) 1
        have hgp6 := hgpS.below hd
        have ho6 := hoS.below hd
        have hP6 := rowKept hPS hd
        have hb6 := hbS.drew
        clear hgpS hbS hoS hPS hd hne
        generalize (w5.setCell ⟨b5, 1, none⟩ (.int .i64 (g.n + x.n))).drew = w6 at *
        have hj6 : (gs2.set j ⟨g.part, g.n + x.n, g.paths⟩)[j]? = some ⟨g.part, g.n + x.n, g.paths⟩ := List.getElem?_set_self hjg
        have hat6 := hgp6.each j b5 pv _ HJ.out.2.1 HJ.out.2.2 hj6
        obtain ⟨ap, cp, rfl, -, -⟩ := At.form' (hat6.own.at encS_enc)
        obtain ⟨ao', co', bo', oo', hv', hao', -, -, hxo'⟩ := ho6.at encP_enc
        cases hv'
        have hbj := HJ.out.2.1
        have hjl2 : j < bs2.length := (List.getElem?_eq_some_iff.1 hbj).1
        have e1 := hao (by omega)
        have e2 := hao' (by omega)
        rw [e1] at e2
        cases e2
        clear e1
        have i2 := idx_at (c := co) 1 Tryz.underlying84 szPg hao j hjl2
        have hba7 : Below w6.heap.size w6 (w6.alloc (.cells #[S x.path] 9)) := (Below.refl _ _).alloc (Nat.le_refl _) _
        have HW := Lib.hid (fun W (h : Below w6.heap.size w6 W) => (⟨by
          have := (h.cell (World.block_lt_of_cell? _ _ (hxo' j b5 hbj 0 _ rfl))).trans (hxo' j b5 hbj 0 _ rfl)
          simpa only [Nat.mul_one, Nat.add_zero] using this, (hat6.below h).cells.2.2.1, (rowF6 (f := x) (rowKept hP6 h)).1, (hat6.below h).cells.2.2.2 2⟩ : W.cell? ⟨bo, oo + j, none⟩ = some (.pointer (some ⟨b5, 0, none⟩)) ∧ W.cell? ⟨b5, 2, none⟩ = some (.slice ap g.paths.length cp) ∧ W.cell? ⟨P, 0, none⟩ = some (S x.path) ∧ W.frozen? ⟨b5, 2, none⟩ = false))
        simp only [Nat.mul_one] at i2
        obtain ⟨v7, w7, happ, hown7, hg7, hn7⟩ := run_app (P := Tryz.prog) (w6.drew.alloc (.cells (encS x.path).toArray 9)) w1.heap.size 39 39 9 1 16 elStr (.slice ap g.paths.length cp) g.paths.length _ ((hat6.own.below (Bdn (Below.refl _ _) 1)).alloc _) (.slice (some ⟨w6.drew.heap.size, 0, none⟩) 1 1) 1 (encS x.path) (src_one rfl rfl (by simp [Value.oneCell'])) (by unfold maxLen; omega) (by omega) (by have := hb6.size; simp; omega)
        have happ' : (shutApp #[39, 39] 39 #[.slice ap g.paths.length cp, .slice (some ⟨w6.heap.size, 0, none⟩) 1 1]).run Tryz.prog (w6.alloc (.cells #[S x.path] 9)).drew = .ok v7 w7 := happ
        have hbd7 : Below w6.heap.size w6 (w6.drew.alloc (.cells (encS x.path).toArray 9)) := (Bdn (Below.refl w6.heap.size w6) 1).alloc (Nat.le_refl _) _
        have hown7' : Own encS 9 1 w1.heap.size w7 v7 (g.paths ++ [x.path]) := Own.snoc hown7
        obtain ⟨a7, c7, hv7, -, -⟩ := At.form' (hown7'.at encS_enc)
        rw [show (g.paths ++ [x.path]).length = g.paths.length + 1 by simp] at hv7
        subst hv7
        have hk7 := ((KeptBut.refl 9 w6).below hbd7).grown ((hat6.own.below (Bdn (Below.refl _ _) 1)).alloc _) hg7
        have hblk7 := hk7.2 b5 _ hat6.blk (fun cs h => by simp at h)
        have hset := hgp6.setP hbd7 HJ.out.2.1 HJ.out.2.2 hj6 (by decide) hown7' hg7 hn7
        rw [List.set_set] at hset
        have ho7 := own_set (i := 2) (x := .slice a7 (g.paths.length + 1) c7) (hk7.own (by decide) ho6) hblk7 (fun cs hc => by simp at hc)
        have hb7 := (Bapp (hb6.drew.alloc hb6.drew.size (.cells (encS x.path).toArray 9)) ((hat6.own.below (Bdn (Below.refl _ _) 1)).alloc _) hg7 (Nat.le_refl _) (by have := hb6.size; simp; omega)).setCell (p := ⟨b5, 2, none⟩) HAt.out.le (.slice a7 (g.paths.length + 1) c7)
        have q7 : w7.cell? ⟨b5, 2, none⟩ = some (.slice ap g.paths.length cp) := by rw [cell_of_row w7 _ _ _ _ (0, 0) hblk7]; rfl
        have f7 := frozen_row (i := 2) hblk7
        obtain ⟨r0, r1, r2, r3⟩ := HW.out w6 (Below.refl _ _)
        obtain ⟨s0, s1, s2, s3⟩ := HW.out _ hba7
        obtain ⟨t0, t1, t2, t3⟩ := HW.out _ (Bdn hba7 1)
        obtain ⟨a9, c9, b9, o9, hv9, ha9, -, -, hx9⟩ := (hk7.own (by decide) ho6).at encP_enc
        cases hv9
        have e3 := ha9 (by omega)
        rw [hao (by omega)] at e3
        cases e3
        have x7 := hx9 j b5 hbj 0 _ rfl
        simp only [Nat.mul_one, Nat.add_zero] at x7
        have HSet := Lib.hid hset
        have HO7 := Lib.hid ho7
        have HB7 := Lib.hid hb7
        clear happ hown7 hown7' hg7 hn7 hk7 hblk7 hset ho7 hb7 hgp6 ho6 hP6 hj6 hat6 hxo' hbd7 hba7 hj1 hjg hx9 ha9 hao'
        go_region
        all_goals
          go_wp2_with fail
          go_roundw
          case rel => exact ⟨k + 1, bs2, vs2.set j (.slice a7 (g.paths.length + 1) c7), gs2.set j (growG x g), .slice ao bs2.length co, by omega, by go_num, rfl, by omega, Lib.hid HPut.out.symm, Lib.hid (by rw [← HPut.out, HN2.out]; exact nums_put hnm.out HNn.out), HO7, HSet, HB7⟩
          case measure => simp [intOf]; omega
end Go.Proofs.YtpfohfihkmjnaaaGreatDoor
namespace Go.Proofs.YtpfohfihkmjnaaaGreatDoor
open Go.RowKit Go.Maps
abbrev pP1 : Str := [100, 97, 116, 97, 47, 49]
abbrev pP2 : Str := [100, 97, 116, 97, 47, 50]
abbrev fP1 : Fl := ⟨pP1, [97], 1, 0, 0, 1⟩
abbrev fP2 : Fl := ⟨pP2, [97], 2, 0, 0, 1⟩
theorem itoaP1 : Lib.itoa 1 = [49] := (Lib.itoa_nonneg 1).trans (Lib.decDigits_one (by decide))
theorem itoaP2 : Lib.itoa 2 = [50] := (Lib.itoa_nonneg 2).trans (Lib.decDigits_one (by decide))
theorem path_P1 : pathF pP1 = some (kData, 1) := by
  have hc : Lib.cut pP1 [47] = (kData, [49], true) := cut_app1 (p := kData) (q := [49]) (by decide)
  have hn : numOf [49] = some 1 := (numOf_iff _ 1).2 ⟨by decide, itoaP1⟩
  unfold pathF
  rw [hc, if_pos ⟨rfl, .inl rfl⟩]
  show (numOf [49]).bind _ = _
  rw [hn]
  rfl
theorem path_P2 : pathF pP2 = some (kData, 2) := by
  have hc : Lib.cut pP2 [47] = (kData, [50], true) := cut_app1 (p := kData) (q := [50]) (by decide)
  have hn : numOf [50] = some 2 := (numOf_iff _ 2).2 ⟨by decide, itoaP2⟩
  unfold pathF
  rw [hc, if_pos ⟨rfl, .inl rfl⟩]
  show (numOf [50]).bind _ = _
  rw [hn]
  rfl
theorem kind_P1 : kindF pP1 = kData := by unfold kindF; rw [path_P1]; rfl
theorem kind_P2 : kindF pP2 = kData := by unfold kindF; rw [path_P2]; rfl
theorem right_P : RightL [fP1, fP2] := by
  have c1 : checkF fP1 = 0 := checkF_right (f := fP1) path_P1 (by rw [kind_P1]; decide) (by unfold boundF farN; decide)
  have c2 : checkF fP2 = 0 := checkF_right (f := fP2) path_P2 (by rw [kind_P2]; decide) (by unfold boundF farN; decide)
  refine ⟨by decide, fun f hf => ?_, ?_⟩
  · simp only [List.mem_cons, List.mem_nil_iff, or_false] at hf
    rcases hf with rfl | rfl
    · exact c1
    · exact c2
  · refine List.pairwise_cons.2 ⟨fun g hg => ?_, List.pairwise_singleton _ _⟩
    rw [List.mem_singleton.1 hg]
    unfold keyP
    rw [path_P1, path_P2]
    decide
theorem plan_P : planE [fP1, fP2] 10 = .nil ∧ planL [fP1, fP2] 10 = [[pP1, pP2]] := by
  have h1 : planE [fP1, fP2] 10 = .nil := by
    unfold planE
    rw [if_neg (by rw [(right_iff _).2 right_P]; simp), if_neg (by omega)]
  refine ⟨h1, ?_⟩
  unfold planL
  rw [if_pos h1]
  decide
set_option maxHeartbeats 1000000 in
set_option maxRecDepth 20000 in
theorem packed_any (E : Nat → Addr) (B : Nat) (w : World) (hE : Errs [2, 4, 5, 8, 9] E B w) (hT : LNum B w) (hM : LMax B w) :
    Calls Tryz.prog 6 #[] w fun e w' => e = .returned (.bool true) ∧ Below w.heap.size w w' := by
  have hBw := hE.le
  have hif := isIfaceE
  have hba : Below w.heap.size w (w.alloc (.cells #[S pP1, S [97], .int .i64 1, .int .i64 0, .int .i64 0, .int .i64 1, S pP2, S [97], .int .i64 2, .int .i64 0, .int .i64 0, .int .i64 1] 43)) := (Below.refl _ _).alloc (Nat.le_refl _) _
  have hpl := packPlan_any E B (.slice (some ⟨w.heap.size, 0, none⟩) 2 2) [fP1, fP2] 10 _ (hE.below' hba hBw) (hT.below' hba hBw) (hM.below' hba hBw) (at_row2 (enc := encF) (x := fP1) (y := fP2) (fun _ => rfl) (heap_alloc_new w (.cells #[S pP1, S [97], .int .i64 1, .int .i64 0, .int .i64 0, .int .i64 1, S pP2, S [97], .int .i64 2, .int .i64 0, .int .i64 0, .int .i64 1] 43)) rfl) (right_mid right_P) (by decide)
  rw [plan_P.1, plan_P.2] at hpl
  have HPl := Lib.hid hpl
  clear hpl hE hT hM
  go_enter Tryz.func6, Tryz.ntmps6
  go_wp2_with fail
  refine HPl.out.mono ?_
  rintro e w1 ⟨u, ev, rfl, hev, ⟨xs, hxl, hat, hst⟩, hb1⟩
  obtain rfl : ev = .nilIface := hev
  have hbw1 := hba.trans (hb1.mono hba.size)
  obtain ⟨a, c, b, o, rfl, ha, hc, hcm, hx⟩ := hat
  have hl1 : xs.length = 1 := hxl
  obtain ⟨x, hx0⟩ := get_ex (l := xs) (k := 0) (by omega)
  have x0 := hx 0 x hx0 0 _ rfl
  have i1 := idx_at (c := c) 1 Tryz.underlying33 (fun w => by kernel_rfl) ha 0 (by omega)
  simp only [Nat.zero_mul, Nat.add_zero] at x0 i1
  rw [hl1] at i1 ⊢
  simp only [Int.natCast_zero] at i1
  have hs0 := hst 0 x [pP1, pP2] hx0 rfl
  have hbc : Below w1.heap.size w1 (w1.alloc (.cells #[S pP1, S pP2] 9)) := (Below.refl _ _).alloc (Nat.le_refl _) _
  have hsm := sameTexts_any (slV x) (.slice (some ⟨w1.heap.size, 0, none⟩) 2 2) [pP1, pP2] [pP1, pP2] _ (hs0.below hbc) (at_row2 (enc := encS) (x := pP1) (y := pP2) (fun _ => rfl) (heap_alloc_new w1 (.cells #[S pP1, S pP2] 9)) rfl)
  rw [decide_eq_true rfl] at hsm
  have HSm := Lib.hid hsm
  clear hsm hs0 hst hx hxl ha hx0 HPl
  go_wp2_with fail
  refine HSm.out.mono ?_
  rintro e w2 ⟨rfl, hb2⟩
  go_wp2_with fail
  go_ret
  exact ⟨rfl, (hbw1.trans (hbc.mono hbw1.size)).trans (hb2.mono (hbw1.trans (hbc.mono hbw1.size)).size)⟩
end Go.Proofs.YtpfohfihkmjnaaaGreatDoor
namespace Go.Proofs.YtpfohfihkmjnaaaGreatDoor
open Go.RowKit
/-- Is a path one of a data file? -/
def dataPath (l : List Fl) (p : Str) : Bool := l.any fun f => f.path == p && !isG f
def pathBad (l : List Fl) (ps : List Str) (i : Nat) : Nat :=
  match ps[i]? with
  | none => 0
  | some p => if dataPath l p then 0 else 6
def someS (s : Sn) (ps : List Str) : Sn := { s with files := s.files.filter (someF ps) }
def rewE (os : List Ob) (s : Sn) (ps : List Str) : Er :=
  if snapCheck s ≠ .nil then snapCheck s
  else if firstErr (pathBad s.files ps) ps.length ≠ .nil then firstErr (pathBad s.files ps) ps.length
  else (rowsE os (someS s ps) iMin iMax).noPlace
def rewL (os : List Ob) (s : Sn) (ps : List Str) : List Rw := if rewE os s ps = .nil then rowsL os (someS s ps) iMin iMax else []
theorem someS_right {s : Sn} (h : RightSn s) (ps : List Str) : RightSn (someS s ps) :=
  ⟨h.bnd, h.op, ⟨Nat.le_trans (List.length_filter_le ..) h.lst.len, fun f hf => h.lst.ok f (List.mem_filter.1 hf).1, h.lst.ris.filter _⟩, fun f hf => h.sq f (List.mem_filter.1 hf).1⟩
/-- The rows of a file that a scan has. -/
def aliveO (os : List Ob) (l : List Fl) (f : Fl) : List Rw := (rowsO os f).filter fun x => !killed os l f.seq x.key
theorem rew_fine {os : List Ob} {s : Sn} {ps : List Str} (h : rowsE os s iMin iMax = .nil) (hp : ∀ p ∈ ps, dataPath s.files p = true) :
    rewE os s ps = .nil ∧ (rewL os s ps).Perm ((s.files.filter fun f => decide (f.path ∈ ps)).flatMap (aliveO os s.files)) := by
  have hr := (rowsE_nil h).1
  obtain ⟨h1, h2⟩ := rows_some (s' := someS s ps) ps h (someS_right hr ps) rfl
  have hb : firstErr (pathBad s.files ps) ps.length = .nil := firstErr_all fun j hj => by
    unfold pathBad
    rw [List.getElem?_eq_getElem hj]
    simp only
    rw [if_pos (hp _ (List.getElem_mem hj))]
  have he : rewE os s ps = .nil := by
    unfold rewE
    rw [if_neg (by rw [(snap_iff s).2 hr]; simp), hb, if_neg (by simp), h1]
    rfl
  refine ⟨he, ?_⟩
  unfold rewL
  rw [if_pos he]
  exact h2
theorem perm_of_nodup {l m : List Fl} (h1 : l.Nodup) (h2 : m.Nodup) (h : ∀ x, x ∈ l ↔ x ∈ m) : l.Perm m := (List.perm_ext_iff_of_nodup h1 h2).2 h
theorem flatMap_perm {α β : Type} {g h : α → List β} : ∀ {l : List α}, (∀ x ∈ l, (g x).Perm (h x)) → (l.flatMap g).Perm (l.flatMap h)
  | [], _ => List.Perm.refl _
  | x :: l, hl => by
    rw [List.flatMap_cons, List.flatMap_cons]
    exact (hl x (by simp)).append (flatMap_perm fun y hy => hl y (by simp [hy]))
theorem right_nodup {l : List Fl} (h : RightL l) : l.Nodup := h.ris.imp fun {a b} hab e => by rw [e] at hab; omega
theorem flat_flat {α β : Type} (g : α → List β) : ∀ s : List (List α), s.flatten.flatMap g = s.flatMap fun fs => fs.flatMap g
  | [] => rfl
  | a :: s => by rw [List.flatten_cons, List.flatMap_append, List.flatMap_cons, flat_flat g s]
/-- Rewritten one behind the other they have all rows that a scan has. -/
theorem pack_rows {os : List Ob} {s : Sn} (least : Int) (h : rowsE os s iMin iMax = .nil) :
    (((s.files.filter fun f => !isG f && !decide (f.path ∈ (planF least s.files).flatten.map (·.path))).flatMap fun f => rewL os s [f.path]) ++ ((planF least s.files).flatMap fun fs => rewL os s (fs.map (·.path)))).Perm (rowsL os s iMin iMax) := by
  have hr := (rowsE_nil h).1
  have hR := hr.lst
  obtain ⟨f1, f2⟩ := planF_facts least hR
  have hnl := right_nodup hR
  have hdat : ∀ f ∈ s.files, isG f = false → dataPath s.files f.path = true := fun f hf hg => List.any_eq_true.2 ⟨f, hf, by simp [hg]⟩
  have hsm : ∀ f, smallF least f = true → isG f = false := fun f hf => by
    unfold smallF at hf
    simp only [Bool.and_eq_true, Bool.not_eq_true'] at hf
    exact hf.1
  have e1 : ((s.files.filter fun f => !isG f && !decide (f.path ∈ (planF least s.files).flatten.map (·.path))).flatMap fun f => rewL os s [f.path]).Perm ((s.files.filter fun f => !isG f && !decide (f.path ∈ (planF least s.files).flatten.map (·.path))).flatMap (aliveO os s.files)) := by
    refine flatMap_perm fun f hf => ?_
    obtain ⟨hf1, hf2⟩ := List.mem_filter.1 hf
    simp only [Bool.and_eq_true, Bool.not_eq_true'] at hf2
    refine (rew_fine h (ps := [f.path]) fun p hp => by rw [List.mem_singleton.1 hp]; exact hdat f hf1 hf2.1).2.trans ?_
    have : (s.files.filter fun g => decide (g.path ∈ [f.path])).Perm [f] := perm_of_nodup (hnl.sublist List.filter_sublist) (by simp) fun x => by
      simp only [List.mem_filter, List.mem_singleton, decide_eq_true_eq]
      exact ⟨fun ⟨h1, h2⟩ => right_inj hR h1 hf1 h2, fun e => by rw [e]; exact ⟨hf1, rfl⟩⟩
    refine (this.flatMap_right _).trans ?_
    simp
  have e2 : ((planF least s.files).flatMap fun fs => rewL os s (fs.map (·.path))).Perm ((planF least s.files).flatMap fun fs => fs.flatMap (aliveO os s.files)) := by
    refine flatMap_perm fun fs hfs => ?_
    obtain ⟨-, -, h3⟩ := f1 fs hfs
    refine (rew_fine h (ps := fs.map (·.path)) fun p hp => ?_).2.trans ?_
    · obtain ⟨f, hf, rfl⟩ := List.mem_map.1 hp
      exact hdat f (h3 f hf).1 (hsm f (h3 f hf).2)
    · refine List.Perm.flatMap_right _ (perm_of_nodup (hnl.sublist List.filter_sublist) (f2.sublist (List.sublist_flatten_of_mem hfs)) fun x => ?_)
      rw [List.mem_filter]
      simp only [decide_eq_true_eq]
      constructor
      · rintro ⟨h1, h2⟩
        obtain ⟨f, hf, e⟩ := List.mem_map.1 h2
        rw [← right_inj hR (h3 f hf).1 h1 e]
        exact hf
      · intro hx
        exact ⟨(h3 x hx).1, List.mem_map.2 ⟨x, hx, rfl⟩⟩
  rw [rowsL_full h]
  refine ((e1.append e2).trans ?_).trans (sort_perm _).symm
  rw [show ((planF least s.files).flatMap fun fs => fs.flatMap (aliveO os s.files)) = (planF least s.files).flatten.flatMap (aliveO os s.files) from (flat_flat _ _).symm, ← List.flatMap_append]
  have e3 : ((s.files.filter fun f => !isG f && !decide (f.path ∈ (planF least s.files).flatten.map (·.path))) ++ (planF least s.files).flatten).Perm (s.files.filter fun f => !isG f) := by
    refine perm_of_nodup (List.nodup_append.2 ⟨hnl.sublist List.filter_sublist, f2, fun a ha b hb e => ?_⟩) (hnl.sublist List.filter_sublist) fun x => ?_
    · subst e
      have := (List.mem_filter.1 ha).2
      simp only [Bool.and_eq_true, Bool.not_eq_true', decide_eq_false_iff_not] at this
      exact this.2 (List.mem_map.2 ⟨a, hb, rfl⟩)
    · rw [List.mem_append, List.mem_filter, List.mem_filter]
      simp only [Bool.and_eq_true, Bool.not_eq_true', decide_eq_false_iff_not]
      constructor
      · rintro (⟨h1, h2, -⟩ | hx)
        · exact ⟨h1, h2⟩
        · obtain ⟨fs, hfs, hxf⟩ := List.mem_flatten.1 hx
          obtain ⟨-, -, h3⟩ := f1 fs hfs
          exact ⟨(h3 x hxf).1, hsm x (h3 x hxf).2⟩
      · rintro ⟨h1, h2⟩
        by_cases hin : x.path ∈ (planF least s.files).flatten.map (·.path)
        · obtain ⟨y, hy, e⟩ := List.mem_map.1 hin
          obtain ⟨fs, hfs, hyf⟩ := List.mem_flatten.1 hy
          obtain ⟨-, -, h3⟩ := f1 fs hfs
          rw [← right_inj hR (h3 y hyf).1 h1 e]
          exact .inr hy
        · exact .inl ⟨h1, h2, hin⟩
  refine (e3.flatMap_right _).trans (List.Perm.of_eq ?_)
  rw [flatMap_filter]
  · rfl
  · intro f _ hf
    have : isG f = true := by simpa using hf
    unfold aliveO
    rw [rowsO_gone this]
    rfl
end Go.Proofs.YtpfohfihkmjnaaaGreatDoor
namespace Go.Proofs.YtpfohfihkmjnaaaGreatDoor
open Go.RowKit Go.Maps
theorem data_none {l : List Fl} {p : Str} (h : findV l p < 0) : dataPath l p = false := List.any_eq_false.2 fun f hf => by
  have := findV_neg.1 h f hf
  simp [this]
theorem data_some {l : List Fl} {p : Str} (hR : RightL l) (h : ¬ findV l p < 0) : ∃ (i : Nat) (f : Fl), findV l p = i ∧ l[i]? = some f ∧ f.path = p ∧ dataPath l p = !isG f := by
  have hex : ∃ f ∈ l, f.path = p := Classical.byContradiction fun hno => h (findV_neg.2 fun f hf e => hno ⟨f, hf, e⟩)
  obtain ⟨f, hf, rfl⟩ := hex
  obtain ⟨i, h1, h2⟩ := find_one hR.ris hf
  refine ⟨i, f, h1, h2, rfl, ?_⟩
  unfold dataPath
  rw [Bool.eq_iff_iff, List.any_eq_true]
  constructor
  · rintro ⟨g, hg, hgp⟩
    simp only [Bool.and_eq_true, beq_iff_eq] at hgp
    rw [← right_inj hR hg hf hgp.1]
    exact hgp.2
  · intro hn
    exact ⟨f, hf, by simp [hn]⟩
set_option maxRecDepth 20000 in
theorem rewrite1_any (x : Fl) (pb : Nat) (vp : Value) (ps : List Str) (w : World) (hc : w.cell? ⟨pb, 0, none⟩ = some vp) (hp : StrsAt w vp ps) (hn : ps.length ≤ 100000) :
    Calls Tryz.prog 58 #[fileV x, .pointer (some ⟨pb, 0, none⟩)] w fun e w' => e = .returned (.bool (!someF ps x)) ∧ Below w.heap.size w w' := by
  have hb : Below w.heap.size w (w.alloc (fileO x)) := (Below.refl _ _).alloc (Nat.le_refl _) _
  have hc' : (w.alloc (fileO x)).cell? ⟨pb, 0, none⟩ = some vp := (hb.cell (World.block_lt_of_cell? w _ hc)).trans hc
  obtain ⟨c0, c1, c2, c3, c4, c5⟩ := fileCells (f := x) (w := w) rfl (Below.refl _ (w.alloc (fileO x)))
  have hct := containsS_any vp ps x.path _ (hp.below hb) hn
  obtain ⟨a, c, rfl, -, -⟩ := At.form' hp
  have hsf : someF ps x = (isG x || decide (x.path ∈ ps)) := rfl
  rw [hsf]
  clear hc hp hsf
  cases hg : isG x with
  | true =>
    have g1 : (x.part == [45]) = true := hg
    have g2 : (x.part != [45]) = false := by unfold isG at hg; simpa using hg
    clear hg hct
    go_enter Tryz.func58, Tryz.ntmps58
    go_wp2_with fail
    go_ret
    exact ⟨rfl, hb⟩
  | false =>
    have g1 : (x.part == [45]) = false := hg
    have g2 : (x.part != [45]) = true := by unfold isG at hg; simpa using hg
    rw [Bool.false_or]
    obtain ⟨d, hd⟩ : ∃ d, decide (x.path ∈ ps) = d := ⟨_, rfl⟩
    rw [hd] at hct ⊢
    have HCt := Lib.hid hct
    clear hg hct hd
    go_enter Tryz.func58, Tryz.ntmps58
    go_wp2_with fail
    refine HCt.out.mono ?_
    rintro e w1 ⟨rfl, rfl⟩
    go_wp2_with fail
    go_ret
    exact ⟨rfl, hb⟩
theorem clo_rewrite1 : Clo Tryz.prog 58 := fun _ _ => by kernel_rfl
set_option maxHeartbeats 2000000 in
set_option maxRecDepth 20000 in
theorem packRewrite_any (E : Nat → Addr) (B : Nat) (sb mb : Nat) (st : St) (s : Sn) (v vp : Value) (ps : List Str) (w : World) (hE : Errs [1, 2, 3, 4, 5, 6, 8, 9, 10] E B w) (hT : LNum B w) (hM : LMax B w) (h : StoreAt w sb mb st) (ht : ∀ o ∈ st.objs, o.text.length ≤ 10000)
    (hl : FilesAt w v s.files) (hs : ∀ x ∈ s.files, midF x) (hp : StrsAt w vp ps) (hn : ps.length ≤ 10000) :
    Calls Tryz.prog 16 #[stP sb, snapV s v, vp] w fun e w' => ∃ u ev, e = .returned (.tuple #[u, ev]) ∧ ErV E w' ev (rewE st.objs s ps) ∧ RowsAt w' u (rewL st.objs s ps) ∧ Below w.heap.size w w' := by
  have hBw := hE.le
  have hif := isIfaceE
  have X := Lib.hid (fun W (hb : Below w.heap.size w W) => (⟨hE.below' hb hBw, hT.below' hb hBw, hM.below' hb hBw⟩ : Errs [1, 2, 3, 4, 5, 6, 8, 9, 10] E B W ∧ LNum B W ∧ LMax B W))
  have XF := Lib.hid (fun W (hb : Below w.heap.size w W) => (⟨h.below hb, hl.below hb, hp.below hb⟩ : StoreAt W sb mb st ∧ FilesAt W v s.files ∧ StrsAt W vp ps))
  have HSb : Hid (sb < w.heap.size ∧ mb < w.heap.size) := Lib.hid ⟨h.lt, h.ltm⟩
  have HTx := Lib.hid ht
  have HMs := Lib.hid hs
  obtain ⟨a, c, b, o, rfl, ha, hc, hcm, hx⟩ := hl
  obtain ⟨ap, cp, bp, op, rfl, hap, hcp, hcmp, hxp⟩ := hp
  unfold maxLen at hcm hcmp
  have HX := Lib.hid hx
  have HXp := Lib.hid hxp
  have hs1 : (w.alloc (snObj s (.slice a s.files.length c))).heap.size = w.heap.size + 1 := by simp
  have hba1 : Below w.heap.size w (w.alloc (snObj s (.slice a s.files.length c))) := (Below.refl _ _).alloc (Nat.le_refl _) _
  have hba2 : Below (w.alloc (snObj s (.slice a s.files.length c))).heap.size (w.alloc (snObj s (.slice a s.files.length c))) ((w.alloc (snObj s (.slice a s.files.length c))).alloc (.cells #[.slice ap ps.length cp] 39)) := (Below.refl _ _).alloc (Nat.le_refl _) _
  have hba := hba1.trans (hba2.mono hba1.size)
  have hg0 := rowKept (heap_alloc_new w (snObj s (.slice a s.files.length c))) hba2
  have hg1 := heap_alloc_new (w.alloc (snObj s (.slice a s.files.length c))) (.cells #[.slice ap ps.length cp] 39)
  rw [hs1] at hg1
  have HG := Lib.hid (fun W (hb : Below ((w.alloc (snObj s (.slice a s.files.length c))).alloc (.cells #[.slice ap ps.length cp] 39)).heap.size ((w.alloc (snObj s (.slice a s.files.length c))).alloc (.cells #[.slice ap ps.length cp] 39)) W) => And.intro (rowKept hg0 hb) (rowKept hg1 hb))
  have HRe : Hid (rewE st.objs s ps = if snapCheck s ≠ .nil then snapCheck s else if firstErr (pathBad s.files ps) ps.length ≠ .nil then firstErr (pathBad s.files ps) ps.length else (rowsE st.objs (someS s ps) iMin iMax).noPlace) := Lib.hid rfl
  have HRl : Hid (rewE st.objs s ps ≠ .nil → rewL st.objs s ps = []) := Lib.hid fun h => if_neg h
  have HRg : Hid (rewE st.objs s ps = .nil → rewL st.objs s ps = rowsL st.objs (someS s ps) iMin iMax) := Lib.hid fun h => if_pos h
  clear hE hT hM h ht hs hx hxp hba1 hba2 hg0 hg1 hs1
  go_enter Tryz.func16, Tryz.ntmps16
  go_upto_region 1 with fail
  generalize (w.alloc (snObj s (.slice a s.files.length c))).alloc (.cells #[.slice ap ps.length cp] 39) = w0 at *
  obtain ⟨c0, c1, c2, c3, c4, c5, c6⟩ := snRow7 (HG.out w0 (Below.refl _ _)).1
  have HCk := Lib.hid (snapCheck_any E B s _ w0 ((X.out _ hba).1.sub (by decide)) (X.out _ hba).2.1 (X.out _ hba).2.2 (XF.out _ hba).2.1 HMs.out)
  go_wp2_with fail
  refine HCk.out.mono ?_
  rintro e w1 ⟨ev, rfl, hev, hb1⟩
  have hbw1 := hba.trans (hb1.mono hba.size)
  clear HCk c0 c1 c2 c3 c4 c5 c6
  by_cases hck : snapCheck s = .nil
  case neg =>
    have HE2 : Hid (rewE st.objs s ps = snapCheck s) := Lib.hid (by rw [HRe.out, if_pos hck])
    have HL2 : Hid (rewL st.objs s ps = []) := Lib.hid (HRl.out (by rw [HE2.out]; exact hck))
    have HEv := Lib.hid hev
    obtain ⟨t1, x1, rfl⟩ := hev.iface hck
    clear hck hev
    go_wp2_with fail
    go_ret2
    exact ⟨_, _, rfl, by rw [HE2.out]; exact HEv.out, by rw [HL2.out]; exact At.nil _ _ _, hbw1⟩
  rw [hck] at hev
  obtain rfl : ev = .nilIface := hev
  have HRs := Lib.hid ((snap_iff s).1 hck)
  have HE1 : Hid (rewE st.objs s ps = if firstErr (pathBad s.files ps) ps.length ≠ .nil then firstErr (pathBad s.files ps) ps.length else (rowsE st.objs (someS s ps) iMin iMax).noPlace) := Lib.hid (by rw [HRe.out, if_neg (by rw [hck]; simp)])
  clear hck HRe
  have k0 : w1.cell? ⟨w.heap.size + 1, 0, none⟩ = some (.slice ap ps.length cp) := by rw [cell_of_row w1 _ _ _ _ (0, 0) (HG.out w1 hb1).2]; rfl
  have HN6 := Lib.hid ((X.out w1 hbw1).1.var 6 (by decide))
  go_wp2_with fail
  clear k0
  go_loopw [6, 7, 9, 10, 11, 24] (fun r1 r2 _ _ _ i wr => ∃ k : Nat, k ≤ ps.length ∧ r1 = .slice none 0 0 ∧ r2 = .nilIface ∧ i = .int .i64 k ∧ Hid (∀ j < k, pathBad s.files ps j = 0) ∧ Below w1.heap.size w1 wr) (fun _ _ _ _ _ i _ => ps.length - (intOf i).toNat)
  case atStart => exact ⟨0, by omega, rfl, rfl, rfl, Lib.hid fun j hj => absurd hj (by omega), Below.refl _ _⟩
  case round =>
    obtain ⟨k, hk, rfl, rfl, rfl, hj, hb⟩ := hrel
    obtain ⟨wo, rfl⟩ : ∃ wo, wo = wr := ⟨wr, rfl⟩
    have hbwo := hbw1.trans (hb.mono hbw1.size)
    have hb0o := hb1.trans (hb.mono hb1.size)
    by_cases hlt : k < ps.length
    case neg =>
      obtain rfl : k = ps.length := by omega
      have f1 : decide ((ps.length : Int) < (ps.length : Int)) = false := by simp
      have HE2 : Hid (rewE st.objs s ps = (rowsE st.objs (someS s ps) iMin iMax).noPlace) := Lib.hid (by rw [HE1.out, firstErr_all hj.out, if_neg (by simp)])
      have c6 := (snRow7 (HG.out wo hb0o).1).2.2.2.2.2.2
      have HCl := Lib.hid (cloneF_any (.slice a s.files.length c) s.files wo (XF.out wo hbwo).2.1 (by have := HRs.out.lst.len; omega))
      go_wp2_with fail
      refine HCl.out.mono ?_
      rintro e w2 ⟨v2, rfl, hv2, hb2⟩
      have hb02 := hb0o.trans (hb2.mono hb0o.size)
      have hbw2 := hbwo.trans (hb2.mono hbwo.size)
      have HDe := Lib.hid (deleteFuncF_any 58 #[.pointer (some ⟨w.heap.size + 1, 0, none⟩)] (fun x => !someF ps x) wo.heap.size wo v2 s.files w2 clo_rewrite1 (fun W x _ hbW _ => rewrite1_any x (w.heap.size + 1) (.slice ap ps.length cp) ps W (by
        rw [cell_of_row W _ _ _ _ (0, 0) (HG.out W (hb0o.trans (hbW.mono hb0o.size))).2]; rfl) (XF.out W (hbwo.trans (hbW.mono hbwo.size))).2.2 (by omega)) hv2 hb2 hb2.size)
      clear c6 HCl hv2
      have c6 := (snRow7 (HG.out w2 hb02).1).2.2.2.2.2.2
      go_wp2_with fail
      refine HDe.out.mono ?_
      rintro e w3 ⟨v3, rfl, hv3, hb3⟩
      have hbo3 := hb2.trans hb3
      have hb03 := hb0o.trans (hbo3.mono hb0o.size)
      have hbw3 := hbwo.trans (hbo3.mono hbwo.size)
      have hfs : (s.files.filter fun x => !(!someF ps x)) = s.files.filter (someF ps) := List.filter_congr fun x _ => Bool.not_not _
      rw [hfs] at hv3
      obtain ⟨L, hL⟩ : ∃ L, s.files.filter (someF ps) = L := ⟨_, rfl⟩
      rw [hL] at hv3
      obtain ⟨a3, c3, rfl, -, -⟩ := At.form' (hv3.at encF_enc)
      have hg3 := (HG.out w3 hb03).1
      have f6 := frozen_row (i := 6) hg3
      have q6 : w3.cell? ⟨w.heap.size, 6, none⟩ = some (.slice a s.files.length c) := by rw [cell_of_row w3 _ _ _ _ (0, 0) hg3]; rfl
      have hgS := snap_set (u := .slice a3 L.length c3) hg3
      have hvS := own_set (i := 6) (x := .slice a3 L.length c3) hv3 hg3 (fun cs hc => by simp at hc)
      have hstS := (XF.out w3 hbw3).1.away (by have := HSb.out; omega) (by have := HSb.out; omega) (g := w.heap.size) (i := 6) (.slice a3 L.length c3)
      have hbS := hbw3.setCell (p := ⟨w.heap.size, 6, none⟩) (Nat.le_refl _) (.slice a3 L.length c3)
      have HL2 : Hid (rewL st.objs s ps = rowsL st.objs (someS s ps) iMin iMax) := Lib.hid (by
        by_cases hr : rewE st.objs s ps = .nil
        · exact HRg.out hr
        · rw [HRl.out hr]
          rw [HE2.out] at hr
          exact (if_neg fun h => hr (by rw [h]; rfl)).symm)
      obtain ⟨s2, hs2⟩ : ∃ s2, s2 = someS s ps := ⟨_, rfl⟩
      have hf2 : s2.files = L := by rw [hs2, ← hL]; rfl
      have hgS2 : (w3.setCell ⟨w.heap.size, 6, none⟩ (.slice a3 L.length c3)).heap[w.heap.size]? = some (.cells #[.int .i64 s2.id, .int .i64 s2.parent, .int .i64 s2.seq, .int .i64 s2.day, .int .i64 s2.index, S s2.op, .slice a3 L.length c3] 25 (0, 0)) := by rw [hs2]; exact hgS
      rw [← hs2] at HE2 HL2
      have HMf : Hid (∀ x ∈ s2.files, midF x) := Lib.hid (by rw [hf2, ← hL]; exact fun x hx => HMs.out x (List.mem_filter.1 hx).1)
      have hvf := hvS.at encF_enc
      clear hfs hv3 hg3 hgS hvS hb3 hb02 c6 hs2 hL
      go_upto_region 14 with fail
      clear f6 q6
      generalize w3.setCell ⟨w.heap.size, 6, none⟩ (.slice a3 L.length c3) = w4 at *
      have HRo := Lib.hid (scanRows_any E B sb mb st s2 (.slice a3 L.length c3) iMin iMax w4 (X.out _ hbS).1 (X.out _ hbS).2.1 (X.out _ hbS).2.2 hstS HTx.out (by rw [hf2]; exact hvf) HMf.out)
      obtain ⟨c0, c1, c2, c3', c4, c5, c6⟩ := snRow7 hgS2
      clear hgS2 hvf hstS hf2
      go_wp2_with fail
      refine HRo.out.mono ?_
      rintro e w5 ⟨u, ev, rfl, hev, hu, hb5⟩
      have hbw5 := hbS.trans (hb5.mono hbS.size)
      have HBa := Lib.hid (fileBare_any E _ ev w5 hev)
      have HU := Lib.hid hu
      clear c0 c1 c2 c3' c4 c5 c6 hev hu
      go_wp2_with fail
      refine HBa.out.mono ?_
      rintro e w6 ⟨ev2, rfl, hev2, rfl⟩
      have HEv2 := Lib.hid hev2
      clear hev2
      go_wp2_with fail
      go_ret2
      exact ⟨_, _, rfl, by rw [HE2.out]; exact HEv2.out, by rw [HL2.out]; exact HU.out, hbw5⟩
    have f1 : (k : Int) < (ps.length : Int) := by omega
    obtain ⟨p, hpk⟩ := get_ex hlt
    have x0 := (hbwo.cell (World.block_lt_of_cell? _ _ (HXp.out k p hpk 0 _ rfl))).trans (HXp.out k p hpk 0 _ rfl)
    have i1 := idx_at (c := cp) 1 Tryz.underlying39 szStr hap k hlt
    simp only [Nat.mul_one, Nat.add_zero] at x0 i1
    have c6 := (snRow7 (HG.out wo hb0o).1).2.2.2.2.2.2
    have HPb : Hid (pathBad s.files ps k = if dataPath s.files p then 0 else 6) := Lib.hid (by unfold pathBad; rw [hpk])
    have HBad : Hid (dataPath s.files p = false → rewE st.objs s ps = .loc 6 k ∧ rewL st.objs s ps = []) := Lib.hid fun hd => by
      have e6 : pathBad s.files ps k = 6 := by rw [HPb.out, hd]; rfl
      have e := firstErr_hit hlt hj.out (by rw [e6]; decide)
      rw [e6] at e
      have : rewE st.objs s ps = .loc 6 k := by rw [HE1.out, e, if_pos (by simp)]
      exact ⟨this, HRl.out (by rw [this]; simp)⟩
    have HOk : Hid (dataPath s.files p = true → ∀ j < k + 1, pathBad s.files ps j = 0) := Lib.hid fun hd j hj' => by
      rcases Nat.lt_or_ge j k with h' | h'
      · exact hj.out j h'
      · obtain rfl : j = k := by omega
        rw [HPb.out, hd]; rfl
    have HFd := Lib.hid (listFind_any (.slice a s.files.length c) s.files p wo (XF.out wo hbwo).2.1)
    clear hpk
    by_cases hfd : findV s.files p < 0
    case pos =>
      have HB2 := Lib.hid (HBad.out (data_none hfd))
      obtain ⟨fv, hfv⟩ : ∃ fv, findV s.files p = fv := ⟨_, rfl⟩
      rw [hfv] at HFd hfd
      clear hfv
      go_wp2_with fail
      refine HFd.out.mono ?_
      rintro e w2 ⟨rfl, hb2⟩
      have hbw2 := hbwo.trans (hb2.mono hbwo.size)
      have e6 := (X.out w2 hbw2).1.var 6 (by decide)
      change w2.cell? ⟨2, 0, none⟩ = _ at e6
      clear c6 x0
      go_wp2_with fail
      go_region
      all_goals
        go_wp2_with fail
        go_ret2
        first
          | exact ⟨_, _, rfl, by rw [HB2.out.1]; exact ErV.fresh (by decide) _ _ _ _ rfl, by rw [HB2.out.2]; exact At.nil _ _ _, (Bdn hbw2 1).alloc (Bdn hbw2 1).size _⟩
          | exact ⟨_, _, rfl, by rw [HB2.out.1]; exact ErV.fresh (by decide) _ _ _ _ rfl, by rw [HB2.out.2]; exact At.nil _ _ _, hbw2.alloc hbw2.size _⟩
          | exact ⟨_, _, rfl, by rw [HB2.out.1]; exact (ErV.fresh (by decide) _ w2 _ _ rfl).below (Bdn (Below.refl _ _) 1), by rw [HB2.out.2]; exact At.nil _ _ _, Bdn (hbw2.alloc hbw2.size _) 1⟩
    obtain ⟨i, f, hfi, hif', hfp, hdp⟩ := data_some HRs.out.lst hfd
    obtain ⟨d0, d1, d2, d3, d4, d5⟩ := flCells HX.out hbwo hif'
    have hil := (List.getElem?_eq_some_iff.1 hif').1
    have i2 := idx_at (c := c) 6 Tryz.underlying23 szFl ha i hil
    rw [hfi] at HFd
    have g0 : decide ((i : Int) < 0) = false := by simp
    have hi1 : (i : Int) < (s.files.length : Int) := by omega
    have HXi := Lib.hid (fun W (hb' : Below w.heap.size w W) => flCells HX.out hb' hif')
    cases hg : isG f with
    | true =>
      have HB2 := Lib.hid (HBad.out (by rw [hdp, hg]; rfl))
      have g1 : (f.part == [45]) = true := hg
      clear hg hdp hif' hfi hfd d0 d1 d2 d3 d4 d5
      go_wp2_with fail
      refine HFd.out.mono ?_
      rintro e w2 ⟨rfl, hb2⟩
      have hbw2 := hbwo.trans (hb2.mono hbwo.size)
      have hb02 := hb0o.trans (hb2.mono hb0o.size)
      have e6 := (X.out w2 hbw2).1.var 6 (by decide)
      change w2.cell? ⟨2, 0, none⟩ = _ at e6
      clear c6 x0
      have c6 := (snRow7 (HG.out w2 hb02).1).2.2.2.2.2.2
      obtain ⟨d0, d1, d2, d3, d4, d5⟩ := HXi.out w2 hbw2
      go_wp2_with fail
      go_region
      all_goals
        go_wp2_with fail
        go_ret2
        first
          | exact ⟨_, _, rfl, by rw [HB2.out.1]; exact ErV.fresh (by decide) _ _ _ _ rfl, by rw [HB2.out.2]; exact At.nil _ _ _, (Bdn hbw2 1).alloc (Bdn hbw2 1).size _⟩
          | exact ⟨_, _, rfl, by rw [HB2.out.1]; exact ErV.fresh (by decide) _ _ _ _ rfl, by rw [HB2.out.2]; exact At.nil _ _ _, hbw2.alloc hbw2.size _⟩
          | exact ⟨_, _, rfl, by rw [HB2.out.1]; exact (ErV.fresh (by decide) _ w2 _ _ rfl).below (Bdn (Below.refl _ _) 1), by rw [HB2.out.2]; exact At.nil _ _ _, Bdn (hbw2.alloc hbw2.size _) 1⟩
    | false =>
      have HJ2 := Lib.hid (HOk.out (by rw [hdp, hg]; rfl))
      have g1 : (f.part == [45]) = false := hg
      clear hg hdp hif' hfi hfd d0 d1 d2 d3 d4 d5
      go_wp2_with fail
      refine HFd.out.mono ?_
      rintro e w2 ⟨rfl, hb2⟩
      have hbw2 := hbwo.trans (hb2.mono hbwo.size)
      have hb02 := hb0o.trans (hb2.mono hb0o.size)
      clear c6 x0
      have c6 := (snRow7 (HG.out w2 hb02).1).2.2.2.2.2.2
      obtain ⟨d0, d1, d2, d3, d4, d5⟩ := HXi.out w2 hbw2
      go_wp2_with fail
      go_roundw
      case rel => exact ⟨k + 1, by omega, rfl, rfl, by go_num, HJ2, hb.trans (hb2.mono hb.size)⟩
      case measure => simp [intOf]; omega
end Go.Proofs.YtpfohfihkmjnaaaGreatDoor
