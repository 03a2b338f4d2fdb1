/- gone.Has, gone.Read, gone.Make: the walks. gone.Make: the walk. deedboxref1.RisingOf: the walk. deedboxlaw1.goned: a closed fact of files of keys. -/
import Derived.Test.YtlfkjbdkbdcdnaaGreatDoorBx15
import Derived.Test.YtlfkjbdkbdcdnaaGreatDoorBx10
import Derived.Test.YtlfkjbdkbdcdnaaGreatDoorBx13
import Derived.Test.YtlfkjbdkbdcdnaaGreatDoorBx12
import Derived.Test.YtlfkjbdkbdcdnaaGreatDoorBx2
import Derived.Test.YtlfkjbdkbdcdnaaGreatDoorBx8
import Derived.Test.YtlfkjbdkbdcdnaaGreatDoorBx6
import Derived.Deep.RegionHeld3
import Derived.Deep.CutBlock
import Derived.Deep.DeepCutAuto
import Derived.BigQuiet
import Derived.Test.YtlfkjbdkbdcdnaaGreatDoorBx1
namespace Go.Proofs.YtlfkjbdkbdcdnaaGreatDoor
open Go.RowKit

theorem goneHas_any (v : Value) (l : List Int) (x : Int) (w : World) (hl : IntsAt w v l) (hn : l.length ≤ 100000) (hup : upI l) :
    Calls Tryz.prog 22 #[v, .int .i64 x] w fun e w' => e = .returned (.bool (decide (x ∈ l))) ∧ Below w.heap.size w w' := by
  obtain ⟨a, c, b, o, rfl, ha, hc, hcm, hx⟩ := hl
  rcases Nat.eq_zero_or_pos l.length with h0 | hpos
  · obtain rfl := List.eq_nil_of_length_eq_zero h0
    go_enter Tryz.func22, Tryz.ntmps22
    go_wp2_with fail
    refine (Tryz.slices_BinarySearch_int_empty a c x w).mono ?_
    rintro e w1 ⟨rfl, rfl⟩
    go_wp2_with fail
    go_ret
    exact ⟨ret_bool (by simp), Below.refl _ _⟩
  · obtain rfl := ha hpos
    have HS := Lib.hid (Tryz.slices_BinarySearch_int b o l.length c l x w (Nat.le_refl _) (by omega) (fun j hj => by
      have := hx j _ (getD_of hj) 0 _ rfl
      simpa using this) (by rw [List.take_length]; exact hup.imp fun {a b} h => Int.le_of_lt h))
    rw [List.take_length] at HS
    clear hx
    go_enter Tryz.func22, Tryz.ntmps22
    go_wp2_with fail
    refine HS.out.mono ?_
    rintro e w1 ⟨rfl, q, rfl⟩
    go_wp2_with fail
    go_ret
    exact ⟨ret_bool (by simp), Bdn (Below.refl _ _) _⟩
theorem goneBad_none {ls : List Str} {i : Nat} {s : Str} (h : ls[i]? = some s) (hn : numOf s = none) : goneBad ls i = 1 := by
  unfold goneBad; rw [h]; simp only; rw [hn]; rfl
theorem goneBad_far {ls : List Str} {i : Nat} {s : Str} {k : Int} (h : ls[i]? = some s) (hn : numOf s = some k) (hf : farN k) : goneBad ls i = 2 := by
  have e : numD s = k := by unfold numD; rw [hn]; rfl
  unfold goneBad; rw [h]; simp only; rw [hn, e]; simp only [Option.isNone_some, Bool.false_eq_true, if_false]; rw [if_pos hf]
theorem goneBad_near {ls : List Str} {i : Nat} {s : Str} {k : Int} (h : ls[i]? = some s) (hn : numOf s = some k) (hf : ¬ farN k) : goneBad ls i = if 0 < i ∧ ∃ t, ls[i - 1]? = some t ∧ k ≤ numD t then 9 else 0 := by
  have e : numD s = k := by unfold numD; rw [hn]; rfl
  unfold goneBad; rw [h]; simp only; rw [hn, e]; simp only [Option.isNone_some, Bool.false_eq_true, if_false]; rw [if_neg hf]
/-- Where the reading stands: the box holds the numbers of the lines read. -/
def GJ (ls : List Str) (O : Nat) (i : Nat) (W : World) : Prop := ∃ v, Boxed W O 39 v ∧ Own encI 3 1 O W v ((ls.take i).map numD)
set_option maxHeartbeats 2000000 in
set_option maxRecDepth 20000 in
theorem goneRead1_any (E : Nat → Addr) (B : Nat) (ls : List Str) (O i : Nat) (s : Str) (w : World) (hE : Errs [1, 2, 9] E B w) (hT : LNum B w) (hs : ls[i]? = some s) (hJ : GJ ls O i w) (hn : ls.length ≤ 100000) (hsl : s.length ≤ 100000) :
    Calls Tryz.prog 69 #[.int .i64 i, S s, .pointer (some ⟨O, 0, none⟩)] w fun e w' => ∃ ev, e = .returned ev ∧ ErV E w' ev (erOf (goneBad ls i)) ∧ (goneBad ls i = 0 → GJ ls O (i + 1) w') ∧ Below O w w' := by
  have hBw := hE.le
  obtain ⟨v, hv, hown⟩ := hJ
  have hO : O < w.heap.size := hv.lt
  have hE1 := fun w1 (hb : Below w.heap.size w w1) => (⟨(hE.below' hb hBw).var 1 (by decide), (hE.below' hb hBw).var 2 (by decide), (hE.below' hb hBw).var 9 (by decide)⟩ : _ ∧ _ ∧ _)
  simp only [errG] at hE1
  have HE1 := Lib.hid hE1
  have hlen : ((ls.take i).map numD).length = i := by rw [List.length_map, List.length_take]; have := (List.getElem?_eq_some_iff.1 hs).1; omega
  have hi1 := (List.getElem?_eq_some_iff.1 hs).1
  have HN := Lib.hid (number_any B s w hT hsl)
  have hsn : (ls.take (i + 1)).map numD = (ls.take i).map numD ++ [numD s] := by rw [take_snoc' hs, List.map_append]; rfl
  have HB1 := Lib.hid (goneBad_none hs)
  have HB2 := Lib.hid (fun k => @goneBad_far ls i s k hs)
  have HB3 := Lib.hid (fun k => @goneBad_near ls i s k hs)
  have hprev : ∀ y, 0 < i → ((ls.take i).map numD)[i - 1]? = some y → ((∃ t, ls[i - 1]? = some t ∧ numD s ≤ numD t) ↔ numD s ≤ y) := fun y h0 hy => by
    rw [List.getElem?_map, List.getElem?_take_of_lt (by omega)] at hy
    cases ht : ls[i - 1]? with
    | none => rw [ht] at hy; cases hy
    | some t =>
      rw [ht] at hy
      cases hy
      exact ⟨fun ⟨t', e, h⟩ => by cases e; exact h, fun h => ⟨t, rfl, h⟩⟩
  obtain ⟨q, hq⟩ : ∃ q, (ls.take i).map numD = q := ⟨_, rfl⟩
  rw [hq] at hown hlen hsn hprev
  have HSn := Lib.hid hsn
  have HPrev := Lib.hid hprev
  have HLen := Lib.hid hlen
  obtain ⟨atn, hat⟩ : ∃ m, atoiN s = m := ⟨_, rfl⟩
  obtain ⟨o, ho⟩ : ∃ o, numOf s = o := ⟨_, rfl⟩
  have hom : ∀ n, o = some n → atn = n := fun n h => by rw [← hat, ← numOf_atoiN (ho.trans h)]
  have hnd : ∀ n, o = some n → numD s = n := fun n h => by unfold numD; rw [ho, h]; rfl
  rw [hat, ho] at HN
  rw [ho] at HB1
  simp only [ho] at HB2 HB3
  have HHnd := Lib.hid hnd
  clear hE1 hs hsn hprev hat ho hnd hq hlen
  go_enter Tryz.func69, Tryz.ntmps69
  go_wp2_with fail
  refine HN.out.mono ?_
  rintro e w1 ⟨rfl, hb1⟩
  obtain ⟨v1, v2, v3⟩ := HE1.out _ hb1
  cases o with
  | none =>
    have hbad : goneBad ls i = 1 := HB1.out rfl
    have HBad := Lib.hid hbad
    clear hbad hom
    simp only [Option.isSome_none]
    go_wp2_with fail
    go_ret
    exact ⟨_, rfl, by rw [HBad.out]; exact ⟨by decide, rfl⟩, fun h => (by rw [HBad.out] at h; cases h), hb1.mono (by omega)⟩
  | some k =>
    obtain rfl := hom k rfl
    have hnk := HHnd.out atn rfl
    simp only [Option.isSome_some]
    clear hom HHnd
    rw [hnk] at HSn HPrev
    clear hnk
    by_cases hf : farN atn
    case pos =>
      have hbad : goneBad ls i = 2 := HB2.out atn rfl hf
      have hd : decide (farN atn) = true := decide_eq_true hf
      have HBad := Lib.hid hbad
      clear hbad hf
      go_wp2_with (first | (go_at_call 64; refine (far_any _ _).mono ?_; rintro e w' ⟨rfl, rfl⟩; rw [hd]))
      go_ret
      exact ⟨_, rfl, by rw [HBad.out]; exact ⟨by decide, rfl⟩, fun h => (by rw [HBad.out] at h; cases h), hb1.mono (by omega)⟩
    have hd : decide (farN atn) = false := decide_eq_false hf
    have hbad := HB3.out atn rfl hf
    have HBad := Lib.hid hbad
    have hown1 := hown.below hb1
    have hv1 : Boxed w1 O 39 v := (hb1.block O hO).trans hv
    have hb1' : Below O w w1 := hb1.mono (by omega)
    have hO1 : O ≤ w1.heap.size := Nat.le_trans (by omega) hb1.size
    clear hbad hf HB1 HB2 HB3 hown hv
    have hbx := hv1.cell
    by_cases h0 : 0 < i
    case' pos =>
      obtain ⟨g, cap, cur, rfl, -⟩ := hown1.open (by rw [HLen.out]; exact h0)
      obtain ⟨y, hy⟩ := get_ex (l := q) (k := i - 1) (by rw [HLen.out]; omega)
      have hyc := hown1.cells1 (f := Value.int .i64) encI_enc (fun _ => rfl) (i - 1) y hy
      have hpv := HPrev.out y h0 hy
      have i2 := idx_at (n := q.length) (c := cap) (b := g) (o := 0) 1 Tryz.underlying39 szInt (fun _ => rfl) (i - 1) (by rw [HLen.out]; omega)
      have hcast : ((i - 1 : Nat) : Int) = (i : Int) - 1 := by omega
      simp only [hcast, Nat.mul_one, Nat.zero_add] at i2
      have hp1 : (0 : Int) < (i : Int) := by omega
      have hs0 : (0 : Int) ≤ (i : Int) - 1 := by omega
      have hs1 : (i : Int) - 1 < (q.length : Int) := by rw [HLen.out]; omega
      clear hy hcast
      by_cases hle : atn ≤ y
      case pos =>
        have HBad9 : Hid (goneBad ls i = 9) := Lib.hid (by rw [HBad.out, if_pos ⟨h0, hpv.2 hle⟩])
        clear hpv
        go_wp2_with (first | (go_at_call 64; refine (far_any _ _).mono ?_; rintro e w' ⟨rfl, rfl⟩; rw [hd]))
        go_ret
        exact ⟨_, rfl, by rw [HBad9.out]; exact ⟨by decide, rfl⟩, fun h => (by rw [HBad9.out] at h; cases h), hb1'⟩
      have hle2 : decide (atn ≤ y) = false := by simpa using hle
      have HBad0 : Hid (goneBad ls i = 0) := Lib.hid (by rw [HBad.out, if_neg (fun h => hle (hpv.1 h.2))])
      clear hpv hle
    case' neg =>
      have hp0 : decide ((0 : Int) < (i : Int)) = false := by simp; omega
      have HBad0 : Hid (goneBad ls i = 0) := Lib.hid (by rw [HBad.out, if_neg (fun h => h0 h.1)])
    all_goals
      go_wp2_with (first
        | (go_at_call 64; refine (far_any _ _).mono ?_; rintro e w' ⟨rfl, rfl⟩; rw [hd])
        | (at_builtin; refine wpList_app rfl _ _ _ rfl O elInt _ q.length _ rfl (hown1.alloc _) (.slice (some ⟨w1.heap.size, 0, none⟩) 1 1) 1 (encI atn) rfl (src_one rfl rfl (by simp [Value.oneCell'])) (by rw [HLen.out]; unfold maxLen; omega) (by rw [HLen.out]; omega) (by simp; omega) ?_; intro v' w2 hown2 hg2 _; obtain ⟨g', cap', rfl⟩ := ownsRow_succ hown2; obtain ⟨hq1, hq2, hq3, hq4, hq5⟩ := hv1.appended (by decide) hown1 hO1 (Nat.le_refl _) hown2 hg2; have hc1 := hq1.cell; have hf1 := hq1.frozen))
      go_ret
      exact ⟨_, rfl, by rw [HBad0.out]; rfl, fun _ => ⟨_, hq2, by rw [HSn.out]; exact Own.snoc hq3⟩, hb1'.trans hq5⟩
theorem readEr_split {word s : Str} {bad : List Str → Nat → Nat} {keys : List Str → List Int} (h : splitE word s ≠ .nil) : readEr word s bad keys = splitE word s := if_pos h
theorem readEr_each {word s : Str} {bad : List Str → Nat → Nat} {keys : List Str → List Int} (h : splitE word s = .nil) (h2 : eachEr (bad (splitL s)) (splitL s) ≠ .nil) : readEr word s bad keys = eachEr (bad (splitL s)) (splitL s) := by
  unfold readEr; rw [if_neg (by simpa using h), if_pos h2]
theorem readEr_full {word s : Str} {bad : List Str → Nat → Nat} {keys : List Str → List Int} (h : splitE word s = .nil) (h2 : eachEr (bad (splitL s)) (splitL s) = .nil) (h3 : 40 < (keys (splitL s).dropLast).length) : readEr word s bad keys = .bare 8 := by
  unfold readEr; rw [if_neg (by simpa using h), if_neg (by simpa using h2), if_pos h3]
theorem readEr_last {word s : Str} {bad : List Str → Nat → Nat} {keys : List Str → List Int} (h : splitE word s = .nil) (h2 : eachEr (bad (splitL s)) (splitL s) = .nil) (h3 : ¬ 40 < (keys (splitL s).dropLast).length) : readEr word s bad keys = if fitsI (splitN word s) (keys (splitL s).dropLast) then .nil else .bare 3 := by
  unfold readEr; rw [if_neg (by simpa using h), if_neg (by simpa using h2), if_neg h3]
theorem splitN_four {word s : Str} (h : splitE word s = .nil) : ∃ n0 n1 n2 n3, splitN word s = [n0, n1, n2, n3] := by
  unfold splitE at h
  split at h
  · cases h
  cases hn : headN word s with
  | none => rw [hn] at h; cases h
  | some n =>
    obtain ⟨n0, n1, n2, n3, rfl, -⟩ := headN_some hn
    exact ⟨n0, n1, n2, n3, by unfold splitN; rw [hn]; rfl⟩
theorem splitL_len {s : Str} {m : Nat} (h : s.length ≤ m) : (splitL s).length ≤ m + 1 ∧ ∀ x ∈ splitL s, x.length ≤ m := by
  have hc := (cut_len s [10]).2
  unfold splitL
  constructor
  · rw [cutAt_length]
    have h2 : (Lib.cut s [10]).2.1.count 10 ≤ (Lib.cut s [10]).2.1.length := List.count_le_length
    omega
  · intro x hx
    have := cutAt_mem_len (c := 10) hx
    omega
set_option maxHeartbeats 2000000 in
set_option maxRecDepth 20000 in
theorem goneRead_any (E : Nat → Addr) (B : Nat) (s : Str) (w : World) (hE : Errs [1, 2, 3, 8, 9, 10] E B w) (hT : LNum B w) (hM : LMax B w) (hs : s.length ≤ 50000) :
    Calls Tryz.prog 19 #[S s] w fun e w' => ∃ u ev, e = .returned (.tuple #[u, ev]) ∧ ErV E w' ev (goneE s) ∧ IntsAt w' u (goneL s) ∧ Below w.heap.size w w' := by
  have hBw := hE.le
  have hif := isIfaceE
  have hE1 := fun w1 (hb : Below w.heap.size w w1) => (⟨(hE.below' hb hBw).var 3 (by decide), (hE.below' hb hBw).var 8 (by decide)⟩ : _ ∧ _)
  simp only [errG] at hE1
  have HE1 := Lib.hid hE1
  have X := Lib.hid (fun W (h : Below w.heap.size w W) => (⟨hE.below' h hBw, hT.below' h hBw, hM.below' h hBw⟩ : Errs [1, 2, 3, 8, 9, 10] E B W ∧ LNum B W ∧ LMax B W))
  obtain ⟨hll, hlm⟩ := splitL_len hs
  have HS := Lib.hid (dataSplit_any E B kGone s w (hE.sub (by decide)) hT hM (by omega))
  have hG : goneE s = readEr kGone s goneBad (fun l => l.map numD) := rfl
  have hL : goneL s = if goneE s = .nil then (splitL s).dropLast.map numD else [] := rfl
  have HL := Lib.hid hL
  have HG := Lib.hid hG
  have HLm := Lib.hid hlm
  have HF4 := Lib.hid (@splitN_four kGone s)
  have H1 := Lib.hid (@readEr_split kGone s goneBad (fun l => l.map numD))
  have H2 := Lib.hid (@readEr_each kGone s goneBad (fun l => l.map numD))
  have H3 := Lib.hid (@readEr_full kGone s goneBad (fun l => l.map numD))
  have H4 := Lib.hid (@readEr_last kGone s goneBad (fun l => l.map numD))
  clear hG hL hE1 hlm
  generalize splitN kGone s = ns at *
  generalize splitL s = ls at *
  go_enter Tryz.func19, Tryz.ntmps19
  go_wp2_with fail
  refine HS.out.mono ?_
  rintro e w1 ⟨vn, vl, ev, rfl, hev, hgood, hb1⟩
  by_cases h0 : splitE kGone s = .nil
  case neg =>
    obtain ⟨t1, x1, rfl⟩ := hev.iface h0
    have hGe : goneE s = splitE kGone s := HG.out.trans (H1.out h0)
    have HGe := Lib.hid hGe
    have HLe : Hid (goneL s = []) := Lib.hid (by rw [HL.out, hGe, if_neg h0])
    clear h0 hgood hGe
    go_wp2_with fail
    go_ret2
    exact ⟨_, _, rfl, by rw [HGe.out]; exact hev, by rw [HLe.out]; exact At.nil _ _ _, hb1⟩
  rw [h0] at hev
  obtain rfl : ev = .nilIface := hev
  obtain ⟨hon, hol⟩ := hgood h0
  obtain ⟨n0, n1, n2, n3, hns⟩ := HF4.out h0
  have H0 := Lib.hid h0
  have HNs := Lib.hid hns
  have hat := hol.at encS_enc
  have hba : Below w1.heap.size w1 (w1.alloc (.cells #[.slice none 0 0] 39)) := (Below.refl _ _).alloc (Nat.le_refl _) _
  have hbA := hb1.trans (hba.mono hb1.size)
  have hEa := dataEach_any E B vl ls 69 #[.pointer (some ⟨w1.heap.size, 0, none⟩)] (goneBad ls) (GJ ls w1.heap.size) w1.heap.size _ ((X.out _ hbA).1.sub (by decide)) (Nat.le_trans hBw hb1.size) (by simp) (enters_of Tryz.func69 (by kernel_rfl) rfl) w1 hat (Nat.le_refl _) hba (by omega)
    ⟨_, Boxed.new w1 39 (.slice none 0 0), Own.nil _ _ _ _ _⟩
    (fun i x W hx hJ hbW => by
      have hbW' := hbA.trans (hbW.mono hb1.size)
      have := goneRead1_any E B ls w1.heap.size i x W ((X.out _ hbW').1.sub (by decide)) (X.out _ hbW').2.1 hx hJ (by omega) (by have := HLm.out x (List.mem_of_getElem? hx); omega)
      exact this)
  have HEa := Lib.hid hEa
  have HOn := Lib.hid hon
  clear hEa hgood hol hat h0 hns hon
  go_wp2_with fail
  refine HEa.out.mono ?_
  rintro e w2 ⟨ev, rfl, hev, hJ, hb2⟩
  have hb12 := hba.trans hb2
  have hb2' := hb1.trans (hb12.mono hb1.size)
  by_cases he : eachEr (goneBad ls) ls = .nil
  case neg =>
    obtain ⟨t1, x1, rfl⟩ := hev.iface he
    have hGe : goneE s = eachEr (goneBad ls) ls := HG.out.trans (H2.out H0.out he)
    have HGe := Lib.hid hGe
    have HLe : Hid (goneL s = []) := Lib.hid (by rw [HL.out, hGe, if_neg he])
    clear he hJ hGe
    go_wp2_with fail
    go_ret2
    exact ⟨_, _, rfl, by rw [HGe.out]; exact hev, by rw [HLe.out]; exact At.nil _ _ _, hb2'⟩
  rw [he] at hev
  obtain rfl : ev = .nilIface := hev
  obtain ⟨v, hv, hown⟩ := hJ he
  rw [← List.dropLast_eq_take] at hown
  have H3' := Lib.hid (H3.out H0.out he)
  have H4' := Lib.hid (H4.out H0.out he)
  obtain ⟨keys, hkeys⟩ : ∃ keys, ls.dropLast.map numD = keys := ⟨_, rfl⟩
  rw [hkeys] at hown HL H3' H4'
  obtain ⟨a, c, rfl, -, -⟩ := (hown.at encI_enc).form'
  have hbx := hv.cell
  have HOwn := Lib.hid hown
  have hkl : keys.length ≤ 60000 := by rw [← hkeys, List.length_map, List.length_dropLast]; omega
  obtain ⟨v3, v8⟩ := HE1.out _ hb2'
  clear he hkeys hown HEa
  by_cases h40 : 40 < keys.length
  case pos =>
    have g : (40 : Int) < (keys.length : Int) := by omega
    have hGe : goneE s = .bare 8 := HG.out.trans (H3'.out h40)
    have HGe := Lib.hid hGe
    have HLe : Hid (goneL s = []) := Lib.hid (by rw [HL.out, hGe]; rfl)
    clear h40 hGe
    go_wp2_with fail
    go_quiet (fail)
    go_wp2_with fail
    go_ret2
    exact ⟨_, _, rfl, by rw [HGe.out]; exact ⟨by decide, rfl⟩, by rw [HLe.out]; exact At.nil _ _ _, Bdn hb2' _⟩
  have g : decide ((40 : Int) < (keys.length : Int)) = false := by simp; omega
  have hGe := HG.out.trans (H4'.out h40)
  have hFi := dataFits_any vn n0 n1 n2 n3 _ keys w2 (by have := (HOn.out.below hb12).at encI_enc; rwa [HNs.out] at this) (HOwn.out.at encI_enc) (by omega)
  rw [← HNs.out] at hFi
  have HGe := Lib.hid hGe
  have HFi := Lib.hid hFi
  clear h40 hGe hFi
  by_cases hf : fitsI ns keys
  case neg =>
    have hGe : goneE s = .bare 3 := by rw [HGe.out, if_neg hf]
    have HGe3 := Lib.hid hGe
    have HLe : Hid (goneL s = []) := Lib.hid (by rw [HL.out, hGe]; rfl)
    rw [decide_eq_false hf] at HFi
    clear hf hGe
    go_wp2_with fail
    refine HFi.out.mono ?_
    rintro e w3 ⟨rfl, hb3⟩
    have hb3' := hb2'.trans (hb3.mono hb2'.size)
    clear v3 v8
    obtain ⟨v3, v8⟩ := HE1.out _ hb3'
    go_wp2_with fail
    go_quiet (fail)
    go_wp2_with fail
    go_ret2
    exact ⟨_, _, rfl, by rw [HGe3.out]; exact ⟨by decide, rfl⟩, by rw [HLe.out]; exact At.nil _ _ _, Bdn hb3' _⟩
  have hGe : goneE s = .nil := by rw [HGe.out, if_pos hf]
  have HGe3 := Lib.hid hGe
  have HLe : Hid (goneL s = keys) := Lib.hid (by rw [HL.out, hGe, if_pos rfl])
  rw [decide_eq_true hf] at HFi
  clear hf hGe
  go_wp2_with fail
  refine HFi.out.mono ?_
  rintro e w3 ⟨rfl, hb3⟩
  have hb3' := hb2'.trans (hb3.mono hb2'.size)
  have hbx3 := (hb3.cell hv.lt).trans hbx
  clear hbx
  go_wp2_with fail
  go_ret2
  exact ⟨_, _, rfl, by rw [HGe3.out]; rfl, by rw [HLe.out]; exact (HOwn.out.below hb3).at encI_enc, hb3'⟩
end Go.Proofs.YtlfkjbdkbdcdnaaGreatDoor
namespace Go.Proofs.YtlfkjbdkbdcdnaaGreatDoor
open Go.RowKit

theorem idx_far (l : List Int) : (idxVal (fun n => decide (farN n)) l = -1 ∧ firstErr (farF l) l.length = .nil) ∨ (∃ k : Nat, idxVal (fun n => decide (farN n)) l = k ∧ firstErr (farF l) l.length = .loc 2 k) := by
  unfold idxVal
  cases h : l.findIdx? (fun n => decide (farN n)) with
  | none =>
    refine .inl ⟨rfl, firstErr_all fun j hj => ?_⟩
    have := List.findIdx?_eq_none_iff.1 h l[j] (List.getElem_mem hj)
    unfold farF
    rw [List.getElem?_eq_getElem hj]
    simp only
    rw [if_neg (by simpa using this)]
  | some k =>
    obtain ⟨hk, hp, hlt⟩ := List.findIdx?_eq_some_iff_getElem.1 h
    refine .inr ⟨k, rfl, ?_⟩
    have e : farF l k = 2 := by
      unfold farF
      rw [List.getElem?_eq_getElem hk]
      simp only
      rw [if_pos (by simpa using hp)]
    rw [firstErr_hit hk (fun j hj => ?_) (by rw [e]; decide), e]
    have := hlt j hj
    unfold farF
    rw [List.getElem?_eq_getElem (by omega)]
    simp only
    rw [if_neg (by simpa using this)]
theorem near_all {l : List Int} (h : firstErr (farF l) l.length = .nil) : ∀ n ∈ l, ¬ farN n := fun n hn hf => by
  obtain ⟨j, hj, he⟩ := List.getElem_of_mem hn
  have := firstErr_nil h j hj
  unfold farF at this
  rw [List.getElem?_eq_getElem hj, he] at this
  simp only at this
  rw [if_pos hf] at this
  cases this
set_option maxHeartbeats 2000000 in
set_option maxRecDepth 20000 in
theorem goneMake_any (E : Nat → Addr) (B : Nat) (v : Value) (l : List Int) (w : World) (hE : Errs [2, 8] E B w) (hT : LNum B w) (hl : IntsAt w v l) (hn : l.length ≤ 1000) :
    Calls Tryz.prog 18 #[v] w fun e w' => ∃ ev, e = .returned (.tuple #[S (madeT l), ev]) ∧ ErV E w' ev (madeE l) ∧ Below w.heap.size w w' := by
  have hBw := hE.le
  have hif := isIfaceE
  have hE1 := fun w1 (hb : Below w.heap.size w w1) => (⟨(hE.below' hb hBw).var 2 (by decide), (hE.below' hb hBw).var 8 (by decide)⟩ : _ ∧ _)
  simp only [errG] at hE1
  have HE1 := Lib.hid hE1
  have X := Lib.hid (fun W (h : Below w.heap.size w W) => (⟨hT.below' h hBw, hl.below h⟩ : LNum B W ∧ IntsAt W v l))
  have HK := Lib.hid (goneKeys_any v l w hl (by omega))
  have hql := risOf_len l
  obtain ⟨a, c, rfl, -, -⟩ := hl.form'
  have hI := fun W (h : Below w.heap.size w W) => indexFuncI_any 64 #[] (fun n => decide (farN n)) W.heap.size W (.slice a l.length c) l W (enters_of Tryz.func64 (by kernel_rfl) rfl) (fun W' x _ _ _ => (far_any x W').mono fun e w' h => ⟨h.1, h.2 ▸ Below.refl _ _⟩) (X.out W h).2 (Below.refl _ _) (Nat.le_refl _)
  have HI := Lib.hid hI
  have hway := idx_far l
  obtain ⟨iv, hiv⟩ : ∃ iv, idxVal (fun n => decide (farN n)) l = iv := ⟨_, rfl⟩
  rw [hiv] at hway
  simp only [hiv] at HI
  have HM : Hid (madeE l = if 40 < (risOf l).length then .bare 8 else firstErr (farF l) l.length) := Lib.hid rfl
  have HMt : Hid (madeT l = if madeE l = .nil then goneText (risOf l) else []) := Lib.hid rfl
  have hnear : firstErr (farF l) l.length = .nil → ∀ n ∈ risOf l, ¬ farN n := fun h n hn => near_all h n (mem_risOf.1 hn)
  have HNear := Lib.hid hnear
  have HWay := Lib.hid hway
  clear hE1 hl hI hiv hnear hway
  generalize risOf l = q at *
  go_enter Tryz.func18, Tryz.ntmps18
  go_wp2_with fail
  refine HK.out.mono ?_
  rintro e w1 ⟨u, rfl, hown, hb1⟩
  have hat := hown.at encI_enc
  obtain ⟨aq, cq, bq, oq, rfl, haq, hcq, hcmq, hxq⟩ := hat
  unfold maxLen at hcmq
  have HXq := Lib.hid hxq
  have HOwn := Lib.hid hown
  clear hown hxq HK
  by_cases h40 : 40 < q.length
  case pos =>
    have g : (40 : Int) < (q.length : Int) := by omega
    have hm : madeE l = .bare 8 := by rw [HM.out, if_pos h40]
    have HMe := Lib.hid hm
    have HMT : Hid (madeT l = []) := Lib.hid (by rw [HMt.out, hm]; rfl)
    obtain ⟨v2, v8⟩ := HE1.out _ hb1
    clear h40 hm
    go_wp2_with fail
    go_quiet (fail)
    go_wp2_with fail
    go_ret2
    exact ⟨_, by rw [HMT.out]; rfl, by rw [HMe.out]; exact ⟨by decide, rfl⟩, Bdn hb1 _⟩
  have g : decide ((40 : Int) < (q.length : Int)) = false := by simp; omega
  have HM2 : Hid (madeE l = firstErr (farF l) l.length) := Lib.hid (by rw [HM.out, if_neg h40])
  have hq40 : q.length ≤ 40 := by omega
  clear h40
  go_wp2_with fail
  refine (HI.out _ hb1).mono ?_
  rintro e w2 ⟨rfl, hb2⟩
  have hb2' := hb1.trans (hb2.mono hb1.size)
  obtain ⟨v2, v8⟩ := HE1.out _ hb2'
  rcases HWay.out with ⟨rfl, hfe⟩ | ⟨k, rfl, hfe⟩
  case inr =>
    have hm : madeE l = .loc 2 k := HM2.out.trans hfe
    have HMe := Lib.hid hm
    have HMT : Hid (madeT l = []) := Lib.hid (by rw [HMt.out, hm]; rfl)
    have g2 : (0 : Int) ≤ (k : Int) := by omega
    clear hm hfe
    go_wp2_with fail
    go_region
    all_goals
      go_wp2_with fail
      go_ret2
      exact ⟨_, by rw [HMT.out]; rfl, by rw [HMe.out]; exact (ErV.fresh (by decide) k w2 97 _ rfl).below (Below.refl _ _).drew, (hb2'.alloc hb2'.size _).drew⟩
  have hm : madeE l = .nil := HM2.out.trans hfe
  have HMe := Lib.hid hm
  have HMT : Hid (madeT l = wholeT kGone q (bodyT (q.map Lib.itoa))) := Lib.hid (by rw [HMt.out, if_pos hm]; rfl)
  have HNr := Lib.hid (HNear.out hfe)
  clear hm hfe v2 v8
  go_wp2_with fail
  go_loopw [6, 26] (fun u i wr => ∃ (k : Nat) (vl : Value), k ≤ q.length ∧ i = .int .i64 k ∧ vl = u ∧ Own encS 9 1 w2.heap.size wr vl ((q.take k).map Lib.itoa) ∧ Below w2.heap.size w2 wr) (fun _ i _ => q.length - (intOf i).toNat)
  case atStart => exact ⟨0, _, by omega, rfl, rfl, Own.nil _ _ _ _ _, Below.refl _ _⟩
  case round =>
    obtain ⟨k, vl, hk, rfl, rfl, hvl, hb⟩ := hrel
    obtain ⟨wo, rfl⟩ : ∃ wo, wo = wr := ⟨wr, rfl⟩
    have hbw := hb2'.trans (hb.mono hb2'.size)
    have hb1o := hb2.trans (hb.mono hb2.size)
    by_cases hlt : k < q.length
    case neg =>
      obtain rfl : k = q.length := by omega
      rw [List.take_length] at hvl
      have f : decide ((q.length : Int) < (q.length : Int)) = false := by simp
      obtain ⟨e1, e2⟩ := ends_within (B := 1073741824) (by omega) fun x hx => near (HNr.out x hx)
      have hbl := body_len (m := 21) (ls := q.map Lib.itoa) fun s hs => by
        obtain ⟨n, hn', rfl⟩ := List.mem_map.1 hs
        have := near (HNr.out n hn')
        exact itoa_len n (by omega) (by omega)
      rw [List.length_map] at hbl
      have HWh := Lib.hid (dataWhole_any B kGone _ q _ (q.map Lib.itoa) wo (X.out _ hbw).1 (by decide) ((HOwn.out.below hb1o).at encI_enc) (hvl.at encS_enc) (by omega) (by rw [List.length_map]; omega) (by omega) (by omega))
      clear e1 e2 hbl hvl
      go_wp2_with fail
      refine HWh.out.mono ?_
      rintro e w4 ⟨rfl, hb4⟩
      go_wp2_with fail
      go_ret2
      exact ⟨_, by rw [HMT.out]; rfl, by rw [HMe.out]; rfl, hbw.trans (hb4.mono hbw.size)⟩
    obtain ⟨x, hxk⟩ := get_ex hlt
    have c1 := HXq.out k x hxk 0 _ rfl
    have c1 := (hb1o.cell (World.block_lt_of_cell? w1 _ c1)).trans c1
    have i1 := idx_at (c := cq) 1 Tryz.underlying39 szInt haq k hlt
    have hk1 : (k : Int) < (q.length : Int) := by omega
    simp only [Nat.mul_one, Nat.add_zero] at c1 i1
    have hnx := near (HNr.out x (List.mem_of_getElem? hxk))
    have HIt := Lib.hid (itoa_any B x (by omega) (by omega) wo (X.out _ hbw).1)
    have HSn : Hid ((q.take (k + 1)).map Lib.itoa = (q.take k).map Lib.itoa ++ [Lib.itoa x]) := Lib.hid (by rw [take_snoc' hxk, List.map_append]; rfl)
    obtain ⟨ls, hls⟩ : ∃ ls, (q.take k).map Lib.itoa = ls := ⟨_, rfl⟩
    have hlsl : ls.length ≤ 40 := by rw [← hls, List.length_map, List.length_take]; omega
    rw [hls] at hvl HSn
    clear hxk hnx hls
    generalize Lib.itoa x = tx at *
    go_wp2_with fail
    refine HIt.out.mono ?_
    rintro e w3 ⟨rfl, hb3⟩
    have hb3' := hb.trans (hb3.mono hb.size)
    have hvl3 := hvl.below hb3
    go_wp2_with (at_builtin; refine wpList_app rfl _ _ _ rfl w2.heap.size elStr vl ls.length _ rfl (hvl3.alloc _) (.slice (some ⟨w3.heap.size, 0, none⟩) 1 1) 1 (encS tx) rfl (src_one rfl rfl (by simp [Value.oneCell'])) (by unfold maxLen; omega) (by omega) (by have := hb3'.size; simp; omega) ?_; intro v5 w5 hown5 hg5 _)
    go_roundw
    case rel => exact ⟨k + 1, _, by omega, by go_num, rfl, by rw [HSn.out]; exact Own.snoc hown5, Bapp (hb3'.alloc hb3'.size _) (hvl3.alloc _) hg5 (Nat.le_refl _) (by have := hb3'.size; simp; omega)⟩
    case measure => simp [intOf]; omega
end Go.Proofs.YtlfkjbdkbdcdnaaGreatDoor
namespace Go.Proofs.YtlfkjbdkbdcdnaaGreatDoor
open Go.RowKit

set_option maxHeartbeats 2000000 in
set_option maxRecDepth 20000 in
theorem risingOf_any (v : Value) (l : List Int) (w : World) (hl : IntsAt w v l) (hn : l.length ≤ 10000) :
    Calls Tryz.prog 21 #[v] w fun e w' => ∃ v', e = .returned v' ∧ IntsAt w' v' (risOf l) ∧ Below w.heap.size w w' := by
  obtain ⟨a, c, b, o, rfl, ha, hc, hcm, hx⟩ := hl
  unfold maxLen at hcm
  go_enter Tryz.func21, Tryz.ntmps21
  go_wp2_with fail
  go_loopw [3, 4] (fun u i wr => ∃ (k : Nat) (q : List Int), k ≤ l.length ∧ i = .int .i64 k ∧ Hid (q = risOf (l.take k)) ∧ q.length ≤ k ∧ IntsAt wr u q ∧ Below w.heap.size w wr) (fun _ i _ => l.length - (intOf i).toNat)
  case atStart => exact ⟨0, [], by omega, rfl, Lib.hid rfl, by simp, At.nil _ _ _, Below.refl _ _⟩
  case round =>
    obtain ⟨k, q, hk, rfl, hq, hql, hu, hb⟩ := hrel
    obtain ⟨wo, rfl⟩ : ∃ wo, wo = wr := ⟨wr, rfl⟩
    by_cases hlt : k < l.length
    case neg =>
      obtain rfl : k = l.length := by omega
      have f : decide ((l.length : Int) < (l.length : Int)) = false := by simp
      have HE : Hid (q = risOf l) := Lib.hid (by rw [hq.out, List.take_length])
      clear hql
      go_wp2_with fail
      go_ret
      exact ⟨_, rfl, by rw [← HE.out]; exact hu, hb⟩
    obtain ⟨x, hxk⟩ := get_ex hlt
    have CX := Lib.hid (fun W (h : Below w.heap.size w W) => (h.cell (World.block_lt_of_cell? w _ (hx k x hxk 0 _ rfl))).trans (hx k x hxk 0 _ rfl))
    have i1 := idx_at (c := c) 1 Tryz.underlying39 szInt ha k hlt
    simp only [Nat.mul_one, Nat.add_zero] at CX i1
    have hk1 : (k : Int) < (l.length : Int) := by omega
    have HQ2 : Hid (risOf (l.take (k + 1)) = withI q x) := Lib.hid (by rw [take_snoc' hxk, risOf_snoc, hq.out])
    have HU := Lib.hid hu
    obtain ⟨au, cu, bu, ou, rfl, hau, hcu, hcmu, hxu⟩ := hu
    unfold maxLen at hcmu
    have CQ := Lib.hid (fun p y (hy : q[p]? = some y) W (h : Below wo.heap.size wo W) => (h.cell (World.block_lt_of_cell? wo _ (hxu p y hy 0 _ rfl))).trans (hxu p y hy 0 _ rfl))
    simp only [Nat.mul_one, Nat.add_zero] at CQ
    clear hq hxk hxu
    go_upto_block 2 with fail
    go_cut [5] (fun u wx => ∃ p : Nat, u = .int .i64 p ∧ p ≤ q.length ∧ (∀ j < p, ∀ y, q[j]? = some y → y < x) ∧ (∀ y, q[p]? = some y → x ≤ y) ∧ Below wo.heap.size wo wx)
    case first =>
      go_wp2_with fail
      go_loopw [5] (fun u wx => ∃ p : Nat, u = .int .i64 p ∧ p ≤ q.length ∧ Hid (∀ j < p, ∀ y, q[j]? = some y → y < x) ∧ Below wo.heap.size wo wx) (fun i _ => q.length - (intOf i).toNat)
      case atStart => exact ⟨0, rfl, by omega, Lib.hid fun j hj => absurd hj (by omega), Below.refl _ _⟩
      case round =>
        obtain ⟨p, rfl, hp, hj, hbx⟩ := hrel
        by_cases hpl : p < q.length
        case neg =>
          have f : decide ((p : Int) < (q.length : Int)) = false := by simp; omega
          go_wp2_with fail
          go_quiet (fail)
          go_wp2_with fail
          go_meet
          refine ⟨p, rfl, hp, hj.out, fun y hy => ?_, Bdn hbx _⟩
          rw [List.getElem?_eq_none (by omega)] at hy
          cases hy
        obtain ⟨y, hy⟩ := get_ex hpl
        have q0 := CQ.out p y hy _ hbx
        have c0 := CX.out _ (hb.trans (hbx.mono hb.size))
        have i2 := idx_at (c := cu) 1 Tryz.underlying39 szInt hau p hpl
        simp only [Nat.mul_one] at i2
        have f : (p : Int) < (q.length : Int) := by omega
        have HY := Lib.hid hy
        clear hy
        by_cases hyx : y < x
        case pos =>
          have HYX := Lib.hid hyx
          go_wp2_with fail
          go_quiet (fail)
          go_wp2_with fail
          go_roundw
          case rel => exact ⟨p + 1, by go_num, by omega, (Lib.hid fun j hj' z hz => by
            rcases Nat.lt_or_ge j p with h | h
            · exact hj.out j h z hz
            · obtain rfl : j = p := by omega
              rw [HY.out] at hz
              cases hz
              exact HYX.out), Bdn hbx _⟩
          case measure => simp [intOf]; omega
        · have gyx : decide (y < x) = false := by simpa using hyx
          have HYX := Lib.hid hyx
          clear hyx
          go_wp2_with fail
          go_quiet (fail)
          go_wp2_with fail
          go_meet
          refine ⟨p, rfl, hp, hj.out, fun z hz => ?_, Bdn hbx _⟩
          rw [HY.out] at hz
          cases hz
          have := HYX.out
          omega
    case rest =>
      obtain ⟨p, rfl, hp, hlow, hhi, hbx⟩ := hcut
      have HW := Lib.hid (withI_at hp hlow hhi)
      clear hlow hhi
      have hbW := hb.trans (hbx.mono hb.size)
      by_cases hin : q[p]? = some x
      case pos =>
        have hpl := (List.getElem?_eq_some_iff.1 hin).1
        have q0 := CQ.out p x hin _ hbx
        have c0 := CX.out _ hbW
        have i2 := idx_at (c := cu) 1 Tryz.underlying39 szInt hau p hpl
        simp only [Nat.mul_one] at i2
        have f : (p : Int) < (q.length : Int) := by omega
        have HS : Hid (q = risOf (l.take (k + 1))) := Lib.hid (by rw [HQ2.out, HW.out, if_pos hin])
        clear hin
        go_wp2_with fail
        go_quiet (fail)
        go_wp2_with fail
        go_roundw
        case rel => exact ⟨k + 1, q, by omega, by go_num, HS, by omega, (HU.out.below hbx).below (Bdn (Below.refl _ _) _), Bdn hbW _⟩
        case measure => simp [intOf]; omega
      have HIns : Hid (withI q x = q.take p ++ x :: q.drop p) := Lib.hid (by rw [HW.out, if_neg hin])
      have HIn := Lib.hid hin
      obtain ⟨hs1, hsA⟩ := sl_to (P := Tryz.prog) Tryz.underlying39 szInt HU.out p hp
      obtain ⟨a2, c2, hs2, hsB⟩ := sl_from (P := Tryz.prog) Tryz.underlying39 szInt HU.out p hp
      have hlt1 : (q.take p).length = p := by rw [List.length_take]; omega
      have hld1 : (q.drop p).length = q.length - p := List.length_drop
      have HLT := Lib.hid hlt1; have HLD := Lib.hid hld1
      clear hin HW
      by_cases hpl : p < q.length
      case' pos =>
        obtain ⟨y, hy⟩ := get_ex hpl
        have q0 := CQ.out p y hy _ hbx
        have c0 := CX.out _ hbW
        have i2 := idx_at (c := cu) 1 Tryz.underlying39 szInt hau p hpl
        simp only [Nat.mul_one] at i2
        have f : (p : Int) < (q.length : Int) := by omega
        have gne : (y == x) = false := by
          simp only [beq_eq_false_iff_ne, ne_eq]
          intro e
          exact HIn.out (by rw [hy, e])
        clear hy
        go_wp2_with fail
        go_quiet (fail)
        obtain ⟨wz, hwz⟩ : ∃ wz, wz = wc.drewN nq := ⟨_, rfl⟩
        have hbz : Below wo.heap.size wo wz := by rw [hwz]; exact Bdn hbx _
        rw [← hwz]
        clear hwz q0 c0
      case' neg =>
        have f : decide ((p : Int) < (q.length : Int)) = false := by simp; omega
        obtain ⟨wz, hwz⟩ : ∃ wz, wz = wc := ⟨_, rfl⟩
        have hbz : Below wo.heap.size wo wz := by rw [hwz]; exact hbx
        rw [← hwz]
        clear hwz
      all_goals
        have hbWz := hb.trans (hbz.mono hb.size)
        have hat1 := hsA.below hbz
        have hsrc1 := hat1.src encI_enc (by decide)
        rw [hlt1] at hsrc1
        have HB := Lib.hid (hsB.below hbz)
        clear hsA hsB hat1 hlt1 hld1
        go_wp2_with (first
          | (at_builtin; refine wpList_app rfl _ _ _ rfl wz.heap.size elInt (.slice none 0 0) 0 [] rfl (Own.nil encI _ 1 _ _) _ _ _ rfl hsrc1 (by unfold maxLen; omega) (by omega) (Nat.le_refl _) ?_; intro v1 w2 hown1 hg1 _; have hown1' : Own encI 3 1 wz.heap.size w2 v1 (q.take p) := (by unfold Own; rw [HLT.out]; simpa using hown1); have hb2 : Below wz.heap.size wz w2 := (Below.refl _ _).grown hg1 (Nat.le_refl _) (fun k hk => by cases hk); have c0 := CX.out _ (hbWz.trans (hb2.mono hbWz.size)); clear hown1 hg1 hsrc1)
          | (at_builtin; refine wpList_app rfl _ _ _ rfl wz.heap.size elInt v1 (q.take p).length _ rfl (hown1'.alloc _) (.slice (some ⟨w2.heap.size, 0, none⟩) 1 1) 1 (encI x) rfl (src_one rfl rfl (by simp [Value.oneCell'])) (by rw [HLT.out]; unfold maxLen; omega) (by rw [HLT.out]; omega) (by have := hb2.size; simp; omega) ?_; intro v2 w3 hown2 hg2 _; have hown2' := Own.snoc hown2; have hb3 : Below wz.heap.size wz w3 := (Bapp (hb2.alloc hb2.size _) (hown1'.alloc _) hg2 (Nat.le_refl _) (by have := hb2.size; simp; omega)); have hsrc3 := (HB.out.below hb3).src encI_enc (by decide); rw [HLD.out] at hsrc3; have hl3 : (q.take p ++ [x]).length = p + 1 := (by rw [List.length_append, HLT.out]; rfl); have HL3 := Lib.hid hl3; clear hown2 hg2 c0 hl3)
          | (at_builtin; refine wpList_app rfl _ _ _ rfl wz.heap.size elInt v2 (q.take p ++ [x]).length _ rfl hown2' _ _ _ rfl hsrc3 (by rw [HL3.out]; unfold maxLen; omega) (by rw [HL3.out]; omega) hb3.size ?_; intro v3 w4 hown3 hg3 _))
        have hown3' : Own encI 3 1 wz.heap.size w4 v3 (withI q x) := by
          rw [HIns.out, show q.take p ++ x :: q.drop p = (q.take p ++ [x]) ++ q.drop p by simp]
          unfold Own
          rw [List.length_append, List.flatMap_append, HLD.out]
          exact hown3
        have hb4 := Bapp hb3 hown2' hg3 (Nat.le_refl _) hb3.size
        have hbw4 := hbWz.trans (hb4.mono hbWz.size)
        go_roundw
        case rel => exact ⟨k + 1, withI q x, by omega, by go_num, Lib.hid HQ2.out.symm, by have := withI_len q x; omega, hown3'.at encI_enc, hbw4⟩
        case measure => simp [intOf]; omega
end Go.Proofs.YtlfkjbdkbdcdnaaGreatDoor
namespace Go.Proofs.YtlfkjbdkbdcdnaaGreatDoor
open Go.RowKit

theorem ris_seven : risOf [7, -2, 7] = [-2, 7] := by decide
theorem made_seven : madeE [7, -2, 7] = .nil := by
  unfold madeE
  rw [ris_seven, if_neg (by decide)]
  refine firstErr_all fun j hj => ?_
  have h : ∀ n ∈ [(7 : Int), -2, 7], ¬ farN n := fun n hn => by
    simp only [List.mem_cons, List.mem_nil_iff, or_false] at hn
    unfold farN
    rcases hn with rfl | rfl | rfl <;> omega
  unfold farF
  rw [List.getElem?_eq_getElem hj]
  simp only
  rw [if_neg (h _ (List.getElem_mem hj))]
theorem text_seven : madeT [7, -2, 7] = goneText [-2, 7] := by unfold madeT; rw [if_pos made_seven, ris_seven]
theorem near_seven : ∀ n ∈ [(-2 : Int), 7], ¬ farN n := fun n hn => by
  simp only [List.mem_cons, List.mem_nil_iff, or_false] at hn
  unfold farN
  rcases hn with rfl | rfl <;> omega
theorem up_seven : upI [-2, 7] := by unfold upI; simp
theorem read_seven : goneE (goneText [-2, 7]) = .nil ∧ goneL (goneText [-2, 7]) = [-2, 7] := goneRead_text up_seven near_seven (by decide)
theorem keys_new (w : World) (t : TypeId) (l : List Int) (n : Nat) (hl : l.length = n) (hn : n ≤ 100000) {H : Nat} (hH : w.heap.size = H) : IntsAt (w.alloc (.cells (l.map (Value.int .i64)).toArray t)) (.slice (some ⟨H, 0, none⟩) n n) l := by
  subst hl
  subst hH
  refine ⟨_, l.length, w.heap.size, 0, rfl, fun _ => rfl, Nat.le_refl _, by unfold maxLen; omega, fun k x hk j u hu => ?_⟩
  have hj : j = 0 := by
    have := (List.getElem?_eq_some_iff.1 hu).1
    simpa using this
  subst hj
  have hu' : u = .int .i64 x := by simpa using hu.symm
  rw [cell_of_row (w.alloc _) w.heap.size _ (l.map (Value.int .i64)).toArray t (0, 0) (heap_alloc_new w _)]
  simp [hk, hu']
set_option maxHeartbeats 1000000 in
set_option maxRecDepth 20000 in
theorem goned_any (E : Nat → Addr) (B : Nat) (w : World) (hE : Errs [1, 2, 3, 8, 9, 10] E B w) (hT : LNum B w) (hM : LMax B w) :
    Calls Tryz.prog 17 #[] w fun e w' => e = .returned (.bool true) ∧ Below w.heap.size w w' := by
  have hif := isIfaceE
  have hBw := hE.le
  have X := Lib.hid (fun W (h : Below w.heap.size w W) => (⟨hE.below' h hBw, hT.below' h hBw, hM.below' h hBw⟩ : Errs [1, 2, 3, 8, 9, 10] E B W ∧ LNum B W ∧ LMax B W))
  have hba : Below w.heap.size w (w.alloc (.cells ([(7 : Int), -2, 7].map (Value.int .i64)).toArray 3)) := (Below.refl _ _).alloc (Nat.le_refl _) _
  have hMk := goneMake_any E B _ [7, -2, 7] _ ((X.out _ hba).1.sub (by decide)) (X.out _ hba).2.1 (keys_new w 3 [7, -2, 7] 3 rfl (by decide) rfl) (by decide)
  rw [made_seven, text_seven] at hMk
  have HMk := Lib.hid hMk
  have hlen := goneText_len near_seven (by decide)
  have hRd := fun W (h : Below w.heap.size w W) => goneRead_any E B (goneText [-2, 7]) W (X.out W h).1 (X.out W h).2.1 (X.out W h).2.2 (by omega)
  rw [read_seven.1, read_seven.2] at hRd
  have HRd := Lib.hid hRd
  clear hMk hRd hlen
  generalize goneText [-2, 7] = T at *
  go_enter Tryz.func17, Tryz.ntmps17
  go_wp2_with fail
  refine HMk.out.mono ?_
  rintro e w1 ⟨ev, rfl, hev, hb1⟩
  obtain rfl : ev = .nilIface := hev
  have hb1' := hba.trans (hb1.mono hba.size)
  go_wp2_with fail
  refine (HRd.out _ hb1').mono ?_
  rintro e w2 ⟨u, ev, rfl, hev, hu, hb2⟩
  obtain rfl : ev = .nilIface := hev
  have hb2' := hb1'.trans (hb2.mono hb1'.size)
  have hba2 : Below w2.heap.size w2 (w2.alloc (.cells ([(-2 : Int), 7].map (Value.int .i64)).toArray 3)) := (Below.refl _ _).alloc (Nat.le_refl _) _
  have hsm := sameInts_any u _ [-2, 7] [-2, 7] _ (hu.below hba2) (keys_new w2 3 [-2, 7] 2 rfl (by decide) rfl)
  simp only [decide_true] at hsm
  have HSm := Lib.hid hsm
  have HHs := Lib.hid (fun W (h : Below w2.heap.size w2 W) => goneHas_any u [-2, 7] 7 W (hu.below h) (by decide) up_seven)
  clear hsm
  go_wp2_with fail
  refine HSm.out.mono ?_
  rintro e w3 ⟨rfl, hb3⟩
  have hb23 := hba2.trans (hb3.mono hba2.size)
  go_wp2_with fail
  refine (HHs.out _ hb23).mono ?_
  rintro e w4 ⟨rfl, hb4⟩
  go_wp2_with fail
  go_ret
  exact ⟨rfl, (hb2'.trans (hb23.mono hb2'.size)).trans (hb4.mono (hb2'.trans (hb23.mono hb2'.size)).size)⟩
end Go.Proofs.YtlfkjbdkbdcdnaaGreatDoor
