/- deedboxlaw2.ListBack: the walk. -/
import Derived.Test.YtpicofkmeijioaaGreatDoorListed
import Derived.Test.YtpicofkmeijioaaGreatDoorFlE
import Derived.Test.YtpicofkmeijioaaGreatDoorFlP
import Derived.Test.YtpicofkmeijioaaGreatDoorFlRd
namespace Go.Proofs.YtpicofkmeijioaaGreatDoor
open Go.RowKit

theorem right_same {l : List Fl} (h : RightL l) {x y : Fl} (hx : x ∈ l) (hy : y ∈ l) (he : y.path = x.path) : y = x := by
  obtain ⟨i, hi⟩ := List.getElem?_of_mem hx
  obtain ⟨j, hj⟩ := List.getElem?_of_mem hy
  have h1 := findF_at h.ris hi
  have h2 := findF_at h.ris hj
  rw [he, h1] at h2
  cases h2
  rw [hi] at hj
  exact (Option.some.inj hj).symm
theorem pruneP_one (f : Fl) (key : Int) : pruneP key key f = false ↔ (f.lo ≤ key ∧ key ≤ f.hi) := by
  unfold pruneP; simp; omega
theorem find_mem {l : List Fl} {p : Str} : 0 ≤ findV l p ↔ ∃ f ∈ l, f.path = p := by
  cases hf : findF l p with
  | none =>
    rw [findV_none hf]
    have := findF_none.1 hf
    constructor
    · intro h; omega
    · rintro ⟨f, h1, h2⟩; exact absurd h2 (this f h1)
  | some k =>
    rw [findV_some hf]
    obtain ⟨x, h1, h2⟩ := findF_some hf
    exact ⟨fun _ => ⟨x, List.mem_of_getElem? h1, h2⟩, fun _ => by omega⟩
theorem find_prune {l : List Fl} (h : RightL l) {x : Fl} (hx : x ∈ l) (key : Int) : 0 ≤ findV (pruneL l key key) x.path ↔ (x.lo ≤ key ∧ key ≤ x.hi) := by
  rw [find_mem, ← pruneP_one]
  unfold pruneL
  constructor
  · rintro ⟨y, hy, he⟩
    obtain ⟨h1, h2⟩ := List.mem_filter.1 hy
    obtain rfl := right_same h hx h1 he
    simpa using h2
  · intro hp
    exact ⟨x, List.mem_filter.2 ⟨hx, by simp [hp]⟩, rfl⟩

theorem addL_mem {l : List Fl} {f y : Fl} (h : addE l f = .nil) (hy : y ∈ addL l f) : y = f ∨ y ∈ l := by
  unfold addL at hy
  rw [if_pos h] at hy
  clear h
  induction l with
  | nil => exact .inl (by simpa [placeF] using hy)
  | cons g r ih =>
    unfold placeF at hy
    split at hy
    · rcases List.mem_cons.1 hy with rfl | hy
      · exact .inl rfl
      · exact .inr hy
    · rcases List.mem_cons.1 hy with rfl | hy
      · exact .inr (by simp)
      · rcases ih hy with h | h
        · exact .inl h
        · exact .inr (List.mem_cons_of_mem _ h)
set_option maxHeartbeats 2000000 in
set_option maxRecDepth 20000 in
theorem listBack_any (E : Nat → Addr) (B : Nat) (v : Value) (l : List Fl) (f : Fl) (key : Int) (w : World) (hE : Errs [1, 2, 4, 5, 6, 7, 8, 9] E B w) (hT : LNum B w) (hM : LMax B w) (hl : FilesAt w v l) :
    Calls Tryz.prog 5 #[v, fileV f, .int .i64 key] w fun e w' => e = .returned (.bool true) ∧ Below w.heap.size w w' := by
  have hBw := hE.le
  have hif := isIfaceE
  obtain ⟨a, c, b, o, rfl, ha, hc, hcm, hx⟩ := hl
  have hl : FilesAt w (.slice a l.length c) l := ⟨a, c, b, o, rfl, ha, hc, hcm, hx⟩
  unfold maxLen at hcm
  have hb0 : Below w.heap.size w (w.alloc (.cells #[S f.path, S f.part, .int .i64 f.n, .int .i64 f.lo, .int .i64 f.hi, .int .i64 f.seq] 50)) := (Below.refl _ _).alloc (Nat.le_refl _) _
  have CF := Lib.hid (fun w6 (h : Below (w.alloc (.cells #[S f.path, S f.part, .int .i64 f.n, .int .i64 f.lo, .int .i64 f.hi, .int .i64 f.seq] 50)).heap.size (w.alloc (.cells #[S f.path, S f.part, .int .i64 f.n, .int .i64 f.lo, .int .i64 f.hi, .int .i64 f.seq] 50)) w6) => fileCells (f := f) rfl h)
  go_enter Tryz.func5, Tryz.ntmps5
  go_wp2_with fail
  generalize w.alloc (.cells #[S f.path, S f.part, .int .i64 f.n, .int .i64 f.lo, .int .i64 f.hi, .int .i64 f.seq] 50) = w0 at *
  have X := Lib.hid (fun w6 (h : Below w0.heap.size w0 w6) => (⟨hE.below' (hb0.trans (h.mono hb0.size)) hBw, hT.below' (hb0.trans (h.mono hb0.size)) hBw, hM.below' (hb0.trans (h.mono hb0.size)) hBw, hl.below (hb0.trans (h.mono hb0.size)), hb0.trans (h.mono hb0.size)⟩ : Errs [1, 2, 4, 5, 6, 7, 8, 9] E B w6 ∧ LNum B w6 ∧ LMax B w6 ∧ FilesAt w6 (.slice a l.length c) l ∧ Below w.heap.size w w6))
  obtain ⟨x1, x2, x3, x4, x5⟩ := X.out w0 (Below.refl _ _)
  refine (listed_any E B w0 (x1.sub (by decide)) x2 x3).mono ?_
  rintro e w1 ⟨rfl, hb1⟩
  clear x1 x2 x3 x4 x5
  obtain ⟨x1, x2, x3, x4, x5⟩ := X.out w1 hb1
  have hlong := longFiles_any _ l w1 x4
  have HLong := Lib.hid hlong; clear hlong
  go_wp2_with fail
  refine HLong.out.mono ?_
  rintro e w2 ⟨he, hb2⟩
  have hb2' := hb1.trans (hb2.mono hb1.size)
  clear x1 x2 x3 x4 x5
  obtain ⟨x1, x2, x3, x4, x5⟩ := X.out w2 hb2'
  obtain ⟨c0, c1, c2, c3, c4, c5⟩ := CF.out _ hb2'
  rcases he with rfl | ⟨rfl, hlen, hsh⟩
  · go_wp2_with fail
    go_ret
    exact ⟨rfl, x5⟩
  have hLF := longFile_any f w2
  have HLF := Lib.hid hLF; clear hLF
  go_wp2_with fail
  refine HLF.out.mono ?_
  rintro e w3 ⟨rfl, hb3⟩
  have hb3' := hb2'.trans (hb3.mono hb2'.size)
  clear x1 x2 x3 x4 x5 c0 c1 c2 c3 c4 c5 HLong HLF
  obtain ⟨x1, x2, x3, x4, x5⟩ := X.out w3 hb3'
  by_cases hsf : shortF f
  case neg =>
    rw [if_neg hsf]
    clear hsf
    go_wp2_with fail
    go_ret
    exact ⟨rfl, x5⟩
  rw [if_pos hsf]
  have hmf := hsf.mid
  clear hsf
  have hsm := fun g hg => (hsh g hg).mid
  have HS := Lib.hid hsm; clear hsh hsm
  have HMF := Lib.hid hmf; clear hmf
  go_wp2_with fail
  refine (ownFiles_any _ l _ x4 (by omega)).mono ?_
  rintro e w4 ⟨v4, rfl, hown, hb4⟩
  have hb4' := hb3'.trans (hb4.mono hb3'.size)
  have ho4 := hown.at encF_enc
  clear hown x1 x2 x3 x4 x5
  obtain ⟨x1, x2, x3, x4, x5⟩ := X.out w4 hb4'
  have O := Lib.hid (fun w6 (h : Below w4.heap.size w4 w6) => ho4.below h)
  clear ho4
  go_wp2_with fail
  refine (listText_any E B _ l _ (x1.sub (by decide)) x2 x3 (O.out _ (Below.refl _ _)) HS.out).mono ?_
  rintro e w5 ⟨ev, rfl, hev, hb5⟩
  have hb5' := hb4'.trans (hb5.mono hb4'.size)
  clear x1 x2 x3 x4 x5
  obtain ⟨x1, x2, x3, x4, x5⟩ := X.out w5 hb5'
  by_cases hck : listCheck l = .nil
  case neg =>
    have ht : listTextR l = [] := if_neg hck
    rw [ht]
    obtain ⟨u, x, rfl⟩ := hev.iface hck
    clear hev hck ht
    go_wp2_with fail
    go_ret
    exact ⟨rfl, x5⟩
  rw [hck] at hev
  obtain rfl : ev = .nilIface := hev
  have hr := (right_iff l).1 hck
  have ht : listTextR l = listText l := if_pos hck
  obtain ⟨hr1, hr2⟩ := listRead_text hr
  have htl := listText_len hr.ok
  rw [ht]
  have HR := Lib.hid hr
  have hRd := listRead_any E B (listText l) _ (x1.sub (by decide)) x2 x3 (by omega)
  rw [hr1, hr2] at hRd
  have HRd := Lib.hid hRd
  clear hRd hr1 hr2 htl ht hck hr
  go_wp2_with fail
  refine HRd.out.mono ?_
  rintro e w6 ⟨u6, ev, rfl, hu6, hev, hb6⟩
  obtain rfl : ev = .nilIface := hev
  have hb6' := hb5'.trans (hb6.mono hb5'.size)
  clear x1 x2 x3 x4 x5 HRd
  obtain ⟨x1, x2, x3, x4, x5⟩ := X.out w6 hb6'
  have hS := sameFiles_any _ _ l l _ hu6 x4
  rw [decide_eq_true rfl] at hS
  have HSm := Lib.hid hS; clear hS hu6
  go_wp2_with fail
  refine HSm.out.mono ?_
  rintro e w7 ⟨rfl, hb7⟩
  have hb7' := hb6'.trans (hb7.mono hb6'.size)
  have hb47 : Below w4.heap.size w4 w7 := hb5.trans ((hb6.trans (hb7.mono hb6.size)).mono hb5.size)
  clear x1 x2 x3 x4 x5 HSm
  obtain ⟨x1, x2, x3, x4, x5⟩ := X.out w7 hb7'
  obtain ⟨c0, c1, c2, c3, c4, c5⟩ := CF.out _ hb7'
  have hA := listAdd_any E B _ l f _ (x1.sub (by decide)) x2 x3 (O.out _ hb47) HS.out HMF.out (by omega)
  have HA := Lib.hid hA; clear hA
  go_wp2_with fail
  refine HA.out.mono ?_
  rintro e w8 ⟨u8, ev, rfl, hu8, hev, hb8⟩
  have hb8' := hb7'.trans (hb8.mono hb7'.size)
  have hb48 := hb47.trans (hb8.mono hb47.size)
  clear x1 x2 x3 x4 x5 c0 c1 c2 c3 c4 c5 HA
  obtain ⟨x1, x2, x3, x4, x5⟩ := X.out w8 hb8'
  obtain ⟨c0, c1, c2, c3, c4, c5⟩ := CF.out _ hb8'
  by_cases hadd : addE l f = .nil
  case' neg =>
    obtain ⟨u, x, rfl⟩ := hev.iface hadd
    clear hev hadd hu8 x1 x2 x3 x4 x5 c0 c1 c2 c3 c4 c5 hb8
    generalize w8 = w9 at *
  case' pos =>
    rw [hadd] at hev
    obtain rfl : ev = .nilIface := hev
    obtain ⟨r1, r2, r3, r4, r5⟩ := add_remove hadd
    have r6 := (right_iff _).2 r1
    obtain ⟨q, hq⟩ : ∃ q, addL l f = q := ⟨_, rfl⟩
    rw [hq] at hu8 r1 r2 r3 r4 r5 r6
    have hqm : ∀ y ∈ q, midF y := fun y hy => by
      rw [← hq] at hy
      rcases addL_mem hadd hy with rfl | h
      · exact HMF.out
      · exact HS.out y h
    have HQM := Lib.hid hqm
    clear hq hadd hqm r1
    have hC := listCheck_any E B _ q _ (x1.sub (by decide)) x2 x3 hu8 HQM.out
    rw [r6] at hC
    have HC := Lib.hid hC
    have HU := Lib.hid hu8
    obtain ⟨a8, c8, rfl, -, -⟩ := hu8.form'
    have r2' : (q.length : Int) = (l.length : Int) + 1 := by omega
    have R3 := Lib.hid r3; have R4 := Lib.hid r4; have R5 := Lib.hid r5
    clear hC r2 r6 r3 r4 r5
    have g2 : ((q.length : Int) != (l.length : Int) + 1) = false := by simp [r2']
    go_wp2_with fail
    refine HC.out.mono ?_
    rintro e w9 ⟨ev, rfl, hev, hb9⟩
    obtain rfl : ev = .nilIface := hev
    have hb9' := hb8'.trans (hb9.mono hb8'.size)
    have hb49 := hb48.trans (hb9.mono hb48.size)
    clear x1 x2 x3 x4 x5 c0 c1 c2 c3 c4 c5 HC
    obtain ⟨x1, x2, x3, x4, x5⟩ := X.out w9 hb9'
    obtain ⟨c0, c1, c2, c3, c4, c5⟩ := CF.out _ hb9'
    have hF := listFind_any _ q f.path w9 (HU.out.below hb9)
    have hfn : 0 ≤ findV q f.path := find_mem.2 ⟨f, R3.out, rfl⟩
    have HF := Lib.hid hF; clear hF
    generalize findV q f.path = fv at *
    have g3 : decide (fv < 0) = false := by simp; omega
    go_wp2_with fail
    refine HF.out.mono ?_
    rintro e w10 ⟨rfl, hb10⟩
    have hb10' := hb9'.trans (hb10.mono hb9'.size)
    have hb410 := hb49.trans (hb10.mono hb49.size)
    clear x1 x2 x3 x4 x5 c0 c1 c2 c3 c4 c5 HF
    obtain ⟨x1, x2, x3, x4, x5⟩ := X.out w10 hb10'
    obtain ⟨c0, c1, c2, c3, c4, c5⟩ := CF.out _ hb10'
    have hRm := listRemove_any E B _ q f.path _ (x1.sub (by decide)) x2 x3 (HU.out.below (hb9.trans (hb10.mono hb9.size))) HQM.out
    rw [R4.out, R5.out] at hRm
    have HRm := Lib.hid hRm; clear hRm
    go_wp2_with fail
    refine HRm.out.mono ?_
    rintro e w11 ⟨u11, ev, rfl, hu11, hev, hb11⟩
    obtain rfl : ev = .nilIface := hev
    have hb11' := hb10'.trans (hb11.mono hb10'.size)
    have hb411 := hb410.trans (hb11.mono hb410.size)
    clear x1 x2 x3 x4 x5 c0 c1 c2 c3 c4 c5 HRm
    obtain ⟨x1, x2, x3, x4, x5⟩ := X.out w11 hb11'
    have hS := sameFiles_any _ _ l l _ hu11 x4
    rw [decide_eq_true rfl] at hS
    have HSm := Lib.hid hS; clear hS hu11
    go_wp2_with fail
    refine HSm.out.mono ?_
    rintro e w12 ⟨rfl, hb12⟩
    have hb12' := hb11'.trans (hb12.mono hb11'.size)
    have hb412 := hb411.trans (hb12.mono hb411.size)
    clear x1 x2 x3 x4 x5 HSm hb8' hb48 hb9' hb49 hb10' hb410 hb11' hb411 hb8 hb9 hb10 hb11 hb12 HU r2' g2 g3 R3 R4 R5 HQM hfn
    have hb8' := hb12'
    have hb48 := hb412
    clear hb12' hb412
    generalize w12 = w9 at *
  all_goals
    obtain ⟨x1, x2, x3, x4, x5⟩ := X.out w9 hb8'
    have hP := listPrune_any _ l key key w9 (O.out _ hb48) (by omega)
    have HP := Lib.hid hP; clear hP
    go_wp2_with fail
    refine HP.out.mono ?_
    rintro e w13 ⟨vp, rfl, hvp, hb13⟩
    have hb13' := x5.trans (hb13.mono x5.size)
    have HV := Lib.hid hvp
    clear x1 x2 x3 x4 x5 hvp HP
    have hfp := fun x hx => find_prune HR.out (x := x) hx key
    have HFP := Lib.hid hfp; clear hfp
    have hPr := fun p W (h : Below w13.heap.size w13 W) => listFind_any vp (pruneL l key key) p W (HV.out.below h)
    have HPr := Lib.hid hPr; clear hPr
    generalize pruneL l key key = pl at *
    go_wp2_with fail
    go_loopw [15] (fun i wr => ∃ k : Nat, k ≤ l.length ∧ i = .int .i64 k ∧ Below w13.heap.size w13 wr) (fun i _ => l.length - (intOf i).toNat)
    case atStart => exact ⟨0, by omega, rfl, Below.refl _ _⟩
    case round =>
      obtain ⟨k, hk, rfl, hb⟩ := hrel
      have hbw := hb13'.trans (hb.mono hb13'.size)
      by_cases hlt : k < l.length
      case neg =>
        have f : decide ((k : Int) < (l.length : Int)) = false := by simp; omega
        go_wp2_with fail
        go_ret
        exact ⟨rfl, hbw⟩
      obtain ⟨x, hxk⟩ := get_ex hlt
      have CX := Lib.hid (fun w' (h : Below w.heap.size w w') => flCells hx h hxk)
      have i1 := idx_at (c := c) 6 Tryz.underlying28 szFl ha k hlt
      obtain ⟨c0, c1, c2, c3, c4, c5⟩ := CX.out _ hbw
      have hk1 : (k : Int) < (l.length : Int) := by omega
      have hiff := HFP.out x (List.mem_of_getElem? hxk)
      clear hxk
      have hFn := HPr.out x.path wr hb
      obtain ⟨fv, hfv⟩ : ∃ fv, findV pl x.path = fv := ⟨_, rfl⟩
      rw [hfv] at hFn hiff
      have HFn := Lib.hid hFn
      clear hFn hfv
      have hways : (x.lo ≤ key ∧ key ≤ x.hi ∧ 0 ≤ fv) ∨ (x.lo ≤ key ∧ decide (key ≤ x.hi) = false ∧ decide (0 ≤ fv) = false) ∨ (decide (x.lo ≤ key) = false ∧ decide (0 ≤ fv) = false) := by
        by_cases h1 : x.lo ≤ key
        · by_cases h2 : key ≤ x.hi
          · exact .inl ⟨h1, h2, hiff.2 ⟨h1, h2⟩⟩
          · exact .inr (.inl ⟨h1, by simpa using h2, by simpa using fun h => h2 (hiff.1 h).2⟩)
        · exact .inr (.inr ⟨by simpa using h1, by simpa using fun h => h1 (hiff.1 h).1⟩)
      clear hiff
      rcases hways with ⟨g1, g2, g3⟩ | ⟨g1, g2, g3⟩ | ⟨g1, g3⟩
      all_goals
        go_wp2_with fail
        refine HFn.out.mono ?_
        rintro e w14 ⟨rfl, hb14⟩
        have hb14' := hb.trans (hb14.mono hb.size)
        have hbw4 := hb13'.trans (hb14'.mono hb13'.size)
        clear c0 c1 c2 c3 c4 c5
        obtain ⟨c0, c1, c2, c3, c4, c5⟩ := CX.out _ hbw4
        go_wp2_with fail
        refine ⟨⟨k + 1, by omega, by go_num, hb14'⟩, ?_⟩
        simp [intOf]; omega
end Go.Proofs.YtpicofkmeijioaaGreatDoor
