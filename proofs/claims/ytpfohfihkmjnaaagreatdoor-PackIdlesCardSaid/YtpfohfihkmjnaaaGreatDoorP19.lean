/- deedboxlaw3.table: the walk. A closed fact of a table: plain. Of no program. Lists of named things, rising by name; rows split in groups: in plain words. A scan's reader in memory: rows, and keys that are gone, by paths. A change in memory; what turns only some blocks. -/
import Derived.Test.YtpfohfihkmjnaaaGreatDoorP14
import Derived.Test.YtpfohfihkmjnaaaGreatDoorP15
import Derived.Test.YtpfohfihkmjnaaaGreatDoorP16
import Derived.Test.YtpfohfihkmjnaaaGreatDoorP18
import Derived.Test.YtpfohfihkmjnaaaGreatDoorP11
import Derived.Test.YtpfohfihkmjnaaaGreatDoorP4
import Derived.OwnWalk
import Derived.Test.YtpfohfihkmjnaaaGreatDoorP13
import Derived.Test.YtpfohfihkmjnaaaGreatDoorP1
import Derived.Test.YtpfohfihkmjnaaaGreatDoorP6
import Derived.Test.YtpfohfihkmjnaaaGreatDoorP2
import Derived.Maps.OwnOps
namespace Go.Proofs.YtpfohfihkmjnaaaGreatDoor
open Go.RowKit Go.Maps

theorem textPc_gone {p : Pc} (h : p.part = [45]) : textPc p = madeT p.keys := if_pos h
theorem textPc_data {p : Pc} (h : p.part ≠ [45]) : textPc p = makeT p.rows := if_neg h
set_option maxHeartbeats 4000000 in
set_option maxRecDepth 20000 in
theorem tableL_any (E : Nat → Addr) (B : Nat) (v : Value) (l : List Pc) (w : World) (hE : Errs [2, 5, 7, 8, 12] E B w) (hl : PiecesAt w v l) (hh : HeldPc w l) (hs : shortPcs l) :
    Calls Tryz.prog 9 #[v] w fun e w' => ∃ sb mb xb vm u, e = .returned (.tuple #[stP sb, stP xb, u]) ∧ Twin w sb mb xb vm (tableTb l).1 w' ∧ FilesAt w' u (tableTb l).2 := by
  have hBw := hE.le
  have hT0 := TbOk.of (l := l) (fun p hp => (hs.2 p hp).2.2.1) (by have := hs.1; omega)
  have HTk := Lib.hid (fun k => TbOk.of (l := l.take k) (fun p hp => (hs.2 p (List.mem_of_mem_take hp)).2.2.1) (by rw [List.length_take]; have := hs.1; omega))
  have HE := Lib.hid hE
  have HSh := Lib.hid hs
  have HHe := Lib.hid hh
  obtain ⟨a, c, b, o, rfl, ha, hc, hcm, hx⟩ := hl
  unfold maxLen at hcm
  have HX := Lib.hid hx
  clear hE hs hx hT0 hh
  go_enter Tryz.func9, Tryz.ntmps9
  go_wp2_with fail
  refine (new_any w).mono ?_
  rintro e w1 ⟨sb, mb, rfl, hst, hsb, hmb, hb1⟩
  go_wp2_with fail
  refine (newMod_any w1).mono ?_
  rintro e w2 ⟨xb, rfl, hxb, hmd, hb2⟩
  have htw : Twin w sb mb xb (.slice none 0 0) St.new w2 := ⟨hst.below hb2, ⟨hmd.blk, Own.nil _ _ _ _ _, hmd.ok⟩, hb1.trans (hb2.mono hb1.size), hsb, hmb, Nat.le_trans hb1.size hxb, by have := hst.lt; omega, by have := hst.ltm; omega⟩
  have HTw := Lib.hid htw
  clear hst hsb hmb hxb hmd hb1 hb2 htw
  go_wp2_with fail
  go_loopw [7, 8] (fun u i wr => ∃ (k : Nat) (vm : Value), k ≤ l.length ∧ i = .int .i64 k ∧ Hid (Twin w sb mb xb vm (tableTb (l.take k)).1 wr) ∧ Hid (FilesAt wr u (tableTb (l.take k)).2)) (fun _ i _ => l.length - (intOf i).toNat)
  case atStart => exact ⟨0, _, by omega, rfl, Lib.hid (by rw [List.take_zero]; exact HTw.out), Lib.hid (by rw [List.take_zero]; exact At.nil _ _ _)⟩
  case round =>
    obtain ⟨k, vm, hk, rfl, htw, hfl⟩ := hrel
    rename_i uf _
    obtain ⟨wo, rfl⟩ : ∃ wo, wo = wr := ⟨wr, rfl⟩
    by_cases hlt : k < l.length
    case neg =>
      obtain rfl : k = l.length := by omega
      have f1 : decide ((l.length : Int) < (l.length : Int)) = false := by simp
      have h1 := htw.out
      have h2 := hfl.out
      rw [List.take_length] at h1 h2
      have H1 := Lib.hid h1
      have H2 := Lib.hid h2
      clear h1 h2
      go_wp2_with fail
      go_ret3
      exact ⟨_, _, _, _, _, rfl, H1.out, H2.out⟩
    have f1 : (k : Int) < (l.length : Int) := by omega
    obtain ⟨x, hxk⟩ := get_ex hlt
    obtain ⟨c0, c1, c2, c3, c4, c5⟩ := pcCells HX.out htw.out.bel hxk
    have i1 := idx_at (c := c) 6 Tryz.underlying22 szPc ha k hlt
    obtain ⟨hrw, hks⟩ := HHe.out x (List.mem_of_getElem? hxk)
    have hsx := HSh.out.2 x (List.mem_of_getElem? hxk)
    have hsn := tableTb_snoc (l.take k) x
    rw [← take_snoc' hxk] at hsn
    have HSn := Lib.hid hsn
    have HTb := Lib.hid (HTk.out k)
    obtain ⟨ar, cr, hvr, -, -⟩ := At.form' hrw
    obtain ⟨ak, ck, hvk, -, -⟩ := At.form' hks
    rw [hvr] at c3 hrw
    rw [hvk] at c4 hks
    have hA : Below wo.heap.size wo (wo.alloc (.cells #[S x.path, S x.part, S x.spoil, .slice ar x.rows.length cr, .slice ak x.keys.length ck, .int .i64 x.seq] 71)) := (Below.refl _ _).alloc (Nat.le_refl _) _
    have hgA := heap_alloc_new wo (.cells #[S x.path, S x.part, S x.spoil, .slice ar x.rows.length cr, .slice ak x.keys.length ck, .int .i64 x.seq] 71)
    have HTA := Lib.hid (htw.out.below hA)
    have HFA := Lib.hid (hfl.out.below hA)
    have HRA := Lib.hid (hrw.below (htw.out.bel.trans (hA.mono htw.out.bel.size)))
    have HKA := Lib.hid (hks.below (htw.out.bel.trans (hA.mono htw.out.bel.size)))
    have HL : Hid (sb < wo.heap.size ∧ mb < wo.heap.size ∧ xb < wo.heap.size) := Lib.hid ⟨htw.out.sto.lt, htw.out.sto.ltm, htw.out.mdl.lt⟩
    have HSx := Lib.hid hsx
    clear hxk hrw hks hsx hsn htw hfl hvr hvk
    go_upto_region 8 with fail
    clear c0 c1 c2 c3 c4 c5 i1
    generalize wo.alloc (.cells #[S x.path, S x.part, S x.spoil, .slice ar x.rows.length cr, .slice ak x.keys.length ck, .int .i64 x.seq] 71) = wA at *
    obtain ⟨P, hP⟩ : ∃ P, wo.heap.size = P := ⟨_, rfl⟩
    rw [hP] at hgA HL ⊢
    clear hP hA
    have HC := Lib.hid (fun W (h : Below wA.heap.size wA W) => by
      have hg := (h.block P (Array.getElem?_eq_some_iff.1 hgA).1).trans hgA
      have c0 : W.cell? ⟨P, 0, none⟩ = some (S x.path) := by rw [cell_of_row W _ _ _ _ (0, 0) hg]; rfl
      have c1 : W.cell? ⟨P, 1, none⟩ = some (S x.part) := by rw [cell_of_row W _ _ _ _ (0, 0) hg]; rfl
      have c2 : W.cell? ⟨P, 2, none⟩ = some (S x.spoil) := by rw [cell_of_row W _ _ _ _ (0, 0) hg]; rfl
      have c3 : W.cell? ⟨P, 3, none⟩ = some (.slice ar x.rows.length cr) := by rw [cell_of_row W _ _ _ _ (0, 0) hg]; rfl
      have c4 : W.cell? ⟨P, 4, none⟩ = some (.slice ak x.keys.length ck) := by rw [cell_of_row W _ _ _ _ (0, 0) hg]; rfl
      have c5 : W.cell? ⟨P, 5, none⟩ = some (.int .i64 x.seq) := by rw [cell_of_row W _ _ _ _ (0, 0) hg]; rfl
      exact (⟨c0, c1, c2, c3, c4, c5⟩ : _ ∧ _ ∧ _ ∧ _ ∧ _ ∧ _))
    have HPA := Lib.hid (Array.getElem?_eq_some_iff.1 hgA).1
    clear hgA
    have HD := Lib.hid (dataOf_any _ x.rows wA HRA.out (by have := HSx.out.2.2.2.1.1; omega) (fun r hr => by have := HSx.out.2.2.2.1.2 r hr; omega))
    obtain ⟨q0, q1, q2, q3, q4, q5⟩ := HC.out wA (Below.refl _ _)
    have hfo : ∃ fc fp : Int, faultOf (makeE x.rows) = .agg #[.int .i64 fc, .int .i64 fp] := ⟨_, _, rfl⟩
    obtain ⟨fc, fp, hfo⟩ := hfo
    rw [hfo] at HD
    clear hfo
    go_wp2_with fail
    refine HD.out.mono ?_
    rintro e w3 ⟨rfl, hb3⟩
    have hb4 := hb3.alloc hb3.size (.cells #[.int .i64 fc, .int .i64 fp] 58)
    clear q0 q1 q2 q3 q4 q5
    go_upto_region 9 with fail
    generalize w3.alloc (.cells #[.int .i64 fc, .int .i64 fp] 58) = w4 at *
    have HL4 := Lib.hid hb4
    clear hb3 HD
    rcases Decidable.em (x.part = [45]) with hpt | hpt
    case' inl =>
      have g : (x.part == [45]) = true := by rw [hpt]; rfl
      have HTx := Lib.hid (textPc_gone hpt)
      have HGo := Lib.hid (goneOf_any (.slice ak x.keys.length ck) x.keys w4 (HKA.out.below HL4.out) (by have := HSx.out.2.2.2.2; omega))
      obtain ⟨gc, gp, hfo⟩ : ∃ fc fp : Int, faultOf (madeE x.keys) = .agg #[.int .i64 fc, .int .i64 fp] := ⟨_, _, rfl⟩
      rw [hfo] at HGo
      obtain ⟨q0, q1, q2, q3, q4, q5⟩ := HC.out w4 HL4.out
      clear hpt hfo
      go_wp2_with fail
      refine HGo.out.mono ?_
      rintro e w5 ⟨rfl, hb5⟩
      have HL5 := Lib.hid (HL4.out.trans (hb5.mono HL4.out.size))
      clear q0 q1 q2 q3 q4 q5 g HGo hb5 hb4
      go_upto_region 11 with fail
    case' inr =>
      have g : (x.part == [45]) = false := by rw [beq_eq_false_iff_ne]; exact hpt
      have HTx := Lib.hid (textPc_data hpt)
      obtain ⟨q0, q1, q2, q3, q4, q5⟩ := HC.out w4 HL4.out
      clear hpt
      go_upto_region 11 with fail
      clear q0 q1 q2 q3 q4 q5 g hb4
      have HL5 := HL4
      obtain ⟨w5, rfl⟩ : ∃ w5, w5 = w4 := ⟨w4, rfl⟩
    all_goals
      rw [← HTx.out]
      clear HTx
      have htl := textPc_len x
      obtain ⟨T, hT⟩ : ∃ T, textPc x = T := ⟨_, rfl⟩
      rw [hT] at htl ⊢
      have HT := Lib.hid hT
      have HTl := Lib.hid htl
      have hOf := refOfText_any x.path x.part T x.seq w5 (by have := HSx.out.1; omega) (by have := HSx.out.2.1; omega) (.inl (by omega)) (by omega)
      unfold RofPost at hOf
      obtain ⟨f, cc, hfc⟩ : ∃ f cc, ofText x.path x.part T x.seq = (f, cc) := ⟨(ofText x.path x.part T x.seq).1, (ofText x.path x.part T x.seq).2, rfl⟩
      rw [hfc] at hOf
      have HOf := Lib.hid hOf
      have HFc := Lib.hid hfc
      obtain ⟨q0, q1, q2, q3, q4, q5⟩ := HC.out w5 HL5.out
      clear hT htl hfc hOf
      go_wp2_with fail
      refine HOf.out.mono ?_
      rintro e w6 ⟨rfl, hb6⟩
      clear q0 q1 q2 q3 q4 q5
      unfold fileV
      have hb7 := hb6.alloc hb6.size (.cells #[S f.path, S f.part, .int .i64 f.n, .int .i64 f.lo, .int .i64 f.hi, .int .i64 f.seq] 43)
      have hg7 := heap_alloc_new w6 (.cells #[S f.path, S f.part, .int .i64 f.n, .int .i64 f.lo, .int .i64 f.hi, .int .i64 f.seq] 43)
      go_upto_region 12 with fail
      generalize w6.alloc (.cells #[S f.path, S f.part, .int .i64 f.n, .int .i64 f.lo, .int .i64 f.hi, .int .i64 f.seq] 43) = w7 at *
      obtain ⟨F, hF⟩ : ∃ F, w6.heap.size = F := ⟨_, rfl⟩
      rw [hF] at hg7 ⊢
      have HL7 := Lib.hid (HL5.out.trans (hb7.mono HL5.out.size))
      have HTA7 := Lib.hid (HTA.out.below HL7.out)
      have HFA7 := Lib.hid (HFA.out.below HL7.out)
      have hfi := findOf_any _ _ x.path w7 HFA7.out
      obtain ⟨ix, hix⟩ : ∃ ix, findV (tableTb (l.take k)).2 x.path = ix := ⟨_, rfl⟩
      rw [hix] at hfi
      have HFi := Lib.hid hfi
      have hgo : goesPc (tableTb (l.take k)).2 x = (decide (cc = 0) && decide (ix < 0)) := by unfold goesPc; rw [HT.out, HFc.out, hix]
      have HStay : Hid (¬ (cc = 0 ∧ ix < 0) → tableTb (l.take (k + 1)) = tableTb (l.take k)) := Lib.hid fun h => by
        rw [HSn.out]; unfold stepTb; rw [if_neg (by rw [hgo]; simpa using h)]
      have HGo : Hid (cc = 0 ∧ ix < 0 → tableTb (l.take (k + 1)) = (putS (tableTb (l.take k)).1 x.path (putPc x), placeF f (tableTb (l.take k)).2)) := Lib.hid fun h => by
        rw [HSn.out]; unfold stepTb; rw [if_pos (by rw [hgo]; simpa using h), HT.out, HFc.out]
      have HG7 := Lib.hid hg7
      obtain ⟨q0, q1, q2, q3, q4, q5⟩ := HC.out w7 HL7.out
      clear hgo hix hfi hg7 hb6 hb7 hF
      by_cases hcc : cc = 0
      case neg =>
        have g1 : (0 : Int) < (cc : Int) := by omega
        have g2 : 0 < cc := by omega
        have HS := Lib.hid (HStay.out (fun h => hcc h.1))
        clear hcc
        go_wp2_with fail
        go_roundw
        case rel => exact ⟨k + 1, vm, by omega, by go_num, Lib.hid (by rw [HS.out]; exact HTA7.out), Lib.hid (by rw [HS.out]; exact HFA7.out)⟩
        case measure => simp [intOf]; omega
      have g1 : decide ((0 : Int) < (cc : Int)) = false := by simp [hcc]
      have g2 : decide (0 < cc) = false := by simp [hcc]
      by_cases hi : ix < 0
      case neg =>
        have g3 : (0 : Int) ≤ ix := by omega
        have HS := Lib.hid (HStay.out (fun h => hi h.2))
        clear hcc hi
        go_wp2_with fail
        refine HFi.out.mono ?_
        rintro e w8 ⟨rfl, rfl⟩
        go_wp2_with fail
        go_roundw
        case rel => exact ⟨k + 1, vm, by omega, by go_num, Lib.hid (by rw [HS.out]; exact HTA7.out), Lib.hid (by rw [HS.out]; exact HFA7.out)⟩
        case measure => simp [intOf]; omega
      have g3 : decide ((0 : Int) ≤ ix) = false := by simp; omega
      have HS := Lib.hid (HGo.out ⟨hcc, hi⟩)
      clear hcc hi
      go_wp2_with fail
      refine HFi.out.mono ?_
      rintro e w8 ⟨rfl, rfl⟩
      clear q0 q1 q3 q4 q5
      go_upto_region 13 with fail
      have HMid := Lib.hid ((HTk.out (k + 1)).mid f (by rw [HS.out]; exact mem_placeF.2 (.inl rfl)))
      by_cases hsp : x.spoil = []
      case' pos =>
        have g : x.spoil.isEmpty = true := by rw [hsp]; rfl
        have gb : (x.spoil != []) = false := by rw [hsp]; rfl
        have HPc : Hid (putPc x = T) := Lib.hid (by unfold putPc; rw [if_pos hsp, HT.out])
        clear hsp
        go_upto_region 15 with fail
      case' neg =>
        have g : x.spoil.isEmpty = false := by cases hx : x.spoil with
          | nil => exact absurd hx hsp
          | cons _ _ => rfl
        have gb : (x.spoil != []) = true := by simpa using hsp
        have HPc : Hid (putPc x = x.spoil) := Lib.hid (by unfold putPc; rw [if_neg hsp])
        clear hsp
        go_upto_region 15 with fail
      all_goals
        clear q2 g gb
        have hpl := putPc_len (p := x) HSx.out.2.2.1
        rw [← HPc.out]
        clear HPc
        obtain ⟨U, hU⟩ : ∃ U, putPc x = U := ⟨_, rfl⟩
        rw [hU] at hpl HS ⊢
        have HUl := Lib.hid hpl
        obtain ⟨e0, e1, e2, e3, e4, e5⟩ := rowF6 HG7.out
        have HPl := Lib.hid (placed_any _ _ f w7 HFA7.out (by have h1 := (HTk.out k).len; have h2 := HSh.out.1; rw [List.length_take] at h1; omega) (HTk.out k).mid HMid.out)
        clear hU hpl
        go_wp2_with fail
        refine HPl.out.mono ?_
        rintro e w8 ⟨u8, rfl, hf8, hb8⟩
        have HT8 := Lib.hid (HTA7.out.below hb8)
        have HL8 := Lib.hid (HL7.out.trans (hb8.mono HL7.out.size))
        have HF8 := Lib.hid hf8
        have HPu := Lib.hid (put_any E B sb mb (tableTb (l.take k)).1 x.path U w8 (HE.out.below' HT8.out.bel hBw) HT8.out.sto (by have := HSx.out.1; omega) (by have := HUl.out; omega) (Nat.le_trans hBw HT8.out.h1) (Nat.le_trans hBw HT8.out.h2))
        obtain ⟨q0, -, -, -, -, -⟩ := HC.out w8 HL8.out
        clear e0 e1 e2 e3 e4 e5 hf8 hb8
        go_wp2_with fail
        refine HPu.out.mono ?_
        rintro e w9 ⟨ev, rfl, -, hst9, hb9⟩
        have HM9 := Lib.hid (HT8.out.half hb9)
        have HS9 := Lib.hid hst9
        have HB9 := Lib.hid hb9
        have q0' : w9.cell? ⟨P, 0, none⟩ = some (S x.path) := by
          rw [← q0]
          unfold World.cell?
          have := hb9.block P (Nat.lt_of_lt_of_le HPA.out HL8.out.size) (by have := HL.out; omega) (by have := HL.out; omega)
          simp only [this]
        have HPm := Lib.hid (putM_any w.heap.size xb vm (tableTb (l.take k)).1 x.path U w9 HM9.out (by have := HSx.out.1; omega) (by have := HUl.out; omega) (Nat.le_trans HT8.out.bel.size hb9.size))
        clear q0 hst9 hb9
        go_wp2_with fail
        refine HPm.out.mono ?_
        rintro e w10 ⟨vm', rfl, hm10, hb10⟩
        have HT10 := Lib.hid (HT8.out.turn HS9.out HB9.out hm10 hb10)
        have HF10 := Lib.hid (at_turn (at_turn HF8.out (fun _ => rfl) (by decide) HB9.out HT8.out.sto.thin.1 HT8.out.sto.thin.2) (fun _ => rfl) (by decide) hb10 HM9.out.thin HM9.out.thin)
        clear q0' hm10 hb10
        go_wp2_with fail
        go_roundw
        case rel => exact ⟨k + 1, vm', by omega, by go_num, Lib.hid (by rw [HS.out]; exact HT10.out), Lib.hid (by rw [HS.out]; exact HF10.out)⟩
        case measure => simp [intOf]; omega
end Go.Proofs.YtpfohfihkmjnaaaGreatDoor
namespace Go.Proofs.YtpfohfihkmjnaaaGreatDoor
open Go.RowKit

abbrev rsQ : List Rw := [⟨[97], 1, 5⟩, ⟨[97], 2, 6⟩]
abbrev pQ1 : Str := [100, 97, 116, 97, 47, 49]
abbrev pQ2 : Str := [103, 111, 110, 101, 47, 50]
abbrev fD1 : Fl := ⟨pQ1, [97], 2, 1, 2, 1⟩
abbrev fG2 : Fl := ⟨pQ2, [45], 1, 2, 2, 2⟩
theorem all_rsQ : ∀ r ∈ rsQ, rowCheck r = 0 := fun r hr => by
  simp only [List.mem_cons, List.mem_nil_iff, or_false] at hr
  rcases hr with rfl | rfl <;> decide
theorem sort_rsQ : sortR rsQ = rsQ := by decide
theorem made_rsQ : makeE rsQ = .nil := by
  refine makeE_fine (by decide) fun j hj => ?_
  unfold rowF
  rw [List.getElem?_eq_getElem hj]
  exact all_rsQ _ (List.getElem_mem hj)
theorem text_rsQ : makeT rsQ = dataText rsQ := by rw [make_text made_rsQ, sort_rsQ]
theorem up_rsQ : upR rsQ := by have := sort_up rsQ; rwa [sort_rsQ] at this
theorem read_rsQ : dataE (dataText rsQ) = .nil ∧ dataL (dataText rsQ) = rsQ := dataRead_text up_rsQ all_rsQ (by decide)
theorem near_two : ∀ n ∈ [(2 : Int)], ¬ farN n := fun n hn => by
  rw [List.mem_singleton.1 hn]; unfold farN; omega
theorem made_two1 : madeE [2] = .nil := by
  unfold madeE
  rw [show risOf [2] = [2] by decide, if_neg (by decide)]
  refine firstErr_all fun j hj => ?_
  unfold farF
  rw [List.getElem?_eq_getElem hj]
  simp only
  rw [if_neg (near_two _ (List.getElem_mem hj))]
theorem text_two1 : madeT [2] = goneText [2] := by unfold madeT; rw [if_pos made_two1, show risOf [2] = [2] by decide]
theorem read_two1 : goneE (goneText [2]) = .nil ∧ goneL (goneText [2]) = [2] := goneRead_text (by unfold upI; simp) near_two (by decide)
theorem itoa_1 : Lib.itoa 1 = [49] := (Lib.itoa_nonneg 1).trans (Lib.decDigits_one (by decide))
theorem path_d1 : pathF pQ1 = some (kData, 1) := by
  have hc : Lib.cut pQ1 [47] = (kData, [49], true) := cut_app1 (p := kData) (q := [49]) (by decide)
  have hn : numOf [49] = some 1 := (numOf_iff _ 1).2 ⟨by decide, itoa_1⟩
  unfold pathF
  rw [hc, if_pos ⟨rfl, .inl rfl⟩]
  show (numOf [49]).bind _ = _
  rw [hn]
  rfl
theorem path_g2 : pathF pQ2 = some (kGone, 2) := by
  have hc : Lib.cut pQ2 [47] = (kGone, [50], true) := cut_app1 (p := kGone) (q := [50]) (by decide)
  have hn : numOf [50] = some 2 := (numOf_iff _ 2).2 ⟨by decide, itoa_2⟩
  unfold pathF
  rw [hc, if_pos ⟨rfl, .inr rfl⟩]
  show (numOf [50]).bind _ = _
  rw [hn]
  rfl
theorem kind_d1 : kindF pQ1 = kData := by unfold kindF; rw [path_d1]; rfl
theorem kind_g2 : kindF pQ2 = kGone := by unfold kindF; rw [path_g2]; rfl
theorem check_d1 : checkF fD1 = 0 := checkF_right (f := fD1) path_d1 (by rw [kind_d1]; decide) (by unfold boundF farN; decide)
theorem check_g2 : checkF fG2 = 0 := checkF_right (f := fG2) path_g2 (by rw [kind_g2]; decide) (by unfold boundF farN; decide)
theorem of_d1 : ofText pQ1 [97] (dataText rsQ) 1 = (fD1, 0) := by
  have hE : keysE kData (dataText rsQ) = .nil := by unfold keysE; rw [if_neg (by decide), read_rsQ.1]; rfl
  have hL : keysL kData (dataText rsQ) = [1, 2] := by unfold keysL; rw [if_neg (by decide), read_rsQ.2]; rfl
  have hf : ofFile pQ1 [97] (dataText rsQ) 1 = fD1 := by
    unfold ofFile
    rw [kind_d1, hL]
    rfl
  rw [ofText_fine (by rw [path_d1]; simp) (by rw [kind_d1, hE]; simp [Er.code]) (by rw [hf]; exact check_d1), hf]
theorem of_g2 : ofText pQ2 [45] (goneText [2]) 2 = (fG2, 0) := by
  have hE : keysE kGone (goneText [2]) = .nil := by unfold keysE; rw [if_pos rfl, read_two1.1]; rfl
  have hL : keysL kGone (goneText [2]) = [2] := by unfold keysL; rw [if_pos rfl, read_two1.2]
  have hf : ofFile pQ2 [45] (goneText [2]) 2 = fG2 := by
    unfold ofFile
    rw [kind_g2, hL]
    rfl
  rw [ofText_fine (by rw [path_g2]; simp) (by rw [kind_g2, hE]; simp [Er.code]) (by rw [hf]; exact check_g2), hf]
def st1Q : St := { St.new with objs := putO ⟨pQ1, dataText rsQ, 0⟩ [] }
def st2Q : St := { st1Q with objs := putO ⟨pQ2, goneText [2], 0⟩ st1Q.objs }
theorem len_d1 : (dataText rsQ).length ≤ 2700 := by have := dataText_len all_rsQ (by decide); omega
theorem len_g2 : (goneText [2]).length ≤ 1100 := by have := goneText_len near_two (by decide); omega
theorem put_d1 : putE St.new pQ1 (dataText rsQ) = .nil ∧ putS St.new pQ1 (dataText rsQ) = st1Q :=
  put_fine (path_name path_d1) (by have := len_d1; omega) rfl rfl rfl (by decide) (by have := len_d1; show 0 + _ ≤ _; omega)
theorem put_g2 : putE st1Q pQ2 (goneText [2]) = .nil ∧ putS st1Q pQ2 (goneText [2]) = st2Q := by
  refine put_fine (path_name path_g2) (by have := len_g2; omega) rfl rfl ?_ ?_ ?_
  · show getO (putO ⟨pQ1, dataText rsQ, 0⟩ []) pQ2 = none
    rw [getO_put_other List.Pairwise.nil (x := ⟨pQ1, dataText rsQ, 0⟩) rfl (by decide)]
    rfl
  · show (putO ⟨pQ1, dataText rsQ, 0⟩ []).length < 200
    rw [putO_length]; decide
  · show total (putO ⟨pQ1, dataText rsQ, 0⟩ []) + _ ≤ _
    rw [total_putO]
    have h1 := len_d1
    have h2 := len_g2
    show (0 + (dataText rsQ).length) + _ ≤ _ 
    omega
theorem st2Q_objs : getO st2Q.objs pQ1 = some ⟨pQ1, dataText rsQ, 0⟩ ∧ getO st2Q.objs pQ2 = some ⟨pQ2, goneText [2], 0⟩ := by
  have hr : Rising st1Q.objs := putO_rising List.Pairwise.nil rfl
  have hn : getO st1Q.objs pQ2 = none := by
    show getO (putO ⟨pQ1, dataText rsQ, 0⟩ []) pQ2 = none
    rw [getO_put_other List.Pairwise.nil (x := ⟨pQ1, dataText rsQ, 0⟩) rfl (by decide)]
    rfl
  refine ⟨?_, getO_put_same hr (x := ⟨pQ2, goneText [2], 0⟩) hn⟩
  show getO (putO ⟨pQ2, goneText [2], 0⟩ st1Q.objs) pQ1 = _
  rw [getO_put_other hr (x := ⟨pQ2, goneText [2], 0⟩) hn (by decide)]
  exact getO_put_same List.Pairwise.nil (x := ⟨pQ1, dataText rsQ, 0⟩) rfl
theorem st2Q_txt : ∀ o ∈ st2Q.objs, o.text.length ≤ 2700 := fun o ho => by
  rcases mem_putO.1 ho with rfl | ho
  · have := len_g2; show (goneText [2]).length ≤ _; omega
  rcases mem_putO.1 ho with rfl | ho
  · exact len_d1
  · cases ho
abbrev snQ : Sn := ⟨3, 0, 2, 0, 0, kAppend, [fD1, fG2]⟩
theorem fileE_d1 : fileE st2Q.objs fD1 = 0 := fileE_of (f := fD1) st2Q_objs.1 of_d1
theorem fileE_g2 : fileE st2Q.objs fG2 = 0 := fileE_of (f := fG2) st2Q_objs.2 of_g2
theorem right_snQ : RightSn snQ := by
  refine ⟨by decide, by decide, ⟨by decide, fun f hf => ?_, ?_⟩, fun f hf => ?_⟩
  · simp only [List.mem_cons, List.mem_nil_iff, or_false] at hf
    rcases hf with rfl | rfl
    · exact check_d1
    · exact check_g2
  · refine List.Pairwise.cons (fun f hf => ?_) (List.pairwise_singleton _ _)
    rw [List.mem_singleton.1 hf]
    show keyP pQ1 < keyP pQ2
    have e1 : keyP pQ1 = 2147483649 := by unfold keyP; rw [path_d1]; rfl
    have e2 : keyP pQ2 = 4294967298 := by unfold keyP; rw [path_g2]; rfl
    rw [e1, e2]; decide
  · simp only [List.mem_cons, List.mem_nil_iff, or_false] at hf
    rcases hf with rfl | rfl <;> decide
theorem rows_full : rowsE st2Q.objs snQ iMin iMax = .nil := rowsE_full.2 ⟨right_snQ, fun f hf => by
  simp only [List.mem_cons, List.mem_nil_iff, or_false] at hf
  rcases hf with rfl | rfl
  · exact fileE_d1
  · exact fileE_g2⟩
theorem rows_all : rowsL st2Q.objs snQ iMin iMax = [⟨[97], 1, 5⟩] := by
  have t1 : textO st2Q.objs pQ1 = dataText rsQ := by unfold textO; rw [st2Q_objs.1]; rfl
  have t2 : textO st2Q.objs pQ2 = goneText [2] := by unfold textO; rw [st2Q_objs.2]; rfl
  have r1 : rowsO st2Q.objs fD1 = rsQ := by unfold rowsO; rw [if_neg (by decide)]; show dataL (textO st2Q.objs pQ1) = _; rw [t1]; exact read_rsQ.2
  have r2 : rowsO st2Q.objs fG2 = [] := rowsO_gone (by decide)
  have k1 : keysO st2Q.objs fD1 = [] := keysO_data (by decide)
  have k2 : keysO st2Q.objs fG2 = [2] := by unfold keysO; rw [if_pos (by decide)]; show goneL (textO st2Q.objs pQ2) = _; rw [t2]; exact read_two1.2
  rw [rowsL_full rows_full]
  simp only [List.flatMap_cons, List.flatMap_nil, r1, r2, killed, List.any_cons, List.any_nil, k1, k2]
  decide
theorem rows_09 : rowsE st2Q.objs snQ 0 9 = .nil ∧ rowsL st2Q.objs snQ 0 9 = [⟨[97], 1, 5⟩] := by
  obtain ⟨h1, h2⟩ := rows_prune 0 9 rows_full
  exact ⟨h1, by rw [h2, rows_all]; decide⟩
end Go.Proofs.YtpfohfihkmjnaaaGreatDoor
namespace Go.Proofs.YtpfohfihkmjnaaaGreatDoor
open Go.RowKit Go.Maps

variable {α β : Type}
def insP (k : Str) (x : α) : List (Str × α) → List (Str × α)
  | [] => [(k, x)]
  | a :: r => if bef k a.1 then (k, x) :: a :: r else a :: insP k x r
def dropP (k : Str) (l : List (Str × α)) : List (Str × α) := l.filter (fun a => !(a.1 == k))
def putP (k : Str) (x : α) (l : List (Str × α)) : List (Str × α) := insP k x (dropP k l)
def getP (k : Str) (l : List (Str × α)) : Option α := (l.find? (fun a => a.1 == k)).map (·.2)
def RisP (l : List (Str × α)) : Prop := l.Pairwise (fun a b => bef a.1 b.1 = true)

theorem insP_perm (k : Str) (x : α) : ∀ l : List (Str × α), (insP k x l).Perm ((k, x) :: l)
  | [] => .refl _
  | a :: r => by
    unfold insP
    split
    · exact .refl _
    · exact ((insP_perm k x r).cons a).trans (.swap _ _ _)
theorem mem_putP {k : Str} {x : α} {l : List (Str × α)} {a : Str × α} : a ∈ putP k x l ↔ a = (k, x) ∨ (a ∈ l ∧ a.1 ≠ k) := by
  unfold putP
  rw [(insP_perm k x _).mem_iff, List.mem_cons]
  unfold dropP
  simp [List.mem_filter]
theorem insP_rising {k : Str} {x : α} : ∀ {l : List (Str × α)}, RisP l → (∀ a ∈ l, a.1 ≠ k) → RisP (insP k x l)
  | [], _, _ => by simp [insP, RisP]
  | a :: r, h, hn => by
    have hr : RisP r := (List.pairwise_cons.1 h).2
    have ha := (List.pairwise_cons.1 h).1
    unfold insP
    split
    · rename_i hb
      refine List.pairwise_cons.2 ⟨fun o ho => ?_, h⟩
      rcases List.mem_cons.1 ho with rfl | ho
      · exact hb
      · exact bef_trans hb (ha o ho)
    · rename_i hb
      have hba : bef a.1 k = true := bef_tri (fun e => hn a (by simp) e.symm) (by simpa using hb)
      refine List.pairwise_cons.2 ⟨fun o ho => ?_, insP_rising hr (fun o ho => hn o (List.mem_cons_of_mem _ ho))⟩
      rcases List.mem_cons.1 ((insP_perm k x r).mem_iff.1 ho) with rfl | ho
      · exact hba
      · exact ha o ho
theorem putP_rising {k : Str} {x : α} {l : List (Str × α)} (h : RisP l) : RisP (putP k x l) :=
  insP_rising (h.filter _) (fun a ha => by simpa using (List.mem_filter.1 ha).2)
theorem RisP.apart {l : List (Str × α)} (h : RisP l) : l.Pairwise (fun a b => a.1 ≠ b.1) := h.imp fun {a b} hb e => by rw [e, bef_irr] at hb; cases hb
theorem getP_none {k : Str} {l : List (Str × α)} : getP k l = none ↔ ∀ a ∈ l, a.1 ≠ k := by
  unfold getP; rw [Option.map_eq_none_iff, List.find?_eq_none]; simp
theorem getP_mem {k : Str} {x : α} {l : List (Str × α)} (h : getP k l = some x) : (k, x) ∈ l := by
  unfold getP at h
  obtain ⟨a, ha, rfl⟩ := Option.map_eq_some_iff.1 h
  have h1 := List.mem_of_find?_eq_some ha
  have h2 := List.find?_some ha
  have : a.1 = k := by simpa using h2
  rw [← this]; exact h1
theorem getP_of_mem {k : Str} {x : α} : ∀ {l : List (Str × α)}, RisP l → (k, x) ∈ l → getP k l = some x
  | a :: r, h, hm => by
    unfold getP
    rw [List.find?_cons]
    rcases List.mem_cons.1 hm with rfl | hm
    · simp
    · have hne : a.1 ≠ k := (List.pairwise_cons.1 h.apart).1 _ hm
      have : (a.1 == k) = false := by simpa using hne
      rw [this]
      exact getP_of_mem (List.pairwise_cons.1 h).2 hm
theorem getP_iff {k : Str} {x : α} {l : List (Str × α)} (h : RisP l) : getP k l = some x ↔ (k, x) ∈ l := ⟨getP_mem, getP_of_mem h⟩
theorem getP_put_same {k : Str} {x : α} {l : List (Str × α)} (h : RisP l) : getP k (putP k x l) = some x := getP_of_mem (putP_rising h) (mem_putP.2 (.inl rfl))
theorem getP_put_other {k j : Str} {x : α} {l : List (Str × α)} (h : RisP l) (hne : j ≠ k) : getP j (putP k x l) = getP j l := by
  apply Option.ext
  intro y
  rw [getP_iff (putP_rising h), getP_iff h, mem_putP]
  constructor
  · rintro (e | e)
    · exact absurd (congrArg Prod.fst e) hne
    · exact e.1
  · exact fun e => .inr ⟨e, hne⟩
theorem insP_keys (k : Str) (x : α) (y : β) : ∀ {l : List (Str × α)} {m : List (Str × β)}, l.map (·.1) = m.map (·.1) → (insP k x l).map (·.1) = (insP k y m).map (·.1)
  | [], [], _ => rfl
  | a :: r, b :: s, h => by
    simp only [List.map_cons, List.cons.injEq] at h
    unfold insP
    rw [h.1]
    split
    · simp [h.1, h.2]
    · simp only [List.map_cons, List.cons.injEq]; exact ⟨h.1, insP_keys k x y h.2⟩
theorem dropP_keys (k : Str) : ∀ {l : List (Str × α)} {m : List (Str × β)}, l.map (·.1) = m.map (·.1) → (dropP k l).map (·.1) = (dropP k m).map (·.1)
  | [], [], _ => rfl
  | a :: r, b :: s, h => by
    simp only [List.map_cons, List.cons.injEq] at h
    have ih := dropP_keys k h.2
    unfold dropP at ih ⊢
    rw [List.filter_cons, List.filter_cons, h.1]
    split
    · simp [h.1, ih]
    · exact ih
theorem putP_keys (k : Str) (x : α) (y : β) {l : List (Str × α)} {m : List (Str × β)} (h : l.map (·.1) = m.map (·.1)) : (putP k x l).map (·.1) = (putP k y m).map (·.1) :=
  insP_keys k x y (dropP_keys k h)
theorem getP_keys {k : Str} : ∀ {l : List (Str × α)} {m : List (Str × β)}, l.map (·.1) = m.map (·.1) → (getP k l = none ↔ getP k m = none) := fun {l m} h => by
  rw [getP_none, getP_none]
  have e : ∀ {γ : Type} (q : List (Str × γ)), (∀ a ∈ q, a.1 ≠ k) ↔ k ∉ q.map (·.1) := fun q => by
    simp only [List.mem_map, not_exists, not_and]
  rw [e, e, h]
theorem dropP_none {k : Str} {l : List (Str × α)} (h : getP k l = none) : dropP k l = l := by
  unfold dropP; rw [List.filter_eq_self]
  intro a ha
  simpa using getP_none.1 h a ha
theorem perm_drop {k : Str} {x : α} : ∀ {l : List (Str × α)}, RisP l → (k, x) ∈ l → l.Perm ((k, x) :: dropP k l)
  | a :: r, h, hm => by
    have hr : RisP r := (List.pairwise_cons.1 h).2
    unfold dropP
    rw [List.filter_cons]
    by_cases hk : a.1 = k
    · have hd : dropP k r = r := dropP_none (getP_none.2 fun b hb e => (List.pairwise_cons.1 h.apart).1 b hb (hk.trans e.symm))
      have hax : a = (k, x) := by
        rcases List.mem_cons.1 hm with e | e
        · exact e.symm
        · exact absurd hk ((List.pairwise_cons.1 h.apart).1 _ e)
      have : (!(a.1 == k)) = false := by simpa using hk
      rw [this]
      simp only [Bool.false_eq_true, if_false]
      unfold dropP at hd
      rw [hd, hax]
    · have : (!(a.1 == k)) = true := by simpa using hk
      rw [this, if_pos rfl]
      have hm' : (k, x) ∈ r := by
        rcases List.mem_cons.1 hm with e | e
        · exact absurd (congrArg Prod.fst e).symm hk
        · exact e
      exact ((perm_drop hr hm').cons a).trans (.swap _ _ _)

/-- Rows split by the names of their groups. -/
def splitG (f : Rw → Str) (l : List Rw) : List (Str × List Rw) := l.foldl (fun gs r => putP (f r) ((getP (f r) gs).getD [] ++ [r]) gs) []
theorem splitG_snoc (f : Rw → Str) (l : List Rw) (r : Rw) : splitG f (l ++ [r]) = putP (f r) ((getP (f r) (splitG f l)).getD [] ++ [r]) (splitG f l) := by
  unfold splitG; rw [List.foldl_append]; rfl
theorem snoc_ind {p : List Rw → Prop} (h0 : p []) (h1 : ∀ l r, p l → p (l ++ [r])) (l : List Rw) : p l := by
  rw [← List.reverse_reverse l]
  induction l.reverse with
  | nil => exact h0
  | cons a r ih => rw [List.reverse_cons]; exact h1 _ _ ih
theorem splitG_rising (f : Rw → Str) (l : List Rw) : RisP (splitG f l) :=
  snoc_ind (p := fun l => RisP (splitG f l)) List.Pairwise.nil (fun l r ih => by rw [splitG_snoc]; exact putP_rising ih) l
theorem splitG_mem (f : Rw → Str) (l : List Rw) : ∀ a ∈ splitG f l, a.2 ≠ [] ∧ ∀ r ∈ a.2, f r = a.1 := by
  refine snoc_ind (p := fun l => ∀ a ∈ splitG f l, a.2 ≠ [] ∧ ∀ r ∈ a.2, f r = a.1) (fun a h => by cases h) (fun l r ih a ha => ?_) l
  rw [splitG_snoc] at ha
  rcases mem_putP.1 ha with rfl | ⟨ha, -⟩
  · refine ⟨by simp, fun q hq => ?_⟩
    rcases List.mem_append.1 hq with hq | hq
    · cases hg : getP (f r) (splitG f l) with
      | none => rw [hg] at hq; cases hq
      | some m => rw [hg] at hq; exact (ih _ (getP_mem hg)).2 q hq
    · rw [List.mem_singleton.1 hq]
  · exact ih a ha
theorem splitG_perm (f : Rw → Str) (l : List Rw) : ((splitG f l).flatMap (·.2)).Perm l := by
  refine snoc_ind (p := fun l => ((splitG f l).flatMap (·.2)).Perm l) .nil (fun l r ih => ?_) l
  rw [splitG_snoc]
  have h1 : (putP (f r) ((getP (f r) (splitG f l)).getD [] ++ [r]) (splitG f l)).Perm ((f r, (getP (f r) (splitG f l)).getD [] ++ [r]) :: dropP (f r) (splitG f l)) := insP_perm _ _ _
  refine (h1.flatMap_right _).trans ?_
  rw [List.flatMap_cons]
  cases hg : getP (f r) (splitG f l) with
  | none =>
    rw [dropP_none hg]
    exact (List.perm_append_comm).trans (ih.append_right [r])
  | some m =>
    have h2 := (perm_drop (splitG_rising f l) (getP_mem hg)).flatMap_right (fun a : Str × List Rw => a.2)
    rw [List.flatMap_cons] at h2
    have h3 := h2.symm.trans ih
    show ((m ++ [r]) ++ (dropP (f r) (splitG f l)).flatMap (·.2)).Perm (l ++ [r])
    rw [List.append_assoc]
    refine (List.Perm.append_left m List.perm_append_comm).trans ?_
    rw [← List.append_assoc]
    exact h3.append_right [r]
theorem splitG_len (f : Rw → Str) (l : List Rw) : (splitG f l).length ≤ l.length ∧ ∀ a ∈ splitG f l, a.2.length ≤ l.length := by
  have h1 := (splitG_perm f l).length_eq
  rw [List.length_flatMap] at h1
  constructor
  · rw [← h1]
    have : ∀ q : List (Str × List Rw), (∀ a ∈ q, a.2 ≠ []) → q.length ≤ (q.map fun a => a.2.length).sum := fun q => by
      induction q with
      | nil => intro _; simp
      | cons a r ih =>
        intro h
        have h0 := h a (by simp)
        have := ih fun b hb => h b (List.mem_cons_of_mem _ hb)
        have h2 : 0 < a.2.length := List.length_pos_iff.2 h0
        simp only [List.length_cons, List.map_cons, List.sum_cons]
        omega
    exact this _ fun a ha => (splitG_mem f l a ha).1
  · intro a ha
    rw [← h1]
    have : ∀ q : List (Str × List Rw), a ∈ q → a.2.length ≤ (q.map fun a => a.2.length).sum := fun q => by
      induction q with
      | nil => intro h; cases h
      | cons b r ih =>
        intro h
        simp only [List.map_cons, List.sum_cons]
        rcases List.mem_cons.1 h with rfl | h
        · omega
        · have := ih h; omega
    exact this _ ha

/-- What a map of values reads as. -/
def heldR (v : Value) : Option (DataW Value × List MemPlace) := some (.held v, [])
def mapV (xs : List (Str × Value)) : DataW Value := .map (xs.map fun a => (.string a.1, .held a.2))
theorem insert_mapV (k : Str) (v : Value) : ∀ xs : List (Str × Value), DataW.insert (.string k, .held v) (xs.map fun a => (Lit.string a.1, DataW.held a.2)) = (insP k v xs).map fun a => (Lit.string a.1, DataW.held a.2)
  | [] => rfl
  | a :: r => by
    rw [List.map_cons, DataW.insert, insP]
    have : (Lit.string k).before (Lit.string a.1) = bef k a.1 := rfl
    rw [this]
    cases bef k a.1 with
    | true => rfl
    | false => simp only [Bool.false_eq_true, if_false, List.map_cons]; rw [insert_mapV k v r]
theorem put_mapV (k : Str) (v : Value) (xs : List (Str × Value)) : (mapV xs).put (.string k) (.held v) = mapV (putP k v xs) := by
  unfold mapV DataW.put putP
  simp only
  rw [← insert_mapV, List.filter_map]
  rfl
theorem at_mapV (k : Str) (z : Value) (xs : List (Str × Value)) : (mapV xs).atKey (.string k) (.held z) = .held ((getP k xs).getD z) := by
  unfold mapV DataW.atKey getP
  simp only
  rw [List.find?_map]
  have : ((fun p : Lit × DataW Value => p.1.sameKey (.string k)) ∘ fun a : Str × Value => (Lit.string a.1, DataW.held a.2)) = fun a : Str × Value => a.1 == k := by
    funext a; rfl
  rw [this]
  cases xs.find? (fun a => a.1 == k) <;> rfl
theorem size_mapV (xs : List (Str × Value)) : size (mapV xs) = xs.length := by unfold mapV; rw [size_eq, List.length_map]
theorem keys_mapV (xs : List (Str × Value)) : strKeys (mapV xs) = xs.map (·.1) := by
  unfold mapV strKeys
  simp [strOf]
end Go.Proofs.YtpfohfihkmjnaaaGreatDoor
namespace Go.Proofs.YtpfohfihkmjnaaaGreatDoor
open Go.RowKit Go.Maps

theorem keySr {k : Str} (h : k.length ≤ 100000) : keyOf Tryz.prog 9 (S k) = some (.string k) := by
  have : (ByteArray.mk k.toArray).size ≤ maxLen := by simp [ByteArray.size]; unfold maxLen; omega
  unfold keyOf mapKey
  rw [Tryz.underlying9]
  simp [this]
theorem lookSR {w : World} {b n : Nat} {xs : List (Str × Value)} (h : w.ownsMap Tryz.prog 9 heldR b n (mapV xs)) (k : Str) (hk : k.length ≤ 100000) :
    (Instr.lookup 95 (.map (some b)) (S k) false).run Tryz.prog w = .ok ((getP k xs).getD (.slice none 0 0)) w := by
  have hz : (zeroValue 44).run Tryz.prog w = .ok (.slice none 0 0) w := by kernel_rfl
  obtain ⟨v, ps, h1, h2⟩ := h.lookup (string_keyed Tryz.underlying9) Tryz.underlying95 hz (zd := .held (.slice none 0 0)) (zp := []) rfl (keySr hk)
  rw [at_mapV] at h2
  simp only [heldR, Option.some.injEq, Prod.mk.injEq, DataW.held.injEq] at h2
  rw [h1, h2.1]
theorem updSR {w : World} {b n : Nat} {xs : List (Str × Value)} (h : w.ownsMap Tryz.prog 9 heldR b n (mapV xs)) (k : Str) (hk : k.length ≤ 100000) (hn : n < maxLen) (v : Value) :
    ∃ w', (Instr.mapUpdate 95 (.map (some b)) (S k) v).run Tryz.prog w = .ok () w' ∧ w'.ownsMap Tryz.prog 9 heldR b (n + 1) (mapV (putP k v xs)) ∧ w.grownBy w' (some b) := by
  obtain ⟨w', h1, h2, h3⟩ := h.update (string_keyed Tryz.underlying9) Tryz.underlying95 hn (keySr hk) (d := .held v) (ps := []) rfl
  rw [put_mapV] at h2
  exact ⟨w', h1, h2, h3⟩
theorem lookSI {w : World} {b n : Nat} {xs : List (Str × Value)} (h : w.ownsMap Tryz.prog 9 heldR b n (mapV xs)) (k : Str) (hk : k.length ≤ 100000) :
    (Instr.lookup 96 (.map (some b)) (S k) false).run Tryz.prog w = .ok ((getP k xs).getD (.slice none 0 0)) w := by
  have hz : (zeroValue 69).run Tryz.prog w = .ok (.slice none 0 0) w := by kernel_rfl
  obtain ⟨v, ps, h1, h2⟩ := h.lookup (string_keyed Tryz.underlying9) Tryz.underlying96 hz (zd := .held (.slice none 0 0)) (zp := []) rfl (keySr hk)
  rw [at_mapV] at h2
  simp only [heldR, Option.some.injEq, Prod.mk.injEq, DataW.held.injEq] at h2
  rw [h1, h2.1]
theorem updSI {w : World} {b n : Nat} {xs : List (Str × Value)} (h : w.ownsMap Tryz.prog 9 heldR b n (mapV xs)) (k : Str) (hk : k.length ≤ 100000) (hn : n < maxLen) (v : Value) :
    ∃ w', (Instr.mapUpdate 96 (.map (some b)) (S k) v).run Tryz.prog w = .ok () w' ∧ w'.ownsMap Tryz.prog 9 heldR b (n + 1) (mapV (putP k v xs)) ∧ w.grownBy w' (some b) := by
  obtain ⟨w', h1, h2, h3⟩ := h.update (string_keyed Tryz.underlying9) Tryz.underlying96 hn (keySr hk) (d := .held v) (ps := []) rfl
  rw [put_mapV] at h2
  exact ⟨w', h1, h2, h3⟩

/-- What lies under the paths: each file's rows, or its keys. -/
structure Stock (os : List Ob) (W : World) (fs : List Fl) (xr xk : List (Str × Value)) : Prop where
  risr : RisP xr
  risk : RisP xk
  rows : ∀ f ∈ fs, isG f = false → ∃ v, getP f.path xr = some v ∧ RowsAt W v (rowsO os f)
  keys : ∀ f ∈ fs, isG f = true → ∃ v, getP f.path xk = some v ∧ IntsAt W v (keysO os f)
  onlyr : ∀ p v, getP p xr = some v → ∃ f ∈ fs, f.path = p ∧ isG f = false
  onlyk : ∀ p v, getP p xk = some v → ∃ f ∈ fs, f.path = p ∧ isG f = true
theorem Stock.nil (os : List Ob) (W : World) : Stock os W [] [] [] :=
  ⟨List.Pairwise.nil, List.Pairwise.nil, fun _ h => (by cases h), fun _ h => (by cases h), fun _ _ h => (by cases h), fun _ _ h => (by cases h)⟩
theorem Stock.below {os : List Ob} {W W' : World} {fs : List Fl} {xr xk : List (Str × Value)} (h : Stock os W fs xr xk) (hb : Below W.heap.size W W') : Stock os W' fs xr xk :=
  ⟨h.risr, h.risk, fun f hf hg => by obtain ⟨v, h1, h2⟩ := h.rows f hf hg; exact ⟨v, h1, h2.below hb⟩, fun f hf hg => by obtain ⟨v, h1, h2⟩ := h.keys f hf hg; exact ⟨v, h1, h2.below hb⟩, h.onlyr, h.onlyk⟩
/-- The slices under the paths, where only blocks turn in which none of them lies. -/
theorem Stock.moved {os : List Ob} {W W' : World} {fs : List Fl} {xr xk : List (Str × Value)} (h : Stock os W fs xr xk) (hr : ∀ v l, RowsAt W v l → RowsAt W' v l) (hk : ∀ v l, IntsAt W v l → IntsAt W' v l) : Stock os W' fs xr xk :=
  ⟨h.risr, h.risk, fun f hf hg => by obtain ⟨v, h1, h2⟩ := h.rows f hf hg; exact ⟨v, h1, hr _ _ h2⟩, fun f hf hg => by obtain ⟨v, h1, h2⟩ := h.keys f hf hg; exact ⟨v, h1, hk _ _ h2⟩, h.onlyr, h.onlyk⟩
theorem Stock.putRows {os : List Ob} {W : World} {fs : List Fl} {xr xk : List (Str × Value)} (h : Stock os W fs xr xk) {f : Fl} {v : Value} (hg : isG f = false) (hv : RowsAt W v (rowsO os f)) (hd : ∀ g ∈ fs, g.path ≠ f.path) : Stock os W (fs ++ [f]) (putP f.path v xr) xk :=
  ⟨putP_rising h.risr, h.risk, fun g hm hgg => by
    rcases List.mem_append.1 hm with hm | hm
    · obtain ⟨u, h1, h2⟩ := h.rows g hm hgg
      exact ⟨u, by rw [getP_put_other h.risr (hd g hm)]; exact h1, h2⟩
    · obtain rfl := List.mem_singleton.1 hm
      exact ⟨v, getP_put_same h.risr, hv⟩, fun g hm hgg => by
    rcases List.mem_append.1 hm with hm | hm
    · exact h.keys g hm hgg
    · obtain rfl := List.mem_singleton.1 hm
      exact absurd (hg.symm.trans hgg) (by decide), fun p u hp => by
    by_cases e : p = f.path
    · exact ⟨f, List.mem_append_right _ (List.mem_singleton.2 rfl), e.symm, hg⟩
    · rw [getP_put_other h.risr e] at hp
      obtain ⟨g, hm, h1⟩ := h.onlyr p u hp
      exact ⟨g, List.mem_append_left _ hm, h1⟩, fun p u hp => by
    obtain ⟨g, hm, h1⟩ := h.onlyk p u hp
    exact ⟨g, List.mem_append_left _ hm, h1⟩⟩
theorem Stock.putKeys {os : List Ob} {W : World} {fs : List Fl} {xr xk : List (Str × Value)} (h : Stock os W fs xr xk) {f : Fl} {v : Value} (hg : isG f = true) (hv : IntsAt W v (keysO os f)) (hd : ∀ g ∈ fs, g.path ≠ f.path) : Stock os W (fs ++ [f]) xr (putP f.path v xk) :=
  ⟨h.risr, putP_rising h.risk, fun g hm hgg => by
    rcases List.mem_append.1 hm with hm | hm
    · exact h.rows g hm hgg
    · obtain rfl := List.mem_singleton.1 hm
      exact absurd (hg.symm.trans hgg) (by decide), fun g hm hgg => by
    rcases List.mem_append.1 hm with hm | hm
    · obtain ⟨u, h1, h2⟩ := h.keys g hm hgg
      exact ⟨u, by rw [getP_put_other h.risk (hd g hm)]; exact h1, h2⟩
    · obtain rfl := List.mem_singleton.1 hm
      exact ⟨v, getP_put_same h.risk, hv⟩, fun p u hp => by
    obtain ⟨g, hm, h1⟩ := h.onlyr p u hp
    exact ⟨g, List.mem_append_left _ hm, h1⟩, fun p u hp => by
    by_cases e : p = f.path
    · exact ⟨f, List.mem_append_right _ (List.mem_singleton.2 rfl), e.symm, hg⟩
    · rw [getP_put_other h.risk e] at hp
      obtain ⟨g, hm, h1⟩ := h.onlyk p u hp
      exact ⟨g, List.mem_append_left _ hm, h1⟩⟩
/-- The keys that lie under a file's path: those of a file of keys, or none. -/
theorem Stock.keysAt {os : List Ob} {W : World} {fs : List Fl} {xr xk : List (Str × Value)} (h : Stock os W fs xr xk) (hup : UpF fs) {g : Fl} (hm : g ∈ fs) : IntsAt W ((getP g.path xk).getD (.slice none 0 0)) (keysO os g) := by
  cases hg : isG g with
  | true =>
    obtain ⟨v, h1, h2⟩ := h.keys g hm hg
    rw [h1]; exact h2
  | false =>
    have : getP g.path xk = none := by
      cases hp : getP g.path xk with
      | none => rfl
      | some v =>
        obtain ⟨f, hf, he, hgf⟩ := h.onlyk _ _ hp
        rw [path_one hup hf hm he, hg] at hgf
        cases hgf
    rw [this, keysO_data hg]
    exact At.nil _ _ _
theorem Stock.rowsAt {os : List Ob} {W : World} {fs : List Fl} {xr xk : List (Str × Value)} (h : Stock os W fs xr xk) (hup : UpF fs) {g : Fl} (hm : g ∈ fs) : RowsAt W ((getP g.path xr).getD (.slice none 0 0)) (rowsO os g) := by
  cases hg : isG g with
  | false =>
    obtain ⟨v, h1, h2⟩ := h.rows g hm hg
    rw [h1]; exact h2
  | true =>
    have : getP g.path xr = none := by
      cases hp : getP g.path xr with
      | none => rfl
      | some v =>
        obtain ⟨f, hf, he, hgf⟩ := h.onlyr _ _ hp
        rw [path_one hup hf hm he, hg] at hgf
        cases hgf
    rw [this, rowsO_gone hg]
    exact At.nil _ _ _
end Go.Proofs.YtpfohfihkmjnaaaGreatDoor
namespace Go.Proofs.YtpfohfihkmjnaaaGreatDoor
open Go.RowKit

/-- All that was there is as it was, but some blocks. -/
structure ButD (D : Nat → Prop) (w w' : World) : Prop where
  os : w'.os = w.os
  tape : w'.tape = w.tape
  output : w'.output = w.output
  size : w.heap.size ≤ w'.heap.size
  block : ∀ k, k < w.heap.size → ¬ D k → w'.heap[k]? = w.heap[k]?
theorem ButD.of {D : Nat → Prop} {w w' : World} (h : Below w.heap.size w w') : ButD D w w' := ⟨h.os, h.tape, h.output, h.size, fun k hk _ => h.block k hk⟩
theorem ButD.trans {D D' : Nat → Prop} {a b c : World} (h : ButD D a b) (k : ButD D' b c) (hD : ∀ k, D' k → D k ∨ a.heap.size ≤ k) : ButD D a c :=
  ⟨k.os.trans h.os, k.tape.trans h.tape, k.output.trans h.output, Nat.le_trans h.size k.size, fun j hj hn => (k.block j (Nat.lt_of_lt_of_le hj h.size) (fun hd => by
    rcases hD j hd with h1 | h1
    · exact hn h1
    · omega)).trans (h.block j hj hn)⟩
theorem ButD.below {D : Nat → Prop} {B : Nat} {a b : World} (h : ButD D a b) (hD : ∀ k, D k → B ≤ k) (hB : B ≤ a.heap.size) : Below B a b :=
  ⟨h.os, h.tape, h.output, h.size, fun k hk => h.block k (Nat.lt_of_lt_of_le hk hB) (fun hd => by have := hD k hd; omega)⟩
theorem ButD.mono {D D' : Nat → Prop} {a b : World} (h : ButD D a b) (hD : ∀ k, D k → D' k) : ButD D' a b := ⟨h.os, h.tape, h.output, h.size, fun k hk hn => h.block k hk (fun hd => hn (hD k hd))⟩

/-- A row that the call owns, where its block is as it was. -/
theorem Own.blocked {α : Type} {enc : α → List Value} {e : TypeId} {sz B : Nat} {w w' : World} {v : Value} {l : List α} (h : Own enc e sz B w v l) (hk : ∀ g, v.ownBlock = some g → w'.heap[g]? = w.heap[g]?) : Own enc e sz B w' v l := by
  refine ⟨h.1, h.2.imp id ?_⟩
  rintro ⟨g, cap, cur, rfl, hb, hg, h3⟩
  exact ⟨g, cap, cur, rfl, hb, (hk g rfl).trans hg, h3⟩
theorem Own.far {α : Type} {enc : α → List Value} {e : TypeId} {sz B : Nat} {w : World} {v : Value} {l : List α} (hen : Enc enc sz) (h : Own enc e sz B w v l) (W : World) (hk : ∀ g, v.ownBlock = some g → W.heap[g]? = w.heap[g]?) : At enc sz W v l := (h.blocked hk).at hen
/-- What stands in a slice hangs on one block. -/
theorem At.far {α : Type} {enc : α → List Value} {sz B : Nat} {w : World} {v : Value} {l : List α} (h : At enc sz w v l) (hB : w.heap.size ≤ B) (W : World) (hk : ∀ k, k < B → W.heap[k]? = w.heap[k]?) : At enc sz W v l := by
  obtain ⟨a, c, b, o, hv, ha, hc, hm, hx⟩ := h
  refine ⟨a, c, b, o, hv, ha, hc, hm, fun k x hxk j u hu => ?_⟩
  have h1 := hx k x hxk j u hu
  have h2 : b < w.heap.size := World.block_lt_of_cell? w _ h1
  exact (World.cell?_of_block (w := w) (w' := W) (a := ⟨b, o + k * sz + j, none⟩) (hk b (by omega))).trans h1

abbrev txCells (t : Tx) (vf va vr : Value) : Array Value := #[.int .i64 t.base.id, .int .i64 t.base.parent, .int .i64 t.base.seq, .int .i64 t.base.day, .int .i64 t.base.index, S t.base.op, vf, va, vr]
/-- A change of type ty in block tb: D are its blocks, all at B or behind it; what it was begun with lies in blocks K. -/
structure TxAt (ty : TypeId) (B : Nat) (w : World) (D K : Nat → Prop) (tb : Nat) (t : Tx) (vf va vr : Value) : Prop where
  blk : w.heap[tb]? = some (.cells (txCells t vf va vr) ty (0, 0))
  files : ∀ W : World, (∀ k, K k → W.heap[k]? = w.heap[k]?) → FilesAt W vf t.base.files
  adds : Own encF 43 6 B w va t.adds
  rems : Own encS 9 1 B w vr t.removes
  dt : D tb
  da : ∀ k, va.ownBlock = some k → D k ∧ k ≠ tb
  dr : ∀ k, vr.ownBlock = some k → D k ∧ k ≠ tb
  dar : ∀ k, va.ownBlock = some k → vr.ownBlock ≠ some k
  low : ∀ k, D k → B ≤ k ∧ k < w.heap.size
  kdis : ∀ k, K k → ¬ D k
  klt : ∀ k, K k → k < w.heap.size
variable {ty : TypeId} {B : Nat} {w : World} {D K : Nat → Prop} {tb : Nat} {t : Tx} {vf va vr : Value}
theorem TxAt.kept (h : TxAt ty B w D K tb t vf va vr) {D2 : Nat → Prop} {w' : World} (hb : ButD D2 w w') (hd : ∀ k, D2 k → ¬ D k ∧ ¬ K k) : TxAt ty B w' D K tb t vf va vr := by
  have hD : ∀ k, D k → w'.heap[k]? = w.heap[k]? := fun k hk => hb.block k (h.low k hk).2 (fun h2 => (hd k h2).1 hk)
  exact ⟨(hD tb h.dt).trans h.blk, fun W hW => h.files W fun k hk => (hW k hk).trans (hb.block k (h.klt k hk) (fun h2 => (hd k h2).2 hk)),
    h.adds.blocked fun g hg => hD g (h.da g hg).1, h.rems.blocked fun g hg => hD g (h.dr g hg).1, h.dt, h.da, h.dr, h.dar, fun k hk => ⟨(h.low k hk).1, Nat.lt_of_lt_of_le (h.low k hk).2 hb.size⟩, h.kdis, fun k hk => Nat.lt_of_lt_of_le (h.klt k hk) hb.size⟩
theorem TxAt.below (h : TxAt ty B w D K tb t vf va vr) {w' : World} (hb : Below w.heap.size w w') : TxAt ty B w' D K tb t vf va vr :=
  h.kept (D2 := fun _ => False) (ButD.of hb) (fun _ h => h.elim)
theorem TxAt.lt (h : TxAt ty B w D K tb t vf va vr) : tb < w.heap.size := (h.low tb h.dt).2
theorem TxAt.c0 (h : TxAt ty B w D K tb t vf va vr) : w.cell? ⟨tb, 0, none⟩ = some (.int .i64 t.base.id) := by rw [cell_of_row w _ _ _ _ (0, 0) h.blk]; rfl
theorem TxAt.c2 (h : TxAt ty B w D K tb t vf va vr) : w.cell? ⟨tb, 2, none⟩ = some (.int .i64 t.base.seq) := by rw [cell_of_row w _ _ _ _ (0, 0) h.blk]; rfl
theorem TxAt.c6 (h : TxAt ty B w D K tb t vf va vr) : w.cell? ⟨tb, 6, none⟩ = some vf := by rw [cell_of_row w _ _ _ _ (0, 0) h.blk]; rfl
theorem TxAt.c7 (h : TxAt ty B w D K tb t vf va vr) : w.cell? ⟨tb, 7, none⟩ = some va := by rw [cell_of_row w _ _ _ _ (0, 0) h.blk]; rfl
theorem TxAt.c8 (h : TxAt ty B w D K tb t vf va vr) : w.cell? ⟨tb, 8, none⟩ = some vr := by rw [cell_of_row w _ _ _ _ (0, 0) h.blk]; rfl
theorem TxAt.fz (h : TxAt ty B w D K tb t vf va vr) (i : Nat) : w.frozen? ⟨tb, i, none⟩ = false := frozen_row h.blk
theorem TxAt.baseAt (h : TxAt ty B w D K tb t vf va vr) : FilesAt w vf t.base.files := h.files w fun _ _ => rfl
theorem TxAt.addsAt (h : TxAt ty B w D K tb t vf va vr) : FilesAt w va t.adds := h.adds.at encF_enc
theorem TxAt.remsAt (h : TxAt ty B w D K tb t vf va vr) : StrsAt w vr t.removes := h.rems.at encS_enc
/-- The blocks behind a step: those that were, and new ones. -/
def grewD (D : Nat → Prop) (n m : Nat) : Nat → Prop := fun k => D k ∨ (n ≤ k ∧ k < m)
/-- Behind an append to the files added. -/
theorem TxAt.added (h : TxAt ty B w D K tb t vf va vr) {w1 w2 : World} {va' : Value} {f : Fl} (hb1 : Below w.heap.size w w1) (hg : w1.grownBy w2 va.ownBlock) (hn : va'.ownBlock = va.ownBlock ∨ va'.ownBlock = some w1.heap.size) (hlt : ∀ k, va'.ownBlock = some k → k < w2.heap.size)
    (ho : Own encF 43 6 B w2 va' (t.adds ++ [f])) (i : Nat) (hi : i = 7) :
    TxAt ty B (w2.setCell ⟨tb, i, none⟩ va') (grewD D w.heap.size w2.heap.size) K tb { t with adds := t.adds ++ [f] } vf va' vr ∧ ButD D w (w2.setCell ⟨tb, i, none⟩ va') := by
  subst hi
  have hs1 := hb1.size
  have hs2 := hg.size
  have hlow := h.low
  have hOld : ∀ k, k < w.heap.size → va.ownBlock ≠ some k → w2.heap[k]? = w.heap[k]? := fun k hk hne => (hg.block k (by omega) (fun e => hne e.symm)).trans (hb1.block k hk)
  have hset : ∀ k, k ≠ tb → (w2.setCell ⟨tb, 7, none⟩ va').heap[k]? = w2.heap[k]? := fun k hk => by
    have : tb ≠ k := fun e => hk e.symm
    simp [World.setCell, Array.getElem?_modify, this]
  have hsz : (w2.setCell ⟨tb, 7, none⟩ va').heap.size = w2.heap.size := by simp [World.setCell]
  have htb : w2.heap[tb]? = w.heap[tb]? := hOld tb h.lt fun e => (h.da tb e).2 rfl
  have hva' : ∀ k, va'.ownBlock = some k → (va.ownBlock = some k) ∨ w.heap.size ≤ k := fun k hk => by
    rcases hn with hn | hn
    · exact .inl (hn ▸ hk)
    · rw [hn] at hk; cases hk; exact .inr hs1
  have htlt := h.lt
  refine ⟨⟨row_setCell (htb.trans h.blk) va', fun W hW => h.files W fun k hk => (hW k hk).trans ((hset k (fun e => h.kdis k hk (e ▸ h.dt))).trans (hOld k (h.klt k hk) (fun e => h.kdis k hk (h.da k e).1))), ho.blocked fun g hg' => hset g (fun e => ?_),
    h.rems.blocked fun g hg' => (hset g (h.dr g hg').2).trans (hOld g (hlow g (h.dr g hg').1).2 (fun e => h.dar g e hg')), .inl h.dt, fun k hk => ?_, fun k hk => ⟨.inl (h.dr k hk).1, (h.dr k hk).2⟩, fun k hk e => ?_, fun k hk => ?_, fun k hk hd => ?_, fun k hk => ?_⟩,
    ⟨hg.os.trans hb1.os, hg.tape.trans hb1.tape, hg.output.trans hb1.output, by rw [hsz]; omega, fun k hk hn' => (hset k (fun e => hn' (e ▸ h.dt))).trans (hOld k hk (fun e => hn' (h.da k e).1))⟩⟩
  · subst e
    rcases hva' _ hg' with h1 | h1
    · exact (h.da _ h1).2 rfl
    · omega
  · rcases hva' k hk with h1 | h1
    · exact ⟨.inl (h.da k h1).1, (h.da k h1).2⟩
    · exact ⟨.inr ⟨h1, hlt k hk⟩, by omega⟩
  · rcases hva' k hk with h1 | h1
    · exact h.dar k h1 e
    · have := (hlow k (h.dr k e).1).2; omega
  · rw [hsz]
    rcases hk with hk | hk
    · have := hlow k hk; exact ⟨this.1, by omega⟩
    · have := (hlow tb h.dt).1; exact ⟨by omega, hk.2⟩
  · rcases hd with hd | hd
    · exact h.kdis k hk hd
    · have := h.klt k hk; omega
  · have := h.klt k hk
    rw [hsz]; omega
/-- Behind an append to the paths removed. -/
theorem TxAt.removed (h : TxAt ty B w D K tb t vf va vr) {w1 w2 : World} {vr' : Value} {p : Str} (hb1 : Below w.heap.size w w1) (hg : w1.grownBy w2 vr.ownBlock) (hn : vr'.ownBlock = vr.ownBlock ∨ vr'.ownBlock = some w1.heap.size) (hlt : ∀ k, vr'.ownBlock = some k → k < w2.heap.size)
    (ho : Own encS 9 1 B w2 vr' (t.removes ++ [p])) (i : Nat) (hi : i = 8) :
    TxAt ty B (w2.setCell ⟨tb, i, none⟩ vr') (grewD D w.heap.size w2.heap.size) K tb { t with removes := t.removes ++ [p] } vf va vr' ∧ ButD D w (w2.setCell ⟨tb, i, none⟩ vr') := by
  subst hi
  have hs1 := hb1.size
  have hs2 := hg.size
  have hlow := h.low
  have hOld : ∀ k, k < w.heap.size → vr.ownBlock ≠ some k → w2.heap[k]? = w.heap[k]? := fun k hk hne => (hg.block k (by omega) (fun e => hne e.symm)).trans (hb1.block k hk)
  have hset : ∀ k, k ≠ tb → (w2.setCell ⟨tb, 8, none⟩ vr').heap[k]? = w2.heap[k]? := fun k hk => by
    have : tb ≠ k := fun e => hk e.symm
    simp [World.setCell, Array.getElem?_modify, this]
  have hsz : (w2.setCell ⟨tb, 8, none⟩ vr').heap.size = w2.heap.size := by simp [World.setCell]
  have htb : w2.heap[tb]? = w.heap[tb]? := hOld tb h.lt fun e => (h.dr tb e).2 rfl
  have hvr' : ∀ k, vr'.ownBlock = some k → (vr.ownBlock = some k) ∨ w.heap.size ≤ k := fun k hk => by
    rcases hn with hn | hn
    · exact .inl (hn ▸ hk)
    · rw [hn] at hk; cases hk; exact .inr hs1
  have htlt := h.lt
  refine ⟨⟨row_setCell (htb.trans h.blk) vr', fun W hW => h.files W fun k hk => (hW k hk).trans ((hset k (fun e => h.kdis k hk (e ▸ h.dt))).trans (hOld k (h.klt k hk) (fun e => h.kdis k hk (h.dr k e).1))),
    h.adds.blocked fun g hg' => (hset g (h.da g hg').2).trans (hOld g (hlow g (h.da g hg').1).2 (fun e => h.dar g hg' e)), ho.blocked fun g hg' => hset g (fun e => ?_), .inl h.dt, fun k hk => ⟨.inl (h.da k hk).1, (h.da k hk).2⟩, fun k hk => ?_, fun k hk e => ?_, fun k hk => ?_, fun k hk hd => ?_, fun k hk => ?_⟩,
    ⟨hg.os.trans hb1.os, hg.tape.trans hb1.tape, hg.output.trans hb1.output, by rw [hsz]; omega, fun k hk hn' => (hset k (fun e => hn' (e ▸ h.dt))).trans (hOld k hk (fun e => hn' (h.dr k e).1))⟩⟩
  · subst e
    rcases hvr' _ hg' with h1 | h1
    · exact (h.dr _ h1).2 rfl
    · omega
  · rcases hvr' k hk with h1 | h1
    · exact ⟨.inl (h.dr k h1).1, (h.dr k h1).2⟩
    · exact ⟨.inr ⟨h1, hlt k hk⟩, by omega⟩
  · rcases hvr' k e with h1 | h1
    · exact h.dar k hk h1
    · have := (hlow k (h.da k hk).1).2; omega
  · rw [hsz]
    rcases hk with hk | hk
    · have := hlow k hk; exact ⟨this.1, by omega⟩
    · have := (hlow tb h.dt).1; exact ⟨by omega, hk.2⟩
  · rcases hd with hd | hd
    · exact h.kdis k hk hd
    · have := h.klt k hk; omega
  · have := h.klt k hk
    rw [hsz]; omega
end Go.Proofs.YtpfohfihkmjnaaaGreatDoor
