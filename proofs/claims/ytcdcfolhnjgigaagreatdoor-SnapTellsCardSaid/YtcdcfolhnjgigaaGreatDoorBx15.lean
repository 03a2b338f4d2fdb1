/- The document's answer on lists: ReadList: the walk. -/
import Derived.Test.YtcdcfolhnjgigaaGreatDoorBx14
namespace Go.Proofs.YtcdcfolhnjgigaaGreatDoor
open Go.RowKit

theorem Own.stays {α : Type} {enc : α → List Value} {sz : Nat} {w w' : World} {v : Value} {l : List α} {e : TypeId} {B : Nat} (hen : Enc enc sz) (h : Own enc e sz B w v l) (hw : ∀ p : Addr, B ≤ p.block → w'.cell? p = w.cell? p) : At enc sz w' v l := by
  rcases Nat.eq_zero_or_pos l.length with h0 | h0
  · obtain ⟨a, c, b, o, hv, ha, hc, hm, hx⟩ := h.at hen
    exact ⟨a, c, b, o, hv, ha, hc, hm, fun k x hk => absurd (List.getElem?_eq_some_iff.1 hk).1 (by omega)⟩
  · obtain ⟨g', cap, cur, rfl, hB, _, hc, hm, _, _⟩ := h.open h0
    refine ⟨_, cap, g', 0, rfl, fun _ => rfl, hc, hm, fun k x hk j u hu => ?_⟩
    have h1 := h.cells hen k x hk j u hu
    rw [Nat.zero_add]
    exact (hw ⟨g', k * sz + j, none⟩ hB).trans h1

theorem fault_tc {fn : Func} {u p : Tmp} (h : fn.results = #[.tmp u, .cell p 62]) {tmps : Array Value} {w : World} {g : Nat} {c q : Int} {v : Value} (hp : tmps.getD p undef = .pointer (some ⟨g, 0, none⟩)) (hg : w.heap[g]? = some (.cells #[.int .i64 c, .int .i64 q] 62 (0, 0))) (hv : tmps.getD u undef = v) :
    (results fn tmps).run Tryz.prog w = .ok (.tuple #[v, faultV c q]) w :=
  results_tmp_cell h tmps w g 62 #[.int .i64 c, .int .i64 q] (0, 0) _ hp hg Tryz.underlying62 rfl (by kernel_rfl) hv
set_option maxHeartbeats 2000000 in
set_option maxRecDepth 20000 in
theorem refReadList_any (s : Str) (w : World) (hs : s.length ≤ 10000) :
    Calls Tryz.prog 112 #[S s] w fun e w' => ∃ u, e = .returned (.tuple #[u, faultOf (listReadE s)]) ∧ FilesAt w' u (listReadL s) ∧ Below w.heap.size w w' := by
  have hR : listReadE s = linesE (cutAt 10 s) := rfl
  have hL : listReadL s = if listReadE s = .nil then readOf ((cutAt 10 s).take (manyL (cutAt 10 s))) else [] := rfl
  have hba : Below w.heap.size w (w.alloc (.cells #[.int .i64 0, .int .i64 0] 62)) := (Below.refl w.heap.size w).alloc (Nat.le_refl _) (.cells #[.int .i64 0, .int .i64 0] 62)
  have hG := fun W (h : Below (w.alloc (.cells #[.int .i64 0, .int .i64 0] 62)).heap.size (w.alloc (.cells #[.int .i64 0, .int .i64 0] 62)) W) => ((h.block w.heap.size (by simp)).trans (heap_alloc_new w (.cells #[.int .i64 0, .int .i64 0] 62)) : W.heap[w.heap.size]? = some (.cells #[.int .i64 0, .int .i64 0] 62 (0, 0)))
  have HG := Lib.hid hG; clear hG
  have HSz : Hid ((w.alloc (.cells #[.int .i64 0, .int .i64 0] 62)).heap.size = w.heap.size + 1) := Lib.hid (by simp)
  have hsp := cut10_any s (w.alloc (.cells #[.int .i64 0, .int .i64 0] 62)) (by omega)
  have hpos : 0 < (cutAt 10 s).length := by rw [cutAt_length]; omega
  have hcnt : (cutAt 10 s).length ≤ 10001 := by
    rw [cutAt_length]
    have h2 : s.count 10 ≤ s.length := List.count_le_length
    omega
  have hln : ∀ x ∈ cutAt 10 s, x.length ≤ 10000 := fun p hp => by
    have := cutAt_mem_len (c := 10) hp; omega
  generalize cutAt 10 s = ls at *
  obtain ⟨n, hn⟩ : ∃ n, ls.length = n := ⟨_, rfl⟩
  rw [hn] at hpos hcnt
  obtain ⟨lst, hlst⟩ := get_ex (l := ls) (k := n - 1) (by omega)
  have hmg := manyL_ge ls
  have hmn := fun (h : lst = []) => manyL_nil (ls := ls) (by rw [hn, hlst, h])
  have hme := fun (h : lst ≠ []) => manyL_ne (ls := ls) (by rw [hn]; exact hlst) h
  rw [hn] at hmg hmn hme
  have HR := Lib.hid hR; have HL := Lib.hid hL; have HLn := Lib.hid hln
  have HN := Lib.hid hn; have HLst := Lib.hid hlst
  clear hR hL hln hn hlst
  obtain ⟨ml, hml⟩ : ∃ ml, manyL ls = ml := ⟨_, rfl⟩
  rw [hml] at hmg hmn hme
  have HML := Lib.hid hml; clear hml
  have hj0 : (0 : Int) ≤ (n : Int) - 1 := by omega
  have hj1 : (n : Int) - 1 < (n : Int) := by omega
  have hways : (lst = [] ∧ ml = n - 1 ∧ (ml : Int) = (n : Int) - 1) ∨ (lst ≠ [] ∧ ml = n) := by
    by_cases h : lst = []
    · exact .inl ⟨h, hmn h, by have := hmn h; omega⟩
    · exact .inr ⟨h, hme h⟩
  clear hmn hme
  go_enter Tryz.func112, Tryz.ntmps112
  go_wp2_with fail
  generalize (w.alloc (.cells #[.int .i64 0, .int .i64 0] 62)) = w0 at *
  refine hsp.mono ?_
  rintro e w1 ⟨v1, rfl, hown, hb1⟩
  have hbw1 := hba.trans (hb1.mono hba.size)
  clear hsp
  obtain ⟨g1, c1, cur, rfl, hgB, -, hc1, hcm1, -, -⟩ := hown.open (by rw [HN.out]; exact hpos)
  rw [HN.out] at hown hc1 ⊢
  have hx := hown.cells1 (f := S) encS_enc (fun _ => rfl)
  have HX := Lib.hid hx; clear hx hown
  have ix := fun (k : Nat) (hk : k < n) => idx_at (P := Tryz.prog) (c := c1) (o := 0) (b := g1) 1 Tryz.underlying115 szStr (fun _ => rfl) k hk
  simp only [Nat.mul_one, Nat.zero_add] at ix
  have IX := Lib.hid ix; clear ix
  have iL := IX.out (n - 1) (by omega)
  have hcast : ((n - 1 : Nat) : Int) = (n : Int) - 1 := by omega
  simp only [hcast] at iL
  clear hcast
  have cL := HX.out _ _ HLst.out
  have hm60 : (60 < ml ∧ (60 : Int) < (ml : Int)) ∨ (¬ 60 < ml ∧ decide ((60 : Int) < (ml : Int)) = false) := by
    by_cases h : 60 < ml
    · exact .inl ⟨h, by omega⟩
    · exact .inr ⟨h, by simp; omega⟩
  have HF8 : Hid (60 < ml → listReadE s = .bare 8) := Lib.hid (fun h => by rw [HR.out]; exact linesE_full (by rw [HML.out]; exact h))
  have HF0 : Hid (¬ 60 < ml → listReadE s = firstErr (lineFault ls) ml) := Lib.hid (fun h => by rw [HR.out, linesE_few (by rw [HML.out]; exact h), HML.out])
  have HWays := Lib.hid hways
  have hml1 := hmg.1; have hml2 := hmg.2
  clear hmg
  rcases hways with ⟨rfl, -, he⟩ | ⟨hne, he⟩
  · have gl : ([] : Str).isEmpty = true := rfl
    simp only [he] at hm60
    rcases hm60 with ⟨h60, g60⟩ | ⟨h60, g60⟩
    · have HE0 : Hid (listReadE s = .bare 8) := Lib.hid (HF8.out h60)
      have HL0 : Hid (listReadL s = []) := Lib.hid (by rw [HL.out, HE0.out]; rfl)
      clear h60
      go_wp2_with fail
      refine (refBare_any 8 _).mono ?_
      rintro e w3 ⟨rfl, hb3⟩
      have hb03 := hb1.trans (hb3.mono hb1.size)
      have hbw3 := hbw1.trans (hb3.mono hbw1.size)
      have hg := HG.out _ (hb03)
      have c0' : w3.cell? ⟨w.heap.size, 0, none⟩ = some (.int .i64 0) := by simp [World.cell?, hg]
      have c1' : w3.cell? ⟨w.heap.size, 1, none⟩ = some (.int .i64 0) := by simp [World.cell?, hg]
      have f0' : w3.frozen? ⟨w.heap.size, 0, none⟩ = false := by simp [World.frozen?, hg]
      have f1' : w3.frozen? ⟨w.heap.size, 1, none⟩ = false := by simp [World.frozen?, hg]
      have HGg := Lib.hid hg; clear hg
      unfold faultV
      go_wp2_with fail
      refine bodyPost_ret (fault_tc (g := w.heap.size) rfl rfl (set_two HGg.out _ _) rfl) rfl ⟨_, by rw [HE0.out]; rfl, ?_, ((hbw3).setCell (by simp) _).setCell (by simp) _⟩
      rw [HL0.out]; exact At.nil _ _ _
    have HF := Lib.hid (HF0.out h60)
    have h60' : ml ≤ 60 := by omega
    clear h60
    go_wp2_with fail
    clear cL iL
    go_loopw [6, 7] (fun out i wr => ∃ k : Nat, k ≤ ml ∧ i = .int .i64 k ∧ Hid (∀ j < k, lineFault ls j = 0) ∧ Own encF 69 6 w1.heap.size wr out (readOf (ls.take k)) ∧ Below w1.heap.size w1 wr) (fun _ i _ => n - (intOf i).toNat)
    case atStart => exact ⟨0, by omega, rfl, Lib.hid fun j hj => absurd hj (by omega), Own.nil _ _ _ _ _, Below.refl _ _⟩
    case round =>
      obtain ⟨k, hk, rfl, hj, ho, hb⟩ := hrel
      have hb0r := hb1.trans (hb.mono hb1.size)
      have hbw := hbw1.trans (hb.mono hbw1.size)
      by_cases hlt : k < ml
      case neg =>
        obtain rfl : k = ml := by omega
        have HE0 : Hid (listReadE s = .nil) := Lib.hid (by rw [HF.out]; exact firstErr_all hj.out)
        have HL0 : Hid (listReadL s = readOf (ls.take k)) := Lib.hid (by rw [HL.out, if_pos HE0.out, HML.out])
        have ft : decide ((k : Int) < (n : Int) - 1) = false := by simp; omega
        go_wp2_with fail
        refine (refFine_any _).mono ?_
        rintro e w3 ⟨rfl, hb3⟩
        have hb03 := hb0r.trans (hb3.mono hb0r.size)
        have hbw3 := hbw.trans (hb3.mono hbw.size)
        have ho3 := ho.below hb3
        have hg := HG.out _ (hb03)
        have c0' : w3.cell? ⟨w.heap.size, 0, none⟩ = some (.int .i64 0) := by simp [World.cell?, hg]
        have c1' : w3.cell? ⟨w.heap.size, 1, none⟩ = some (.int .i64 0) := by simp [World.cell?, hg]
        have f0' : w3.frozen? ⟨w.heap.size, 0, none⟩ = false := by simp [World.frozen?, hg]
        have f1' : w3.frozen? ⟨w.heap.size, 1, none⟩ = false := by simp [World.frozen?, hg]
        have HGg := Lib.hid hg; clear hg
        unfold faultV
        go_wp2_with fail
        refine bodyPost_ret (fault_tc (g := w.heap.size) rfl rfl (set_two HGg.out _ _) rfl) rfl ⟨_, by rw [HE0.out]; rfl, ?_, ((hbw3).setCell (by simp) _).setCell (by simp) _⟩
        rw [HL0.out]; exact Own.stays encF_enc ho3 fun p hp => by
                  have h1 := hb1.size
                  have h2 := (Array.getElem?_eq_some_iff.1 HGg.out).1
                  have h4 := hba.size
                  have h5 := HSz.out
                  rw [World.cell?_setCell_other _ _ _ _ (fun e => by rw [← e] at hp; exact absurd hp (by show ¬ (w1.heap.size ≤ w.heap.size); omega)), World.cell?_setCell_other _ _ _ _ (fun e => by rw [← e] at hp; exact absurd hp (by show ¬ (w1.heap.size ≤ w.heap.size); omega))]
      obtain ⟨x, hxk⟩ := get_ex (l := ls) (k := k) (by rw [HN.out]; omega)
      have c1x := HX.out k x hxk
      have c1x := (hb.cell (World.block_lt_of_cell? w1 _ c1x)).trans c1x
      have i1 := IX.out k (by omega)
      have hk1 : (k : Int) < (n : Int) := by omega
      have hk1' : (k : Int) < (n : Int) - 1 := by omega
      have hxl := HLn.out x (List.mem_of_getElem? hxk)
      have Hxk := Lib.hid hxk; clear hxk
      have hRd := refReadFile_any x wr hxl
      have HRd := Lib.hid hRd; clear hRd
      have gk : ((k : Int) == (n : Int) - 1) = false := by simp; omega
      have hkn : ¬ k + 1 = ls.length := by rw [HN.out]; omega
      have hkl : k < ml := by omega
      have hkn1 : k + 1 ≤ ml := by omega
      have HKN := Lib.hid hkn
      clear hkn hxl
      by_cases hck : (fileRead x).2 = 0
      case neg =>
        have hf := lineFault_bad Hxk.out HKN.out hck
        have HE0 : Hid (listReadE s = .loc (fileRead x).2 k) := Lib.hid (by rw [HF.out, ← hf]; exact firstErr_hit hkl hj.out (by rw [hf]; exact hck))
        have HL0 : Hid (listReadL s = []) := Lib.hid (by rw [HL.out, HE0.out]; rfl)
        have ge1 : ((((fileRead x).2 : Nat) : Int) == 0) = false := by simpa using hck
        have ge2 : (0 : Int) < (((fileRead x).2 : Nat) : Int) := by omega
        clear hf hck
        generalize fileRead x = fx at *
        obtain ⟨ce, hce⟩ : ∃ ce, fx.2 = ce := ⟨_, rfl⟩
        rw [hce] at HE0 ge1 ge2 HRd
        clear hce
        go_wp2_with fail
        refine HRd.out.mono ?_
        rintro e w2 ⟨rfl, hb2⟩
        have hb2a : Below w2.heap.size w2 (w2.alloc (.cells #[S fx.1.path, S fx.1.part, .int .i64 fx.1.n, .int .i64 fx.1.lo, .int .i64 fx.1.hi, .int .i64 fx.1.seq] 69)) := (Below.refl _ _).alloc (Nat.le_refl _) _
        have hb02 := hb0r.trans ((hb2.trans (hb2a.mono hb2.size)).mono hb0r.size)
        have hbw2 := hbw.trans ((hb2.trans (hb2a.mono hb2.size)).mono hbw.size)
        have hg := HG.out _ (hb02)
        have c0' : (w2.alloc (.cells #[S fx.1.path, S fx.1.part, .int .i64 fx.1.n, .int .i64 fx.1.lo, .int .i64 fx.1.hi, .int .i64 fx.1.seq] 69)).cell? ⟨w.heap.size, 0, none⟩ = some (.int .i64 0) := by simp [World.cell?, hg]
        have c1' : (w2.alloc (.cells #[S fx.1.path, S fx.1.part, .int .i64 fx.1.n, .int .i64 fx.1.lo, .int .i64 fx.1.hi, .int .i64 fx.1.seq] 69)).cell? ⟨w.heap.size, 1, none⟩ = some (.int .i64 0) := by simp [World.cell?, hg]
        have f0' : (w2.alloc (.cells #[S fx.1.path, S fx.1.part, .int .i64 fx.1.n, .int .i64 fx.1.lo, .int .i64 fx.1.hi, .int .i64 fx.1.seq] 69)).frozen? ⟨w.heap.size, 0, none⟩ = false := by simp [World.frozen?, hg]
        have f1' : (w2.alloc (.cells #[S fx.1.path, S fx.1.part, .int .i64 fx.1.n, .int .i64 fx.1.lo, .int .i64 fx.1.hi, .int .i64 fx.1.seq] 69)).frozen? ⟨w.heap.size, 1, none⟩ = false := by simp [World.frozen?, hg]
        have HGg := Lib.hid hg; clear hg
        go_wp2_with fail
        refine bodyPost_ret (fault_tc (g := w.heap.size) rfl rfl (set_two HGg.out _ _) rfl) rfl ⟨_, by rw [HE0.out]; rfl, ?_, ((hbw2).setCell (by simp) _).setCell (by simp) _⟩
        rw [HL0.out]; exact At.nil _ _ _
      have HK := Lib.hid hck
      rw [hck] at HRd
      clear hck
      have hsn := readOf_snoc Hxk.out
      have hql : (readOf (ls.take k)).length = k := by unfold readOf; rw [List.length_map, List.length_take, HN.out]; omega
      have hfk : (k = 0 ∧ lineFault ls k = 0) ∨ (0 < k) := by
        rcases Nat.eq_zero_or_pos k with h | h
        · left; refine ⟨h, ?_⟩; subst h; exact lineFault_zero Hxk.out (by have := HKN.out; omega) HK.out
        · exact .inr h
      have hy : 0 < k → ∃ y, ls[k - 1]? = some y ∧ (readOf (ls.take k))[k - 1]? = some (fileRead y).1 := fun h => by
        obtain ⟨y, hy⟩ := get_ex (l := ls) (k := k - 1) (by rw [HN.out]; omega)
        exact ⟨y, hy, readOf_at hy (by omega)⟩
      have hyl := fun y (hy : ls[k - 1]? = some y) => HLn.out y (List.mem_of_getElem? hy)
      have HYL := Lib.hid hyl; clear hyl
      have hq60 : k ≤ 60 := by omega
      generalize readOf (ls.take k) = q at *
      have HQl := Lib.hid hql; have HSn := Lib.hid hsn
      clear hql hsn
      rcases hfk with ⟨h0, hf⟩ | hk0
      · have gk0 : decide (0 < k) = false := by simp [h0]
        have Hf := Lib.hid hf; have H0 := Lib.hid h0
        clear hf h0 hy HYL
        generalize fileRead x = fx at *
        go_wp2_with fail
        refine HRd.out.mono ?_
        rintro e w2 ⟨rfl, hb2⟩
        have hb2' := hb.trans (hb2.mono hb.size)
        have ho2 := ho.below hb2
        have hb3 : Below w1.heap.size w1 (w2.alloc (.cells #[S fx.1.path, S fx.1.part, .int .i64 fx.1.n, .int .i64 fx.1.lo, .int .i64 fx.1.hi, .int .i64 fx.1.seq] 69)) := hb2'.alloc hb2'.size _
        have ho3 := ho2.alloc (.cells #[S fx.1.path, S fx.1.part, .int .i64 fx.1.n, .int .i64 fx.1.lo, .int .i64 fx.1.hi, .int .i64 fx.1.seq] 69)
        obtain ⟨e0, e1, e2, e3, e4, e5⟩ := fileCells (f := fx.1) (w := w2) rfl (Below.refl (w2.alloc (.cells #[S fx.1.path, S fx.1.part, .int .i64 fx.1.n, .int .i64 fx.1.lo, .int .i64 fx.1.hi, .int .i64 fx.1.seq] 69)).heap.size (w2.alloc (.cells #[S fx.1.path, S fx.1.part, .int .i64 fx.1.n, .int .i64 fx.1.lo, .int .i64 fx.1.hi, .int .i64 fx.1.seq] 69)))
        clear HRd ho ho2
        go_wp2_with (at_builtin; go_loud (refine wpList_app rfl _ _ _ rfl w1.heap.size elFl _ q.length _ rfl (ho3.alloc _) (.slice (some ⟨w2.heap.size + 1, 0, none⟩) 1 1) 1 (encF fx.1) rfl (src_one (by simp) rfl (by simp [Value.oneCell'])) (by rw [HQl.out]; unfold maxLen; omega) (by rw [HQl.out]; omega) (by have := hb3.size; simp at this ⊢; omega) ?_); intro v' w4 hown hg _)
        go_roundw
        case rel => exact ⟨k + 1, by omega, by go_num, (Lib.hid fun j hj' => by
          obtain rfl : j = k := by have := H0.out; omega
          exact Hf.out), by rw [HSn.out]; exact Own.snoc hown, Bapp (hb3.alloc hb3.size _) (ho3.alloc _) hg (Nat.le_refl _) (by have := hb3.size; simp at this ⊢; omega)⟩
        case measure => simp [intOf]; omega
      obtain ⟨y, hyk, hqk⟩ := hy hk0
      have hyl := fileRead_len (HYL.out y hyk)
      have hxl' := fileRead_len (HLn.out x (List.mem_of_getElem? Hxk.out))
      clear hy HYL
      have gk0 : decide (0 < k) = true := decide_eq_true hk0
      have hk01 : (1 : Int) ≤ k := by omega
      have hk02 : (0 : Int) ≤ (k : Int) - 1 := by omega
      have hk03 : (k : Int) - 1 < (k : Int) := by omega
      have hwk : IntKind.i64.wrap ((k : Int) - 1) = (k : Int) - 1 := by rw [IntKind.wrap_i64]; omega
      obtain ⟨g2', cap, cur2, rfl, hBg, _, hcap, hmx, _, _⟩ := ho.open (by rw [HQl.out]; omega)
      rw [HQl.out] at ho hcap ⊢
      have i2 := idx_at (c := cap) (o := 0) (b := g2') (n := k) 6 Tryz.underlying56 szFl (fun _ => rfl) (k - 1) (by omega)
      have hcast : ((k - 1 : Nat) : Int) = (k : Int) - 1 := by omega
      simp only [hcast, Nat.zero_add] at i2
      have d0 := ho.cells encF_enc (k - 1) _ hqk 0 _ rfl
      have hfo := fun h => lineFault_ord Hxk.out HKN.out HK.out hk0 hyk h
      have hff := fun h => lineFault_fine Hxk.out HKN.out HK.out hyk h
      have HOrd := Lib.hid hfo; have HFF := Lib.hid hff
      clear hfo hff hcast hyk hqk
      generalize fileRead x = fx at *
      generalize fileRead y = fy at *
      go_wp2_with fail
      refine HRd.out.mono ?_
      rintro e w2 ⟨rfl, hb2⟩
      have hb2' := hb.trans (hb2.mono hb.size)
      have ho2 := ho.below hb2
      have d0 := (hb2.cell (World.block_lt_of_cell? wr _ d0)).trans d0
      have hb3 : Below w1.heap.size w1 (w2.alloc (.cells #[S fx.1.path, S fx.1.part, .int .i64 fx.1.n, .int .i64 fx.1.lo, .int .i64 fx.1.hi, .int .i64 fx.1.seq] 69)) := hb2'.alloc hb2'.size _
      have hb2a : Below w2.heap.size w2 (w2.alloc (.cells #[S fx.1.path, S fx.1.part, .int .i64 fx.1.n, .int .i64 fx.1.lo, .int .i64 fx.1.hi, .int .i64 fx.1.seq] 69)) := (Below.refl _ _).alloc (Nat.le_refl _) _
      have d0 := (hb2a.cell (World.block_lt_of_cell? w2 _ d0)).trans d0
      have ho3 := ho2.alloc (.cells #[S fx.1.path, S fx.1.part, .int .i64 fx.1.n, .int .i64 fx.1.lo, .int .i64 fx.1.hi, .int .i64 fx.1.seq] 69)
      obtain ⟨e0, e1, e2, e3, e4, e5⟩ := fileCells (f := fx.1) (w := w2) rfl (Below.refl (w2.alloc (.cells #[S fx.1.path, S fx.1.part, .int .i64 fx.1.n, .int .i64 fx.1.lo, .int .i64 fx.1.hi, .int .i64 fx.1.seq] 69)).heap.size (w2.alloc (.cells #[S fx.1.path, S fx.1.part, .int .i64 fx.1.n, .int .i64 fx.1.lo, .int .i64 fx.1.hi, .int .i64 fx.1.seq] 69)))
      clear HRd ho ho2 c1x hbw
      go_wp2_with fail
      generalize (w2.alloc (.cells #[S fx.1.path, S fx.1.part, .int .i64 fx.1.n, .int .i64 fx.1.lo, .int .i64 fx.1.hi, .int .i64 fx.1.seq] 69)) = w3 at *
      have hC := fun W => isBehind_any fx.1.path fy.1.path W (by have := hxl'.1; omega) (by have := hyl.1; omega)
      obtain ⟨cv, hcv⟩ : ∃ cv, cmpP fx.1.path fy.1.path = cv := ⟨_, rfl⟩
      rw [hcv] at hC HOrd HFF
      clear hcv
      by_cases hle : cv ≤ 0
      · have hf := HOrd.out hle
        have HE0 : Hid (listReadE s = .loc 9 k) := Lib.hid (by rw [HF.out, ← hf]; exact firstErr_hit hkl hj.out (by rw [hf]; decide))
        have HL0 : Hid (listReadL s = []) := Lib.hid (by rw [HL.out, HE0.out]; rfl)
        have hcc : decide (0 < cv) = false := by simp; omega
        simp only [hcc] at hC
        have HC := Lib.hid hC
        clear hC hf hle hcc
        go_region_held3 (fun w' => w'.cell? ⟨w2.heap.size, 0, none⟩ = some (S fx.1.path) ∧ w'.cell? ⟨g2', (k - 1) * 6, none⟩ = some (S fy.1.path)) (exact ⟨e0, d0⟩) (first | (go_at_call 146; (with_reducible refine (HC.out _).mono ?_); rintro e w5 ⟨rfl, rfl⟩))
        have hb03 := hb1.trans (hb3.mono hb1.size)
        have hbw3 := hbw1.trans (hb3.mono hbw1.size)
        have hg := HG.out _ (hb03)
        have c0' : w3.cell? ⟨w.heap.size, 0, none⟩ = some (.int .i64 0) := by simp [World.cell?, hg]
        have c1' : w3.cell? ⟨w.heap.size, 1, none⟩ = some (.int .i64 0) := by simp [World.cell?, hg]
        have f0' : w3.frozen? ⟨w.heap.size, 0, none⟩ = false := by simp [World.frozen?, hg]
        have f1' : w3.frozen? ⟨w.heap.size, 1, none⟩ = false := by simp [World.frozen?, hg]
        have HGg := Lib.hid hg; clear hg
        go_wp2_with fail
        refine bodyPost_ret (fault_tc (g := w.heap.size) rfl rfl (set_two (w := w3.drew) HGg.out _ _) rfl) rfl ⟨_, by rw [HE0.out]; rfl, ?_, ((hbw3.drew).setCell (by simp) _).setCell (by simp) _⟩
        rw [HL0.out]; exact At.nil _ _ _
      · have hf := HFF.out (by omega)
        have Hf := Lib.hid hf
        have hcc : decide (0 < cv) = true := by simp; omega
        simp only [hcc] at hC
        have HC := Lib.hid hC
        clear hC hf hle hcc
        go_region_held3 (fun w' => w'.cell? ⟨w2.heap.size, 0, none⟩ = some (S fx.1.path) ∧ w'.cell? ⟨g2', (k - 1) * 6, none⟩ = some (S fy.1.path)) (exact ⟨e0, d0⟩) (first | (go_at_call 146; (with_reducible refine (HC.out _).mono ?_); rintro e w5 ⟨rfl, rfl⟩))
        have hb3 := hb3.drew
        have ho3 := ho3.below (Below.refl w3.heap.size w3).drew
        go_wp2_with (at_builtin; refine wpList_app rfl _ _ _ rfl w1.heap.size elFl _ q.length _ rfl (ho3.alloc _) (.slice (some ⟨w3.drew.heap.size, 0, none⟩) 1 1) 1 (encF fx.1) rfl (src_one rfl rfl (by simp [Value.oneCell'])) (by rw [HQl.out]; unfold maxLen; omega) (by rw [HQl.out]; omega) (by have := hb3.size; simp at this ⊢; omega) ?_; intro v' w4 hown hg _)
        go_roundw
        case rel => exact ⟨k + 1, by omega, by go_num, (Lib.hid fun j hj' => by
          rcases Nat.lt_or_ge j k with h | h
          · exact hj.out j h
          · obtain rfl : j = k := by omega
            exact Hf.out), by rw [HSn.out]; exact Own.snoc hown, Bapp (hb3.alloc hb3.size _) (ho3.alloc _) hg (Nat.le_refl _) (by have := hb3.size; simp at this ⊢; omega)⟩
        case measure => simp [intOf]; omega
  · have gl : lst.isEmpty = false := by simpa using hne
    have he' : n = ml := he.symm
    subst he'
    clear hne he
    rcases hm60 with ⟨h60, g60⟩ | ⟨h60, g60⟩
    · have HE0 : Hid (listReadE s = .bare 8) := Lib.hid (HF8.out h60)
      have HL0 : Hid (listReadL s = []) := Lib.hid (by rw [HL.out, HE0.out]; rfl)
      clear h60
      go_wp2_with fail
      refine (refBare_any 8 _).mono ?_
      rintro e w3 ⟨rfl, hb3⟩
      have hb03 := hb1.trans (hb3.mono hb1.size)
      have hbw3 := hbw1.trans (hb3.mono hbw1.size)
      have hg := HG.out _ (hb03)
      have c0' : w3.cell? ⟨w.heap.size, 0, none⟩ = some (.int .i64 0) := by simp [World.cell?, hg]
      have c1' : w3.cell? ⟨w.heap.size, 1, none⟩ = some (.int .i64 0) := by simp [World.cell?, hg]
      have f0' : w3.frozen? ⟨w.heap.size, 0, none⟩ = false := by simp [World.frozen?, hg]
      have f1' : w3.frozen? ⟨w.heap.size, 1, none⟩ = false := by simp [World.frozen?, hg]
      have HGg := Lib.hid hg; clear hg
      unfold faultV
      go_wp2_with fail
      refine bodyPost_ret (fault_tc (g := w.heap.size) rfl rfl (set_two HGg.out _ _) rfl) rfl ⟨_, by rw [HE0.out]; rfl, ?_, ((hbw3).setCell (by simp) _).setCell (by simp) _⟩
      rw [HL0.out]; exact At.nil _ _ _
    have HF := Lib.hid (HF0.out h60)
    have h60' : n ≤ 60 := by omega
    clear h60
    go_wp2_with fail
    clear cL iL
    go_loopw [6, 7] (fun out i wr => ∃ k : Nat, k ≤ n ∧ i = .int .i64 k ∧ Hid (∀ j < k, lineFault ls j = 0) ∧ Own encF 69 6 w1.heap.size wr out (readOf (ls.take k)) ∧ Below w1.heap.size w1 wr) (fun _ i _ => n - (intOf i).toNat)
    case atStart => exact ⟨0, by omega, rfl, Lib.hid fun j hj => absurd hj (by omega), Own.nil _ _ _ _ _, Below.refl _ _⟩
    case round =>
      obtain ⟨k, hk, rfl, hj, ho, hb⟩ := hrel
      have hb0r := hb1.trans (hb.mono hb1.size)
      have hbw := hbw1.trans (hb.mono hbw1.size)
      by_cases hlt : k < n
      case neg =>
        obtain rfl : k = n := by omega
        have HE0 : Hid (listReadE s = .nil) := Lib.hid (by rw [HF.out]; exact firstErr_all hj.out)
        have HL0 : Hid (listReadL s = readOf (ls.take k)) := Lib.hid (by rw [HL.out, if_pos HE0.out, HML.out])
        have ft : decide (k < k) = false := by simp
        go_wp2_with fail
        refine (refFine_any _).mono ?_
        rintro e w3 ⟨rfl, hb3⟩
        have hb03 := hb0r.trans (hb3.mono hb0r.size)
        have hbw3 := hbw.trans (hb3.mono hbw.size)
        have ho3 := ho.below hb3
        have hg := HG.out _ (hb03)
        have c0' : w3.cell? ⟨w.heap.size, 0, none⟩ = some (.int .i64 0) := by simp [World.cell?, hg]
        have c1' : w3.cell? ⟨w.heap.size, 1, none⟩ = some (.int .i64 0) := by simp [World.cell?, hg]
        have f0' : w3.frozen? ⟨w.heap.size, 0, none⟩ = false := by simp [World.frozen?, hg]
        have f1' : w3.frozen? ⟨w.heap.size, 1, none⟩ = false := by simp [World.frozen?, hg]
        have HGg := Lib.hid hg; clear hg
        unfold faultV
        go_wp2_with fail
        refine bodyPost_ret (fault_tc (g := w.heap.size) rfl rfl (set_two HGg.out _ _) rfl) rfl ⟨_, by rw [HE0.out]; rfl, ?_, ((hbw3).setCell (by simp) _).setCell (by simp) _⟩
        rw [HL0.out]; exact Own.stays encF_enc ho3 fun p hp => by
                  have h1 := hb1.size
                  have h2 := (Array.getElem?_eq_some_iff.1 HGg.out).1
                  have h4 := hba.size
                  have h5 := HSz.out
                  rw [World.cell?_setCell_other _ _ _ _ (fun e => by rw [← e] at hp; exact absurd hp (by show ¬ (w1.heap.size ≤ w.heap.size); omega)), World.cell?_setCell_other _ _ _ _ (fun e => by rw [← e] at hp; exact absurd hp (by show ¬ (w1.heap.size ≤ w.heap.size); omega))]
      obtain ⟨x, hxk⟩ := get_ex (l := ls) (k := k) (by rw [HN.out]; omega)
      have c1x := HX.out k x hxk
      have c1x := (hb.cell (World.block_lt_of_cell? w1 _ c1x)).trans c1x
      have i1 := IX.out k (by omega)
      have hk1 : (k : Int) < (n : Int) := by omega
      have hk1' : (k : Int) < (n : Int) := by omega
      have hxl := HLn.out x (List.mem_of_getElem? hxk)
      have Hxk := Lib.hid hxk; clear hxk
      have hRd := refReadFile_any x wr hxl
      have HRd := Lib.hid hRd; clear hRd
      by_cases hlast : k = n - 1
      · have gk : ((k : Int) == (n : Int) - 1) = true := by simp; omega
        have hf := lineFault_last Hxk.out (by rw [HN.out]; omega)
        have HE0 : Hid (listReadE s = .loc 1 k) := Lib.hid (by rw [HF.out, ← hf]; exact firstErr_hit (by omega) hj.out (by rw [hf]; decide))
        have HL0 : Hid (listReadL s = []) := Lib.hid (by rw [HL.out, HE0.out]; rfl)
        clear hlast hf
        have hg := HG.out _ (hb0r)
        have c0' : wr.cell? ⟨w.heap.size, 0, none⟩ = some (.int .i64 0) := by simp [World.cell?, hg]
        have c1' : wr.cell? ⟨w.heap.size, 1, none⟩ = some (.int .i64 0) := by simp [World.cell?, hg]
        have f0' : wr.frozen? ⟨w.heap.size, 0, none⟩ = false := by simp [World.frozen?, hg]
        have f1' : wr.frozen? ⟨w.heap.size, 1, none⟩ = false := by simp [World.frozen?, hg]
        have HGg := Lib.hid hg; clear hg
        go_wp2_with fail
        refine bodyPost_ret (fault_tc (g := w.heap.size) rfl rfl (set_two HGg.out _ _) rfl) rfl ⟨_, by rw [HE0.out]; rfl, ?_, ((hbw).setCell (by simp) _).setCell (by simp) _⟩
        rw [HL0.out]; exact At.nil _ _ _
      have gk : ((k : Int) == (n : Int) - 1) = false := by simp; omega
      have hkn : ¬ k + 1 = ls.length := by rw [HN.out]; omega
      have hkl : k < n := by omega
      have hkn1 : k + 1 ≤ n := by omega
      have HKN := Lib.hid hkn
      clear hkn hxl hlast
      by_cases hck : (fileRead x).2 = 0
      case neg =>
        have hf := lineFault_bad Hxk.out HKN.out hck
        have HE0 : Hid (listReadE s = .loc (fileRead x).2 k) := Lib.hid (by rw [HF.out, ← hf]; exact firstErr_hit hkl hj.out (by rw [hf]; exact hck))
        have HL0 : Hid (listReadL s = []) := Lib.hid (by rw [HL.out, HE0.out]; rfl)
        have ge1 : ((((fileRead x).2 : Nat) : Int) == 0) = false := by simpa using hck
        have ge2 : (0 : Int) < (((fileRead x).2 : Nat) : Int) := by omega
        clear hf hck
        generalize fileRead x = fx at *
        obtain ⟨ce, hce⟩ : ∃ ce, fx.2 = ce := ⟨_, rfl⟩
        rw [hce] at HE0 ge1 ge2 HRd
        clear hce
        go_wp2_with fail
        refine HRd.out.mono ?_
        rintro e w2 ⟨rfl, hb2⟩
        have hb2a : Below w2.heap.size w2 (w2.alloc (.cells #[S fx.1.path, S fx.1.part, .int .i64 fx.1.n, .int .i64 fx.1.lo, .int .i64 fx.1.hi, .int .i64 fx.1.seq] 69)) := (Below.refl _ _).alloc (Nat.le_refl _) _
        have hb02 := hb0r.trans ((hb2.trans (hb2a.mono hb2.size)).mono hb0r.size)
        have hbw2 := hbw.trans ((hb2.trans (hb2a.mono hb2.size)).mono hbw.size)
        have hg := HG.out _ (hb02)
        have c0' : (w2.alloc (.cells #[S fx.1.path, S fx.1.part, .int .i64 fx.1.n, .int .i64 fx.1.lo, .int .i64 fx.1.hi, .int .i64 fx.1.seq] 69)).cell? ⟨w.heap.size, 0, none⟩ = some (.int .i64 0) := by simp [World.cell?, hg]
        have c1' : (w2.alloc (.cells #[S fx.1.path, S fx.1.part, .int .i64 fx.1.n, .int .i64 fx.1.lo, .int .i64 fx.1.hi, .int .i64 fx.1.seq] 69)).cell? ⟨w.heap.size, 1, none⟩ = some (.int .i64 0) := by simp [World.cell?, hg]
        have f0' : (w2.alloc (.cells #[S fx.1.path, S fx.1.part, .int .i64 fx.1.n, .int .i64 fx.1.lo, .int .i64 fx.1.hi, .int .i64 fx.1.seq] 69)).frozen? ⟨w.heap.size, 0, none⟩ = false := by simp [World.frozen?, hg]
        have f1' : (w2.alloc (.cells #[S fx.1.path, S fx.1.part, .int .i64 fx.1.n, .int .i64 fx.1.lo, .int .i64 fx.1.hi, .int .i64 fx.1.seq] 69)).frozen? ⟨w.heap.size, 1, none⟩ = false := by simp [World.frozen?, hg]
        have HGg := Lib.hid hg; clear hg
        go_wp2_with fail
        refine bodyPost_ret (fault_tc (g := w.heap.size) rfl rfl (set_two HGg.out _ _) rfl) rfl ⟨_, by rw [HE0.out]; rfl, ?_, ((hbw2).setCell (by simp) _).setCell (by simp) _⟩
        rw [HL0.out]; exact At.nil _ _ _
      have HK := Lib.hid hck
      rw [hck] at HRd
      clear hck
      have hsn := readOf_snoc Hxk.out
      have hql : (readOf (ls.take k)).length = k := by unfold readOf; rw [List.length_map, List.length_take, HN.out]; omega
      have hfk : (k = 0 ∧ lineFault ls k = 0) ∨ (0 < k) := by
        rcases Nat.eq_zero_or_pos k with h | h
        · left; refine ⟨h, ?_⟩; subst h; exact lineFault_zero Hxk.out (by have := HKN.out; omega) HK.out
        · exact .inr h
      have hy : 0 < k → ∃ y, ls[k - 1]? = some y ∧ (readOf (ls.take k))[k - 1]? = some (fileRead y).1 := fun h => by
        obtain ⟨y, hy⟩ := get_ex (l := ls) (k := k - 1) (by rw [HN.out]; omega)
        exact ⟨y, hy, readOf_at hy (by omega)⟩
      have hyl := fun y (hy : ls[k - 1]? = some y) => HLn.out y (List.mem_of_getElem? hy)
      have HYL := Lib.hid hyl; clear hyl
      have hq60 : k ≤ 60 := by omega
      generalize readOf (ls.take k) = q at *
      have HQl := Lib.hid hql; have HSn := Lib.hid hsn
      clear hql hsn
      rcases hfk with ⟨h0, hf⟩ | hk0
      · have gk0 : decide (0 < k) = false := by simp [h0]
        have Hf := Lib.hid hf; have H0 := Lib.hid h0
        clear hf h0 hy HYL
        generalize fileRead x = fx at *
        go_wp2_with fail
        refine HRd.out.mono ?_
        rintro e w2 ⟨rfl, hb2⟩
        have hb2' := hb.trans (hb2.mono hb.size)
        have ho2 := ho.below hb2
        have hb3 : Below w1.heap.size w1 (w2.alloc (.cells #[S fx.1.path, S fx.1.part, .int .i64 fx.1.n, .int .i64 fx.1.lo, .int .i64 fx.1.hi, .int .i64 fx.1.seq] 69)) := hb2'.alloc hb2'.size _
        have ho3 := ho2.alloc (.cells #[S fx.1.path, S fx.1.part, .int .i64 fx.1.n, .int .i64 fx.1.lo, .int .i64 fx.1.hi, .int .i64 fx.1.seq] 69)
        obtain ⟨e0, e1, e2, e3, e4, e5⟩ := fileCells (f := fx.1) (w := w2) rfl (Below.refl (w2.alloc (.cells #[S fx.1.path, S fx.1.part, .int .i64 fx.1.n, .int .i64 fx.1.lo, .int .i64 fx.1.hi, .int .i64 fx.1.seq] 69)).heap.size (w2.alloc (.cells #[S fx.1.path, S fx.1.part, .int .i64 fx.1.n, .int .i64 fx.1.lo, .int .i64 fx.1.hi, .int .i64 fx.1.seq] 69)))
        clear HRd ho ho2
        go_wp2_with (at_builtin; go_loud (refine wpList_app rfl _ _ _ rfl w1.heap.size elFl _ q.length _ rfl (ho3.alloc _) (.slice (some ⟨w2.heap.size + 1, 0, none⟩) 1 1) 1 (encF fx.1) rfl (src_one (by simp) rfl (by simp [Value.oneCell'])) (by rw [HQl.out]; unfold maxLen; omega) (by rw [HQl.out]; omega) (by have := hb3.size; simp at this ⊢; omega) ?_); intro v' w4 hown hg _)
        go_roundw
        case rel => exact ⟨k + 1, by omega, by go_num, (Lib.hid fun j hj' => by
          obtain rfl : j = k := by have := H0.out; omega
          exact Hf.out), by rw [HSn.out]; exact Own.snoc hown, Bapp (hb3.alloc hb3.size _) (ho3.alloc _) hg (Nat.le_refl _) (by have := hb3.size; simp at this ⊢; omega)⟩
        case measure => simp [intOf]; omega
      obtain ⟨y, hyk, hqk⟩ := hy hk0
      have hyl := fileRead_len (HYL.out y hyk)
      have hxl' := fileRead_len (HLn.out x (List.mem_of_getElem? Hxk.out))
      clear hy HYL
      have gk0 : decide (0 < k) = true := decide_eq_true hk0
      have hk01 : (1 : Int) ≤ k := by omega
      have hk02 : (0 : Int) ≤ (k : Int) - 1 := by omega
      have hk03 : (k : Int) - 1 < (k : Int) := by omega
      have hwk : IntKind.i64.wrap ((k : Int) - 1) = (k : Int) - 1 := by rw [IntKind.wrap_i64]; omega
      obtain ⟨g2', cap, cur2, rfl, hBg, _, hcap, hmx, _, _⟩ := ho.open (by rw [HQl.out]; omega)
      rw [HQl.out] at ho hcap ⊢
      have i2 := idx_at (c := cap) (o := 0) (b := g2') (n := k) 6 Tryz.underlying56 szFl (fun _ => rfl) (k - 1) (by omega)
      have hcast : ((k - 1 : Nat) : Int) = (k : Int) - 1 := by omega
      simp only [hcast, Nat.zero_add] at i2
      have d0 := ho.cells encF_enc (k - 1) _ hqk 0 _ rfl
      have hfo := fun h => lineFault_ord Hxk.out HKN.out HK.out hk0 hyk h
      have hff := fun h => lineFault_fine Hxk.out HKN.out HK.out hyk h
      have HOrd := Lib.hid hfo; have HFF := Lib.hid hff
      clear hfo hff hcast hyk hqk
      generalize fileRead x = fx at *
      generalize fileRead y = fy at *
      go_wp2_with fail
      refine HRd.out.mono ?_
      rintro e w2 ⟨rfl, hb2⟩
      have hb2' := hb.trans (hb2.mono hb.size)
      have ho2 := ho.below hb2
      have d0 := (hb2.cell (World.block_lt_of_cell? wr _ d0)).trans d0
      have hb3 : Below w1.heap.size w1 (w2.alloc (.cells #[S fx.1.path, S fx.1.part, .int .i64 fx.1.n, .int .i64 fx.1.lo, .int .i64 fx.1.hi, .int .i64 fx.1.seq] 69)) := hb2'.alloc hb2'.size _
      have hb2a : Below w2.heap.size w2 (w2.alloc (.cells #[S fx.1.path, S fx.1.part, .int .i64 fx.1.n, .int .i64 fx.1.lo, .int .i64 fx.1.hi, .int .i64 fx.1.seq] 69)) := (Below.refl _ _).alloc (Nat.le_refl _) _
      have d0 := (hb2a.cell (World.block_lt_of_cell? w2 _ d0)).trans d0
      have ho3 := ho2.alloc (.cells #[S fx.1.path, S fx.1.part, .int .i64 fx.1.n, .int .i64 fx.1.lo, .int .i64 fx.1.hi, .int .i64 fx.1.seq] 69)
      obtain ⟨e0, e1, e2, e3, e4, e5⟩ := fileCells (f := fx.1) (w := w2) rfl (Below.refl (w2.alloc (.cells #[S fx.1.path, S fx.1.part, .int .i64 fx.1.n, .int .i64 fx.1.lo, .int .i64 fx.1.hi, .int .i64 fx.1.seq] 69)).heap.size (w2.alloc (.cells #[S fx.1.path, S fx.1.part, .int .i64 fx.1.n, .int .i64 fx.1.lo, .int .i64 fx.1.hi, .int .i64 fx.1.seq] 69)))
      clear HRd ho ho2 c1x hbw
      go_wp2_with fail
      generalize (w2.alloc (.cells #[S fx.1.path, S fx.1.part, .int .i64 fx.1.n, .int .i64 fx.1.lo, .int .i64 fx.1.hi, .int .i64 fx.1.seq] 69)) = w3 at *
      have hC := fun W => isBehind_any fx.1.path fy.1.path W (by have := hxl'.1; omega) (by have := hyl.1; omega)
      obtain ⟨cv, hcv⟩ : ∃ cv, cmpP fx.1.path fy.1.path = cv := ⟨_, rfl⟩
      rw [hcv] at hC HOrd HFF
      clear hcv
      by_cases hle : cv ≤ 0
      · have hf := HOrd.out hle
        have HE0 : Hid (listReadE s = .loc 9 k) := Lib.hid (by rw [HF.out, ← hf]; exact firstErr_hit hkl hj.out (by rw [hf]; decide))
        have HL0 : Hid (listReadL s = []) := Lib.hid (by rw [HL.out, HE0.out]; rfl)
        have hcc : decide (0 < cv) = false := by simp; omega
        simp only [hcc] at hC
        have HC := Lib.hid hC
        clear hC hf hle hcc
        go_region_held3 (fun w' => w'.cell? ⟨w2.heap.size, 0, none⟩ = some (S fx.1.path) ∧ w'.cell? ⟨g2', (k - 1) * 6, none⟩ = some (S fy.1.path)) (exact ⟨e0, d0⟩) (first | (go_at_call 146; (with_reducible refine (HC.out _).mono ?_); rintro e w5 ⟨rfl, rfl⟩))
        have hb03 := hb1.trans (hb3.mono hb1.size)
        have hbw3 := hbw1.trans (hb3.mono hbw1.size)
        have hg := HG.out _ (hb03)
        have c0' : w3.cell? ⟨w.heap.size, 0, none⟩ = some (.int .i64 0) := by simp [World.cell?, hg]
        have c1' : w3.cell? ⟨w.heap.size, 1, none⟩ = some (.int .i64 0) := by simp [World.cell?, hg]
        have f0' : w3.frozen? ⟨w.heap.size, 0, none⟩ = false := by simp [World.frozen?, hg]
        have f1' : w3.frozen? ⟨w.heap.size, 1, none⟩ = false := by simp [World.frozen?, hg]
        have HGg := Lib.hid hg; clear hg
        go_wp2_with fail
        refine bodyPost_ret (fault_tc (g := w.heap.size) rfl rfl (set_two (w := w3.drew) HGg.out _ _) rfl) rfl ⟨_, by rw [HE0.out]; rfl, ?_, ((hbw3.drew).setCell (by simp) _).setCell (by simp) _⟩
        rw [HL0.out]; exact At.nil _ _ _
      · have hf := HFF.out (by omega)
        have Hf := Lib.hid hf
        have hcc : decide (0 < cv) = true := by simp; omega
        simp only [hcc] at hC
        have HC := Lib.hid hC
        clear hC hf hle hcc
        go_region_held3 (fun w' => w'.cell? ⟨w2.heap.size, 0, none⟩ = some (S fx.1.path) ∧ w'.cell? ⟨g2', (k - 1) * 6, none⟩ = some (S fy.1.path)) (exact ⟨e0, d0⟩) (first | (go_at_call 146; (with_reducible refine (HC.out _).mono ?_); rintro e w5 ⟨rfl, rfl⟩))
        have hb3 := hb3.drew
        have ho3 := ho3.below (Below.refl w3.heap.size w3).drew
        go_wp2_with (at_builtin; refine wpList_app rfl _ _ _ rfl w1.heap.size elFl _ q.length _ rfl (ho3.alloc _) (.slice (some ⟨w3.drew.heap.size, 0, none⟩) 1 1) 1 (encF fx.1) rfl (src_one rfl rfl (by simp [Value.oneCell'])) (by rw [HQl.out]; unfold maxLen; omega) (by rw [HQl.out]; omega) (by have := hb3.size; simp at this ⊢; omega) ?_; intro v' w4 hown hg _)
        go_roundw
        case rel => exact ⟨k + 1, by omega, by go_num, (Lib.hid fun j hj' => by
          rcases Nat.lt_or_ge j k with h | h
          · exact hj.out j h
          · obtain rfl : j = k := by omega
            exact Hf.out), by rw [HSn.out]; exact Own.snoc hown, Bapp (hb3.alloc hb3.size _) (ho3.alloc _) hg (Nat.le_refl _) (by have := hb3.size; simp at this ⊢; omega)⟩
        case measure => simp [intOf]; omega
end Go.Proofs.YtcdcfolhnjgigaaGreatDoor
