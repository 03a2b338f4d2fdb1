/- slices.SortFunc at files by their paths: the comparison lays blocks and draws, and turns nothing. txn.Txn's op and files: the walks. data.table, data.Sum: the walks: the table has of each byte what its bits make; the sum is the sum in plain words. strconv.FormatUint in base ten: the walk. snap.Text: the walk. slices.Grow at the nil slice of texts, slices.Concat of two slices of texts; strings.Cut by one byte. snap.Read: the walk. A slice that the call owns, and a store into another block. Of no program. -/
import Derived.Test.YtmhchakjkgdpmaaGreatDoorTt4
import Derived.Test.YtmhchakjkgdpmaaGreatDoorTt11
import Derived.Test.YtmhchakjkgdpmaaGreatDoorTt9
import Derived.Test.YtmhchakjkgdpmaaGreatDoorTt8
import Derived.Test.YtmhchakjkgdpmaaGreatDoorTt3
import Derived.Test.YtmhchakjkgdpmaaGreatDoorTt6
import Derived.Deep.WholeRow
import Derived.Laws.Tables
import Derived.Laws.Rows
import Derived.Laws.BitsAll
import Derived.Outline
import Derived.Test.YtmhchakjkgdpmaaGreatDoorTt2
import Derived.Lib.AppendIntMem
import Derived.Deep.RegionHeld3
import Derived.Test.YtmhchakjkgdpmaaGreatDoorTt7
import Derived.Deep.RegionWith
namespace Go.Proofs.YtmhchakjkgdpmaaGreatDoor
open Go.RowKit Go.Sort Go.Lib Go.Shelf

/-- Behind it the world has some blocks more, and has drawn. -/
def Grew (w w' : World) : Prop := ∃ q os, w' = Go.Sort.grow (w.drewN q) os
theorem Grew.refl (w : World) : Grew w w := ⟨0, #[], (Go.Sort.grow_empty _).symm⟩
theorem Grew.drewN (w : World) (n : Nat) : Grew w (w.drewN n) := ⟨n, #[], (Go.Sort.grow_empty _).symm⟩
theorem Grew.trans {a b c : World} (h : Grew a b) (k : Grew b c) : Grew a c := by
  obtain ⟨q, os, rfl⟩ := h
  obtain ⟨r, os', rfl⟩ := k
  refine ⟨q + r, os ++ os', ?_⟩
  show Go.Sort.grow (Go.Sort.grow ((a.drewN q).drewN r) os) os' = _
  rw [Go.Sort.grow_grow]
  congr 1
  simp [World.drewN, Nat.add_assoc]
theorem Grew.alloc (w : World) (o : Obj) : Grew w (w.alloc o) := ⟨0, #[o], by rw [Go.Sort.alloc_eq_grow]; rfl⟩
theorem Grew.below {w w' : World} (h : Grew w w') : Below w.heap.size w w' := by
  obtain ⟨q, os, rfl⟩ := h
  exact Bgrow w q os
theorem Grew.bytes (w : World) (t : TypeId) (s : ByteArray) : Grew w (Lib.bytesWorld w t s) := by
  unfold Lib.bytesWorld World.freeze
  rw [if_neg (by decide)]
  refine ⟨1, #[.cells (Lib.bytesCells w t s) t ((Lib.bytesCells w t s).size, (Lib.bytesCells w t s).size + 1)], ?_⟩
  unfold Go.Sort.grow World.drewN World.drew World.alloc
  simp only [World.mk.injEq, and_self, and_true]
  apply Array.ext_getElem?
  intro i
  rw [Array.getElem?_modify]
  by_cases h : w.heap.size = i
  · subst h
    simp
  · rw [if_neg h]
    rw [Array.getElem?_push, Array.getElem?_append]
    rw [if_neg (fun e => h e.symm)]
    split
    · rfl
    · rename_i h2
      rw [Array.getElem?_eq_none (by omega), Array.getElem?_eq_none (by simp; omega)]
theorem cutSl_grew (B : Nat) (s : Str) (w : World) (hM : LMax B w) (hs : s.length ≤ 100000) :
    Calls Tryz.prog 182 #[S s, .string ⟨#[47]⟩] w fun e w' => e = .returned (.tuple #[S (Lib.cut s [47]).1, S (Lib.cut s [47]).2.1, .bool (Lib.cut s [47]).2.2]) ∧ Grew w w' := by
  obtain ⟨m, hm⟩ := hM.max
  refine (Tryz.strings_Cut ⟨s.toArray⟩ ⟨#[47]⟩ m w (by show s.toArray.size < _; simp; omega) hm).mono ?_
  rintro e w' ⟨rfl, n, rfl⟩
  exact ⟨rfl, Grew.drewN w n⟩
theorem number_grew (B : Nat) (s : Str) (n : Int) (w : World) (hT : LNum B w) (hs : s.length ≤ 100000) (hn : numOf s = some n) :
    Calls Tryz.prog 183 #[S s] w fun e w' => e = .returned (.tuple #[.int .i64 n, .bool true]) ∧ Grew w w' := by
  have hif := isIfaceE
  obtain ⟨ha, hl, hi⟩ : Lib.atoiAll s = .ok n ∧ s.length ≤ 11 ∧ Lib.itoa n = s := by
    unfold numOf at hn
    split at hn
    · rename_i m hm
      split at hn
      · rename_i h
        obtain rfl := Option.some.inj hn
        exact ⟨hm, h⟩
      · cases hn
    · cases hn
  have hb := Lib.atoiAll_bounds ha
  have HA := Lib.hid (Tryz.strconv_Atoi_ok ⟨s.toArray⟩ (by show s.toArray.size ≤ _; simp; omega) n (by simpa using ha))
  have hl' : (s.length : Int) ≤ 11 := by omega
  have HI := Lib.hid (fun W (h : Below w.heap.size w W) => Tryz.strconv_Itoa n hb.1 hb.2 W (hT.below' h hT.le).tab)
  have gi : (Lib.itoa n == s) = true := by simpa using hi
  clear ha hn hi
  go_enter Tryz.func183, Tryz.ntmps183
  go_wp2_with fail
  refine (HA.out _).mono ?_
  rintro e w1 ⟨rfl, hw⟩
  have hg1 : Grew w w1 := by
    rcases hw with rfl | ⟨t, rfl⟩
    · exact Grew.refl _
    · exact Grew.bytes _ _ _
  clear hw
  go_wp2_with fail
  refine (HI.out _ hg1.below).mono ?_
  rintro e w2 ⟨rfl, k, os, hw2⟩
  have hg2 : Grew w1 w2 := ⟨k, os, hw2⟩
  clear hw2
  go_wp2_with fail
  go_ret2
  exact ⟨rfl, hg1.trans hg2⟩
set_option maxRecDepth 20000 in
theorem fileNumber_grew (B : Nat) (p : Str) (w : World) (hT : LNum B w) (hM : LMax B w) (hs : p.length ≤ 100000) (hp : pathF p ≠ none) :
    Calls Tryz.prog 126 #[S p] w fun e w' => e = .returned (.tuple #[S (kindF p), .int .i64 (numF p), .nilIface]) ∧ Grew w w' := by
  have hcl := (cut_len p [47]).2
  obtain ⟨⟨k, n⟩, hkn⟩ : ∃ kn, pathF p = some kn := by
    cases h : pathF p with
    | none => exact absurd h hp
    | some kn => exact ⟨kn, rfl⟩
  have hk : kindF p = k := by unfold kindF; rw [hkn]; rfl
  have hn : numF p = n := by unfold numF; rw [hkn]; rfl
  obtain ⟨hk2, hn1, hn2⟩ := pathF_some hkn
  have hparts : (Lib.cut p [47]).2.2 = true ∧ (Lib.cut p [47]).1 = k ∧ numOf (Lib.cut p [47]).2.1 = some n := by
    unfold pathF at hkn
    split at hkn
    · rename_i hc
      cases hq : numOf (Lib.cut p [47]).2.1 with
      | none => rw [hq] at hkn; cases hkn
      | some m =>
        rw [hq, Option.bind_some] at hkn
        split at hkn
        · cases hkn
        · simp only [Option.some.injEq, Prod.mk.injEq] at hkn
          exact ⟨hc.1, hkn.1, by rw [hkn.2]⟩
    · cases hkn
  obtain ⟨q1, q2, q3⟩ := hparts
  have hcut := cutSl_grew B p w hM hs
  rw [q1, q2] at hcut
  generalize (Lib.cut p [47]).2.1 = d at *
  rw [hk, hn]
  have HC := Lib.hid hcut
  have HN := Lib.hid (fun W (h : Below w.heap.size w W) => number_grew B d n W (hT.below' h hT.le) (by omega) q3)
  have g1 : decide (n < 1) = false := by simp; omega
  have g2 : decide (1073741824 < n) = false := by simp; omega
  clear hkn hk hn hp q1 q2 q3 hcut hcl
  rcases hk2 with rfl | rfl
  all_goals
    go_enter Tryz.func126, Tryz.ntmps126
    go_wp2_with fail
    refine HC.out.mono ?_
    rintro e w1 ⟨rfl, hg1⟩
    go_wp2_with fail
    refine (HN.out _ hg1.below).mono ?_
    rintro e w2 ⟨rfl, hg2⟩
    go_wp2_with fail
    go_ret3
    exact ⟨rfl, hg1.trans hg2⟩
set_option maxRecDepth 20000 in
theorem listCompare_grew (B : Nat) (a b : Str) (w : World) (hT : LNum B w) (hM : LMax B w) (ha : a.length ≤ 100000) (hb : b.length ≤ 100000) (hpa : pathF a ≠ none) (hpb : pathF b ≠ none) :
    Calls Tryz.prog 134 #[S a, S b] w fun e w' => e = .returned (.int .i64 (cmpP a b)) ∧ Grew w w' := by
  obtain ⟨n1, n2⟩ := numF_bound a
  obtain ⟨m1, m2⟩ := numF_bound b
  have hc : cmpP a b = orOf [Lib.compareBytes (kindF a) (kindF b), numF a - numF b] := by rw [orOf_two]; rfl
  have HC := Lib.hid hc
  have H1 := Lib.hid (fileNumber_grew B a w hT hM ha hpa)
  have H2 := Lib.hid (fun W (h : Below w.heap.size w W) => fileNumber_grew B b W (hT.below' h hT.le) (hM.below' h hM.le) hb hpb)
  clear hc hpa hpb
  go_enter Tryz.func134, Tryz.ntmps134
  go_wp2_with fail
  refine H1.out.mono ?_
  rintro e w1 ⟨rfl, hg1⟩
  go_wp2_with fail
  refine (H2.out _ hg1.below).mono ?_
  rintro e w2 ⟨rfl, hg2⟩
  have hg2' := hg1.trans hg2
  clear hg1 hg2 H1 H2
  generalize hk1 : kindF a = k1
  generalize hk2 : kindF b = k2
  generalize hn1 : numF a = x1 at n1 n2 ⊢
  generalize hn2 : numF b = x2 at m1 m2 ⊢
  rw [hk1, hk2, hn1, hn2] at HC
  clear hk1 hk2 hn1 hn2
  go_wp2_with fail
  refine (strCompare_any k1 k2 _).mono ?_
  rintro e w3 ⟨rfl, rfl⟩
  generalize Lib.compareBytes k1 k2 = c at HC ⊢
  go_wp2_with fail
  refine (cmpOr_any _ [c, x1 - x2] _ (ints_new _ w2 _ _ 2 _ rfl rfl rfl (by decide))).mono ?_
  rintro e w4 ⟨rfl, rfl⟩
  go_wp2_with fail
  go_ret
  exact ⟨by rw [HC.out]; rfl, hg2'.trans (Grew.alloc _ _)⟩

/-- A file with a right path, not too long. -/
abbrev FlR : Type := { f : Fl // pathF f.path ≠ none ∧ f.path.length ≤ 100000 }
theorem path_first : pathF [100, 97, 116, 97, 47, 49] ≠ none := by
  have hc : Lib.cut ([100, 97, 116, 97, 47, 49] : Str) [47] = (kData, [49], true) := cut_app1 (p := kData) (q := [49]) (by decide)
  have hi : Lib.itoa 1 = [49] := (Lib.itoa_nonneg 1).trans (Lib.decDigits_one (by decide))
  have hn : numOf [49] = some 1 := (numOf_iff _ 1).2 ⟨by decide, hi⟩
  unfold pathF
  rw [hc, if_pos ⟨rfl, .inl rfl⟩]
  show (numOf [49]).bind _ ≠ _
  rw [hn]
  simp
instance : Inhabited FlR := ⟨⟨⟨[100, 97, 116, 97, 47, 49], [], 0, 0, 0, 0⟩, path_first, by decide⟩⟩
abbrev encFR (f : FlR) : List Value := encF f.1
theorem encFR_enc : Enc encFR 6 := fun x => encF_enc x.1
def cmpFR (a b : FlR) : Int := cmpP a.1.path b.1.path
theorem cmpFR_lt (a b : FlR) : ltOf cmpFR a b = decide (keyP a.1.path < keyP b.1.path) := by
  unfold ltOf cmpFR
  rw [Bool.eq_iff_iff, decide_eq_true_eq, decide_eq_true_eq]
  exact cmpP_lt
theorem swo_files : SWO (ltOf cmpFR) where
  irrefl x := by rw [cmpFR_lt]; simp
  trans x y z h1 h2 := by rw [cmpFR_lt, decide_eq_true_eq] at *; omega
  ntrans x y z h1 h2 := by rw [cmpFR_lt, decide_eq_false_iff_not] at *; omega
theorem files2_any (B : Nat) (x y : FlR) (w : World) (hT : LNum B w) (hM : LMax B w) :
    Calls Tryz.prog 133 #[fileV x.1, fileV y.1] w fun e w' => e = .returned (.int .i64 (cmpFR x y)) ∧ Grew w w' := by
  obtain ⟨⟨xp, xpt, xn, xlo, xhi, xsq⟩, hx1, hx2⟩ := x
  obtain ⟨⟨yp, ypt, yn, ylo, yhi, ysq⟩, hy1, hy2⟩ := y
  have hg : Grew w ((w.alloc (.cells #[S xp, S xpt, .int .i64 xn, .int .i64 xlo, .int .i64 xhi, .int .i64 xsq] 37)).alloc (.cells #[S yp, S ypt, .int .i64 yn, .int .i64 ylo, .int .i64 yhi, .int .i64 ysq] 37)) := (Grew.alloc w _).trans (Grew.alloc _ _)
  have HC := Lib.hid (listCompare_grew B xp yp ((w.alloc (.cells #[S xp, S xpt, .int .i64 xn, .int .i64 xlo, .int .i64 xhi, .int .i64 xsq] 37)).alloc (.cells #[S yp, S ypt, .int .i64 yn, .int .i64 ylo, .int .i64 yhi, .int .i64 ysq] 37)) (hT.below' hg.below hT.le) (hM.below' hg.below hM.le) hx2 hy2 hx1 hy1)
  have HQ : Hid (cmpFR ⟨⟨xp, xpt, xn, xlo, xhi, xsq⟩, hx1, hx2⟩ ⟨⟨yp, ypt, yn, ylo, yhi, ysq⟩, hy1, hy2⟩ = cmpP xp yp) := Lib.hid rfl
  generalize cmpFR _ _ = cv at *
  show Calls Tryz.prog 133 #[fileV ⟨xp, xpt, xn, xlo, xhi, xsq⟩, fileV ⟨yp, ypt, yn, ylo, yhi, ysq⟩] w _
  go_enter Tryz.func133, Tryz.ntmps133
  go_wp2_with fail
  refine HC.out.mono ?_
  rintro e w1 ⟨rfl, hg1⟩
  go_wp2_with fail
  go_ret
  exact ⟨by rw [HQ.out]; rfl, hg.trans hg1⟩
theorem clo_files2 : ∀ args w, (callFunc 133 args).run Tryz.prog w = .ok (.enter 133 args) w := enters_of Tryz.func133 (by kernel_rfl) rfl
theorem sort_below {α : Type} [Inhabited α] {enc : α → List Value} {k m B : Nat} {w : World} {blk off : Nat} {dk : Array α} {os : Array Obj} (hB : B ≤ blk) (hw : B ≤ w.heap.size) : Below B w (sortWorldK enc k w blk off m dk os) := by
  unfold sortWorldK putRowK
  have h : w.grownBy (Go.Sort.grow (putRow id (Sort.ahead w m) blk off (flatK enc k dk)) os) (some blk) := by
    refine ⟨rfl, rfl, rfl, by simp, fun j hj hne => ?_⟩
    rw [heap_grow_old _ _ (by simpa using hj)]
    have : blk ≠ j := fun e => hne (by rw [e])
    simp [putRow, mapBlock, Sort.ahead, Array.getElem?_modify, this]
  exact (Below.refl B w).grown h hw (fun j hj => by cases hj; exact hB)
theorem sortFuncF_any (B0 B : Nat) (v : Value) (l : List Fl) (w : World) (hT : LNum B0 w) (hM : LMax B0 w) (ho : Own encF 37 6 B w v l) (hB : B ≤ w.heap.size) (hB0 : B0 ≤ B) (hr : ∀ f ∈ l, pathF f.path ≠ none ∧ f.path.length ≤ 100000) (hn : l.length ≤ 100000) :
    Calls Tryz.prog 132 #[v, .func (.func 133) #[] #[]] w fun e w' => e = .returned (.tuple #[]) ∧ ∃ m : List Fl, m.Perm l ∧ m.Pairwise (fun a b => keyP a.path ≤ keyP b.path) ∧ Own encF 37 6 B w' v m ∧ Below B w w' := by
  obtain ⟨L, hL⟩ : ∃ L : List FlR, L.map (·.1) = l := ⟨l.attach.map fun x => ⟨x.1, hr x.1 x.2⟩, by rw [List.map_map]; exact List.attach_map_subtype_val l⟩
  have hoL : Own encFR 37 6 B w v L := by
    unfold Own at *
    have e1 : L.flatMap encFR = l.flatMap encF := by rw [← hL, List.flatMap_map]
    have e2 : L.length = l.length := by rw [← hL, List.length_map]
    rw [e1, e2]; exact ho
  have hlen : L.length = l.length := by rw [← hL, List.length_map]
  rcases ho.2 with ⟨rfl, h0⟩ | ⟨g, cap, cur, rfl, hbase, hb, h1, h2, h3, h4⟩
  · obtain rfl := List.eq_nil_of_length_eq_zero h0
    have h := AnyF.slices_SortFunc_none Tryz.sortF none 0 (.func (.func 133) #[] #[]) w
    refine (show Calls Tryz.prog 132 _ w _ from h).mono ?_
    rintro e w' ⟨rfl, rfl⟩
    exact ⟨rfl, [], .nil, List.Pairwise.nil, ho, Below.refl _ _⟩
  · have hT' : ∀ (m : Nat) (os : Array Obj) (dk : Array FlR), LNum B0 (sortWorldK encFR 6 w g 0 m dk os) ∧ LMax B0 (sortWorldK encFR 6 w g 0 m dk os) := fun m os dk => by
      have hb' : Below B w (sortWorldK encFR 6 w g 0 m dk os) := sort_below hbase hB
      exact ⟨hT.below' hb' hB0, hM.below' hb' hB0⟩
    have h := AnyQ.slices_SortFunc Tryz.sortF 6 Tryz.isAgg37 Tryz.sizeOf37 encFR (fun x => (encFR_enc x).1) (fun x => (encFR_enc x).2) cmpFR swo_files 133 #[] g 0 cap L.toArray w clo_files2 (fun m os dk _ x y => files2_any B0 x y _ (hT' m os dk).1 (hT' m os dk).2) (hoL.holdsK encFR_enc (by decide)) (Array.getElem?_eq_some_iff.1 hb).1 (by simp; omega)
    rw [← hlen]
    refine (show Calls Tryz.prog 132 #[.slice (some ⟨g, 0, none⟩) L.toArray.size cap, .func (.func 133) #[] #[]] w _ from h).mono ?_
    rintro e w' ⟨rfl, d', n, os, hp, hs, rfl⟩
    have hsz : d'.size = L.length := by simpa using hp.1
    have hoL' : Own encFR 37 6 B w (.slice (some ⟨g, 0, none⟩) L.length cap) L := by rw [hlen]; exact hoL
    have h5 := hoL'.sorted (n' := n) (os := os) encFR_enc (by decide) (m := d'.toList) (by simpa using hsz)
    refine ⟨rfl, d'.toList.map (·.1), ?_, ?_, ?_, sort_below hbase hB⟩
    · rw [← hL]
      refine List.Perm.map _ ?_
      have := hp.2.2
      simpa [hsz, Array.extract_eq_self_of_le] using this
    · rw [List.pairwise_map]
      refine List.pairwise_iff_getElem.2 fun i j hi hj hij => ?_
      have := hs i j (Nat.zero_le _) hij (by simpa [hsz] using hj)
      rw [cmpFR_lt, decide_eq_false_iff_not] at this
      have h6 : i < d'.size := by simpa using hi
      have h7 : j < d'.size := by simpa using hj
      rw [getElem!_pos d' i h6, getElem!_pos d' j h7] at this
      simp only [Array.getElem_toList]
      omega
    · unfold Own at h5 ⊢
      rw [List.flatMap_map, List.length_map]
      exact h5
end Go.Proofs.YtmhchakjkgdpmaaGreatDoor
namespace Go.Proofs.YtmhchakjkgdpmaaGreatDoor
open Go.RowKit

theorem op1_any (x : Fl) (w : World) :
    Calls Tryz.prog 130 #[fileV x] w fun e w' => e = .returned (.bool (x.part == [45])) ∧ Below w.heap.size w w' := by
  have hb : Below w.heap.size w (w.alloc (fileO x)) := (Below.refl _ _).alloc (Nat.le_refl _) _
  go_enter Tryz.func130, Tryz.ntmps130
  go_wp2_with fail
  go_ret
  exact ⟨rfl, hb⟩
theorem clo_op1 : Clo Tryz.prog 130 := fun _ _ => by kernel_rfl
set_option maxRecDepth 20000 in
theorem txOp_any (B : Nat) (D K : Nat → Prop) (tb : Nat) (t : Tx) (vf va vr : Value) (w : World) (h : TxAt 115 B w D K tb t vf va vr) :
    Calls Tryz.prog 68 #[.pointer (some ⟨tb, 0, none⟩)] w fun e w' => e = .returned (S (opT t)) ∧ Below w.heap.size w w' := by
  have a7 := h.c7
  have a8 := h.c8
  obtain ⟨a, c, rfl, -, -⟩ := At.form' h.addsAt
  obtain ⟨a2, c2, rfl, -, -⟩ := At.form' h.remsAt
  have HAd := Lib.hid h.addsAt
  have HO : Hid (opT t = if t.removes ≠ [] then kRewrite else if delT t = true then kDelete else kAppend) := Lib.hid rfl
  have HD : Hid (delT t = t.adds.any fun f => f.part == [45]) := Lib.hid rfl
  clear h
  go_enter Tryz.func68, Tryz.ntmps68
  by_cases hr : t.removes = []
  case neg =>
    have hl : 0 < t.removes.length := List.length_pos_iff.2 hr
    have g : (0 : Int) < (t.removes.length : Int) := by omega
    have HV : Hid (opT t = kRewrite) := Lib.hid (by rw [HO.out, if_pos hr])
    clear hr
    go_wp2_with fail
    go_ret
    exact ⟨by rw [HV.out]; rfl, Below.refl _ _⟩
  have hl : t.removes.length = 0 := by rw [hr]; rfl
  have g : decide ((0 : Int) < (t.removes.length : Int)) = false := by simp [hl]
  have g2 : decide (0 < t.removes.length) = false := by simp [hl]
  have HV : Hid (opT t = if delT t = true then kDelete else kAppend) := Lib.hid (by rw [HO.out, if_neg (fun h => h hr)])
  have HC := Lib.hid (containsFuncF_any 130 #[] (fun f => f.part == [45]) w.heap.size w (.slice a t.adds.length c) t.adds w clo_op1 (fun W x _ _ _ => op1_any x W) HAd.out (Below.refl _ _) (Nat.le_refl _))
  rw [← HD.out] at HC
  clear hr hl
  generalize delT t = dv at *
  cases dv
  all_goals
    go_wp2_with fail
    refine HC.out.mono ?_
    rintro e w1 ⟨rfl, hb1⟩
    go_wp2_with fail
    go_ret
    exact ⟨by rw [HV.out]; rfl, hb1⟩
theorem clo_files1 : Clo Tryz.prog 131 := fun _ _ => by kernel_rfl
set_option maxRecDepth 20000 in
theorem files1_any (x : Fl) (b tb : Nat) (u : Value) (ps : List Str) (w : World) (h1 : w.cell? ⟨b, 0, none⟩ = some (.pointer (some ⟨tb, 0, none⟩))) (h2 : w.cell? ⟨tb, 8, none⟩ = some u) (hu : StrsAt w u ps) (hn : ps.length ≤ 100000) :
    Calls Tryz.prog 131 #[fileV x, .pointer (some ⟨b, 0, none⟩)] w fun e w' => e = .returned (.bool (decide (x.path ∈ ps))) ∧ Below w.heap.size w w' := by
  obtain ⟨au, cu, rfl, -, -⟩ := At.form' hu
  have hb : Below w.heap.size w (w.alloc (.cells #[S x.path, S x.part, .int .i64 x.n, .int .i64 x.lo, .int .i64 x.hi, .int .i64 x.seq] 37)) := (Below.refl _ _).alloc (Nat.le_refl _) _
  have e1 := (hb.cell (World.block_lt_of_cell? w _ h1)).trans h1
  have e2 := (hb.cell (World.block_lt_of_cell? w _ h2)).trans h2
  have hg := heap_alloc_new w (.cells #[S x.path, S x.part, .int .i64 x.n, .int .i64 x.lo, .int .i64 x.hi, .int .i64 x.seq] 37)
  have HU := Lib.hid (hu.below hb)
  go_enter Tryz.func131, Tryz.ntmps131
  go_upto_region 1 with fail
  generalize w.alloc (.cells #[S x.path, S x.part, .int .i64 x.n, .int .i64 x.lo, .int .i64 x.hi, .int .i64 x.seq] 37) = w0 at *
  have hd : Below w0.heap.size w0 w0.drew := (Below.refl _ _).drew
  have e1' : w0.drew.cell? ⟨b, 0, none⟩ = some (.pointer (some ⟨tb, 0, none⟩)) := e1
  have e2' : w0.drew.cell? ⟨tb, 8, none⟩ = some (.slice au ps.length cu) := e2
  obtain ⟨c0, c1, c2, c3, c4, c5⟩ := rowF6 (W := w0.drew) hg
  have HC := Lib.hid (containsS_any _ ps x.path w0.drew (HU.out.below hd) hn)
  clear h1 h2 hg
  go_wp2_with fail
  first
    | go_region_held3 (fun w' => w'.cell? ⟨b, 0, none⟩ = some (.pointer (some ⟨tb, 0, none⟩)) ∧ w'.cell? ⟨tb, 8, none⟩ = some (.slice au ps.length cu) ∧ w'.cell? ⟨w.heap.size, 0, none⟩ = some (S x.path)) (exact ⟨e1', e2', c0⟩) ((go_at_call 63; (with_reducible refine HC.out.mono ?_); rintro e w' ⟨rfl, rfl⟩))
    | fail
  all_goals
    go_wp2_with fail
    go_ret
    exact ⟨rfl, hb.trans (hd.mono hb.size)⟩
theorem newT_snoc (t : Tx) (op : Str) (seq : Int) {k : Nat} {x : Fl} (hx : t.adds[k]? = some x) : (newT t op seq).take (k + 1) = (newT t op seq).take k ++ [seqT t op seq x] := by
  unfold newT
  rw [List.take_add_one, List.getElem?_map, hx]
  rfl
set_option maxHeartbeats 4000000 in
set_option maxRecDepth 20000 in
theorem txFiles_any (B0 B : Nat) (D K : Nat → Prop) (tb : Nat) (t : Tx) (vf va vr vn : Value) (now : List Fl) (op : Str) (seq : Int) (w : World) (hT : LNum B0 w) (hM : LMax B0 w) (h : TxAt 115 B w D K tb t vf va vr) (hok : TxOk t) (hr : RightL now) (hth : thereT t now = false)
    (hv : FilesAt w vn now) (hlen : t.adds.length ≤ 1000) (hrl : t.removes.length ≤ 1000) (hpa : ∀ f ∈ t.adds, f.path.length ≤ 100000) (hpn : ∀ f ∈ now, f.path.length ≤ 100000) :
    Calls Tryz.prog 69 #[.pointer (some ⟨tb, 0, none⟩), vn, S op, .int .i64 seq] w fun e w' => ∃ u, e = .returned u ∧ Own encF 37 6 w.heap.size w' u (filesT t now op seq) ∧ Below w.heap.size w w' := by
  have hBw := hT.le
  have hnl := hr.len
  have hba : Below w.heap.size w (w.alloc (.cells #[.pointer (some ⟨tb, 0, none⟩)] 29)) := (Below.refl _ _).alloc (Nat.le_refl _) _
  have C0 := Lib.hid (fun W (hb : Below (w.alloc (.cells #[.pointer (some ⟨tb, 0, none⟩)] 29)).heap.size (w.alloc (.cells #[.pointer (some ⟨tb, 0, none⟩)] 29)) W) => newCell (w := w) (cs := #[.pointer (some ⟨tb, 0, none⟩)]) (t := 29) hb 0 (x := .pointer (some ⟨tb, 0, none⟩)) rfl)
  have X := Lib.hid (fun W (hb : Below w.heap.size w W) => (⟨hT.below' hb hBw, hM.below' hb hBw, h.below hb, hv.below hb⟩ : LNum B0 W ∧ LMax B0 W ∧ TxAt 115 B W D K tb t vf va vr ∧ FilesAt W vn now))
  have HS := Lib.hid (fun m h1 h2 => @filesT_sorted t now m hok hr hth op seq h1 h2)
  have HP1 : Hid (∀ f ∈ keptT t now ++ newT t op seq, pathF f.path ≠ none ∧ f.path.length ≤ 100000) := Lib.hid fun f hf => by
    rcases List.mem_append.1 hf with hf | hf
    · have hm := (List.mem_filter.1 hf).1
      exact ⟨checkF_path (hr.ok f hm), hpn f hm⟩
    · obtain ⟨g, hg, rfl⟩ := List.mem_map.1 hf
      exact ⟨(show pathF g.path ≠ none from checkF_path (hok.ok g hg)), hpa g hg⟩
  have HKl : Hid ((keptT t now).length ≤ 60) := Lib.hid (Nat.le_trans (List.length_filter_le ..) hnl)
  have HNl : Hid ((newT t op seq).length = t.adds.length) := Lib.hid (by unfold newT; rw [List.length_map])
  have HSn := Lib.hid (fun k x => @newT_snoc t op seq k x)
  have HSq : Hid (∀ x, seqT t op seq x = { x with seq := if op = kRewrite ∧ x.part ≠ [45] then t.base.seq else seq }) := Lib.hid fun _ => rfl
  obtain ⟨a, c, b, o, rfl, ha, hc, hcm, hx⟩ := h.addsAt
  unfold maxLen at hcm
  have HX := Lib.hid hx
  obtain ⟨a2, c2, rfl, -, -⟩ := At.form' h.remsAt
  obtain ⟨an, cn, rfl, -, -⟩ := At.form' hv
  clear hx h hv hok hr hth hpa hpn hT hM
  go_enter Tryz.func69, Tryz.ntmps69
  go_upto_region 1 with fail
  generalize w.alloc (.cells #[.pointer (some ⟨tb, 0, none⟩)] 29) = w0 at *
  have HCl := Lib.hid (cloneF_any _ now w0 (X.out _ hba).2.2.2 (by omega))
  go_wp2_with fail
  refine HCl.out.mono ?_
  rintro e w1 ⟨v1, rfl, hown1, hb1⟩
  have hbw1 := hba.trans (hb1.mono hba.size)
  have c0 := C0.out _ hb1
  have HDl := Lib.hid (deleteFuncF_any 131 #[.pointer (some ⟨w.heap.size, 0, none⟩)] (fun f => decide (f.path ∈ t.removes)) w0.heap.size w0 v1 now w1 clo_files1 (fun W x _ hbW hle => by
    have hbW' := hba.trans (hbW.mono hba.size)
    exact files1_any x w.heap.size tb _ t.removes W (C0.out _ hbW) (X.out _ hbW').2.2.1.c8 (X.out _ hbW').2.2.1.remsAt (by omega)) hown1 hb1 hb1.size)
  have hKp : (now.filter fun x => !decide (x.path ∈ t.removes)) = keptT t now := rfl
  simp only [hKp] at HDl
  clear hown1 HCl hKp
  go_wp2_with fail
  refine HDl.out.mono ?_
  rintro e w2 ⟨v2, rfl, hown2, hb2⟩
  have hb02 : Below w0.heap.size w0 w2 := hb1.trans hb2
  have hbw2 := hba.trans (hb02.mono hba.size)
  have HO2 := Lib.hid hown2
  clear c0 hown2 HDl
  have c0 := C0.out _ hb02
  have a7 := (X.out _ hbw2).2.2.1.c7
  go_wp2_with fail
  clear c0 a7
  go_loopw [9, 21] (fun u i wr => ∃ k : Nat, k ≤ t.adds.length ∧ i = .int .i64 k ∧ (∃ va, va = u ∧ Own encF 37 6 w0.heap.size wr va (keptT t now ++ (newT t op seq).take k)) ∧ Below w0.heap.size w0 wr) (fun _ i _ => t.adds.length - (intOf i).toNat)
  case atStart => exact ⟨0, by omega, rfl, ⟨_, rfl, by rw [List.take_zero, List.append_nil]; exact HO2.out⟩, hb02⟩
  case round =>
    obtain ⟨k, hk, rfl, ⟨va, rfl, hown⟩, hb⟩ := hrel
    obtain ⟨wo, rfl⟩ : ∃ wo, wo = wr := ⟨wr, rfl⟩
    have hbwo := hba.trans (hb.mono hba.size)
    have HO := Lib.hid hown
    clear hown
    by_cases hlt : k < t.adds.length
    case neg =>
      obtain rfl : k = t.adds.length := by omega
      have f : decide ((t.adds.length : Int) < (t.adds.length : Int)) = false := by simp
      have hfull : (newT t op seq).take t.adds.length = newT t op seq := List.take_of_length_le (by rw [HNl.out]; omega)
      have ho := HO.out
      rw [hfull] at ho
      have HSo := Lib.hid (sortFuncF_any B0 w0.heap.size va (keptT t now ++ newT t op seq) wo (X.out _ hbwo).1 (X.out _ hbwo).2.1 ho hb.size (Nat.le_trans hBw hba.size) HP1.out (by rw [List.length_append, HNl.out]; have := HKl.out; omega))
      clear hfull ho
      go_wp2_with fail
      refine HSo.out.mono ?_
      rintro e w3 ⟨rfl, m, hm1, hm2, hown3, hb3⟩
      have hfin := HS.out m hm1 hm2
      have HFin := Lib.hid hfin
      clear hfin hm1 hm2
      go_wp2_with fail
      go_ret
      exact ⟨_, rfl, by rw [← HFin.out]; exact hown3.base hba.size, hbwo.trans (hb3.mono hba.size)⟩
    have hk1 : (k : Int) < (t.adds.length : Int) := by omega
    obtain ⟨x, hxk⟩ := get_ex hlt
    obtain ⟨x0, x1, x2, x3, x4, x5⟩ := flCells HX.out hbwo hxk
    have i1 := idx_at (c := c) 6 Tryz.underlying22 szFl ha k hlt
    have HSk := Lib.hid (HSn.out k x hxk)
    have HTl : Hid (((newT t op seq).take k).length = k) := Lib.hid (by rw [List.length_take, HNl.out]; omega)
    have hbn := (X.out _ hbwo).2.2.1.c2
    have hbox := C0.out _ hb
    have fin : ∀ (q : Int) (v5 : Value) (w5 : World), seqT t op seq x = ⟨x.path, x.part, x.n, x.lo, x.hi, q⟩ → w5.ownsRow w0.heap.size 37 6 v5 ((keptT t now ++ (newT t op seq).take k).length + 1) ((keptT t now ++ (newT t op seq).take k).flatMap encF ++ encF ⟨x.path, x.part, x.n, x.lo, x.hi, q⟩) → ((wo.alloc (.cells #[S x.path, S x.part, .int .i64 x.n, .int .i64 x.lo, .int .i64 x.hi, .int .i64 q] 37)).alloc (.cells #[S x.path, S x.part, .int .i64 x.n, .int .i64 x.lo, .int .i64 x.hi, .int .i64 q] 37)).grownBy w5 va.ownBlock →
        Own encF 37 6 w0.heap.size w5 v5 (keptT t now ++ (newT t op seq).take (k + 1)) ∧ Below w0.heap.size w0 w5 := fun q v5 w5 hq h1 h2 => by
      have hz := hb.size
      refine ⟨?_, ?_⟩
      · rw [HSk.out, hq, ← List.append_assoc]
        exact Own.snoc h1
      · exact Bapp ((hb.alloc hz _).alloc (by simp; omega) _) ((HO.out.alloc _).alloc _) h2 (Nat.le_refl _) (by simp; omega)
    have Fin := Lib.hid fin
    clear fin hxk
    have hbA : Below wo.heap.size wo (wo.alloc (.cells #[S x.path, S x.part, .int .i64 x.n, .int .i64 x.lo, .int .i64 x.hi, .int .i64 seq] 37)) := (Below.refl _ _).alloc (Nat.le_refl _) _
    have hbnA := (X.out _ (hbwo.trans (hbA.mono hbwo.size))).2.2.1.c2
    have hboxA := C0.out _ (hb.trans (hbA.mono hb.size))
    by_cases hop : op = kRewrite
    case neg =>
      have gop : (op == [114, 101, 119, 114, 105, 116, 101]) = false := by simpa using hop
      have HQ : Hid (¬ (op = kRewrite ∧ x.part ≠ [45])) := Lib.hid (fun h => hop h.1)
      clear hop
      have hbQ := hb.alloc hb.size (.cells #[S x.path, S x.part, .int .i64 x.n, .int .i64 x.lo, .int .i64 x.hi, .int .i64 seq] 37)
      have HOQ := Lib.hid (HO.out.alloc (.cells #[S x.path, S x.part, .int .i64 x.n, .int .i64 x.lo, .int .i64 x.hi, .int .i64 seq] 37))
      have hgQ := heap_alloc_new wo (.cells #[S x.path, S x.part, .int .i64 x.n, .int .i64 x.lo, .int .i64 x.hi, .int .i64 seq] 37)
      have fin := Fin.out seq
      rw [HSq.out] at fin
      go_upto_region 8 with fail
      generalize wo.alloc (.cells #[S x.path, S x.part, .int .i64 x.n, .int .i64 x.lo, .int .i64 x.hi, .int .i64 seq] 37) = w3 at *
      obtain ⟨T, hT⟩ : ∃ T, wo.heap.size = T := ⟨_, rfl⟩
      rw [hT] at hgQ ⊢
      obtain ⟨d0, d1, d2, d3, d4, d5⟩ := rowF6 (f := ⟨x.path, x.part, x.n, x.lo, x.hi, seq⟩) hgQ
      have HFin := Lib.hid fin
      clear hgQ hT fin hbnA hboxA
      go_wp2_with (at_builtin; refine wpList_app rfl _ _ _ rfl w0.heap.size elFl va (keptT t now ++ (newT t op seq).take k).length _ rfl (HOQ.out.alloc _) (.slice (some ⟨w3.heap.size, 0, none⟩) 1 1) 1 (encF ⟨x.path, x.part, x.n, x.lo, x.hi, seq⟩) rfl (src_one rfl rfl (by simp [Value.oneCell'])) (by rw [List.length_append, HTl.out]; have := HKl.out; unfold maxLen; omega) (by rw [List.length_append, HTl.out]; have := HKl.out; omega) (by have := hbQ.size; simp; omega) ?_; intro v5 w5 hown5 hg5 _)
      go_roundw
      case rel =>
        have hfi := HFin.out v5 w5 (by rw [if_neg HQ.out]) hown5 hg5
        exact ⟨k + 1, by omega, by go_num, ⟨_, rfl, hfi.1⟩, hfi.2⟩
      case measure => simp [intOf]; omega
    have gop : (op == [114, 101, 119, 114, 105, 116, 101]) = true := by simpa using hop
    by_cases hpt : x.part = [45]
    case pos =>
      have gpt : (x.part == [45]) = true := by simpa using hpt
      have HQ : Hid (¬ (op = kRewrite ∧ x.part ≠ [45])) := Lib.hid (fun h => h.2 hpt)
      clear hop hpt
      have hbQ := hb.alloc hb.size (.cells #[S x.path, S x.part, .int .i64 x.n, .int .i64 x.lo, .int .i64 x.hi, .int .i64 seq] 37)
      have HOQ := Lib.hid (HO.out.alloc (.cells #[S x.path, S x.part, .int .i64 x.n, .int .i64 x.lo, .int .i64 x.hi, .int .i64 seq] 37))
      have hgQ := heap_alloc_new wo (.cells #[S x.path, S x.part, .int .i64 x.n, .int .i64 x.lo, .int .i64 x.hi, .int .i64 seq] 37)
      have fin := Fin.out seq
      rw [HSq.out] at fin
      go_upto_region 8 with fail
      generalize wo.alloc (.cells #[S x.path, S x.part, .int .i64 x.n, .int .i64 x.lo, .int .i64 x.hi, .int .i64 seq] 37) = w3 at *
      obtain ⟨T, hT⟩ : ∃ T, wo.heap.size = T := ⟨_, rfl⟩
      rw [hT] at hgQ ⊢
      obtain ⟨d0, d1, d2, d3, d4, d5⟩ := rowF6 (f := ⟨x.path, x.part, x.n, x.lo, x.hi, seq⟩) hgQ
      have HFin := Lib.hid fin
      clear hgQ hT fin hbnA hboxA
      go_wp2_with (at_builtin; refine wpList_app rfl _ _ _ rfl w0.heap.size elFl va (keptT t now ++ (newT t op seq).take k).length _ rfl (HOQ.out.alloc _) (.slice (some ⟨w3.heap.size, 0, none⟩) 1 1) 1 (encF ⟨x.path, x.part, x.n, x.lo, x.hi, seq⟩) rfl (src_one rfl rfl (by simp [Value.oneCell'])) (by rw [List.length_append, HTl.out]; have := HKl.out; unfold maxLen; omega) (by rw [List.length_append, HTl.out]; have := HKl.out; omega) (by have := hbQ.size; simp; omega) ?_; intro v5 w5 hown5 hg5 _)
      go_roundw
      case rel =>
        have hfi := HFin.out v5 w5 (by rw [if_neg HQ.out]) hown5 hg5
        exact ⟨k + 1, by omega, by go_num, ⟨_, rfl, hfi.1⟩, hfi.2⟩
      case measure => simp [intOf]; omega
    case neg =>
      have gpt : (x.part == [45]) = false := by simpa using hpt
      have HQ : Hid (op = kRewrite ∧ x.part ≠ [45]) := Lib.hid ⟨hop, hpt⟩
      clear hop hpt
      have hbQ := hb.alloc hb.size (.cells #[S x.path, S x.part, .int .i64 x.n, .int .i64 x.lo, .int .i64 x.hi, .int .i64 t.base.seq] 37)
      have HOQ := Lib.hid (HO.out.alloc (.cells #[S x.path, S x.part, .int .i64 x.n, .int .i64 x.lo, .int .i64 x.hi, .int .i64 t.base.seq] 37))
      have hgQ := heap_alloc_new wo (.cells #[S x.path, S x.part, .int .i64 x.n, .int .i64 x.lo, .int .i64 x.hi, .int .i64 t.base.seq] 37)
      have fin := Fin.out t.base.seq
      rw [HSq.out] at fin
      go_upto_region 8 with fail
      generalize wo.alloc (.cells #[S x.path, S x.part, .int .i64 x.n, .int .i64 x.lo, .int .i64 x.hi, .int .i64 t.base.seq] 37) = w3 at *
      obtain ⟨T, hT⟩ : ∃ T, wo.heap.size = T := ⟨_, rfl⟩
      rw [hT] at hgQ ⊢
      obtain ⟨d0, d1, d2, d3, d4, d5⟩ := rowF6 (f := ⟨x.path, x.part, x.n, x.lo, x.hi, t.base.seq⟩) hgQ
      have HFin := Lib.hid fin
      clear hgQ hT fin hbnA hboxA
      go_wp2_with (at_builtin; refine wpList_app rfl _ _ _ rfl w0.heap.size elFl va (keptT t now ++ (newT t op seq).take k).length _ rfl (HOQ.out.alloc _) (.slice (some ⟨w3.heap.size, 0, none⟩) 1 1) 1 (encF ⟨x.path, x.part, x.n, x.lo, x.hi, t.base.seq⟩) rfl (src_one rfl rfl (by simp [Value.oneCell'])) (by rw [List.length_append, HTl.out]; have := HKl.out; unfold maxLen; omega) (by rw [List.length_append, HTl.out]; have := HKl.out; omega) (by have := hbQ.size; simp; omega) ?_; intro v5 w5 hown5 hg5 _)
      go_roundw
      case rel =>
        have hfi := HFin.out v5 w5 (by rw [if_pos HQ.out]) hown5 hg5
        exact ⟨k + 1, by omega, by go_num, ⟨_, rfl, hfi.1⟩, hfi.2⟩
      case measure => simp [intOf]; omega
end Go.Proofs.YtmhchakjkgdpmaaGreatDoor
namespace Go.Proofs.YtmhchakjkgdpmaaGreatDoor
open Go.RowKit

theorem zero256 : Tryz.zeroCells345 = (List.replicate 256 (Value.int .u32 0)).toArray := by kernel_rfl
/-- The table's cells when k of them are laid. -/
def tabCells (k : Nat) : List Value := (List.range 256).map fun i => Value.int .u32 (if i < k then (crcIter 8 i : Nat) else 0)
theorem tab_zero : (List.replicate 256 (Value.int .u32 0)) = tabCells 0 := by
  unfold tabCells
  generalize 256 = n
  apply List.ext_getElem
  · simp
  · intro i h1 h2; simp
theorem tab_len (k : Nat) : (tabCells k).length = 256 := by simp [tabCells]
theorem tab_set {k : Nat} : (tabCells k).set k (.int .u32 (crcIter 8 k : Nat)) = tabCells (k + 1) := by
  apply List.ext_getElem
  · simp [tabCells]
  · intro i h1 h2
    rw [List.getElem_set]
    split
    · rename_i h; subst h; simp [tabCells]
    · rename_i h
      simp only [tabCells, List.getElem_map, List.getElem_range]
      by_cases h3 : i < k
      · rw [if_pos h3, if_pos (by omega)]
      · rw [if_neg h3, if_neg (by omega)]
theorem tab_at {i : Nat} (hi : i < 256) : (tabCells 256)[i]? = some (.int .u32 (crcIter 8 i : Nat)) := by
  rw [List.getElem?_eq_getElem (by rw [tab_len]; exact hi)]
  simp [tabCells, hi]
theorem tab_one (k : Nat) : (tabCells k).toArray.all (·.oneCell') = true := by
  rw [Array.all_eq_true_iff_forall_mem]
  intro v hv
  simp only [tabCells, List.mem_toArray, List.mem_map] at hv
  obtain ⟨i, _, rfl⟩ := hv
  rfl
/-- The same as an array: not to be opened. -/
def tabA (k : Nat) : Array Value := (tabCells k).toArray
theorem tabA_size (k : Nat) : (tabA k).size = 256 := by unfold tabA; rw [List.size_toArray, tab_len]
theorem tabA_set (k : Nat) : (tabA k).setIfInBounds k (.int .u32 (crcIter 8 k : Nat)) = tabA (k + 1) := by
  unfold tabA; rw [List.setIfInBounds_toArray, tab_set]
theorem tabA_cell (k : Nat) (hk : k < 256) : (tabA k)[k]? = some (.int .u32 0) := by
  unfold tabA
  rw [List.getElem?_toArray, List.getElem?_eq_getElem (by rw [tab_len]; exact hk)]
  simp [tabCells]
theorem tabA_at {i : Nat} (hi : i < 256) : (tabA 256)[i]? = some (.int .u32 (crcIter 8 i : Nat)) := by
  unfold tabA; rw [List.getElem?_toArray, tab_at hi]
theorem tabA_one (k : Nat) : (tabA k).all (·.oneCell') = true := tab_one k
theorem tabA_zero : Tryz.zeroCells345 = tabA 0 := by rw [zero256, tab_zero]; rfl
theorem size256 : (Tryz.prog.info? 345).map (·.size) = some 256 := by kernel_rfl
/-- A bit's round, as the walk spells it. -/
theorem bit_round {c : Nat} (h : c < 4294967296) : bits .xor .u32 ((c : Int) / 2) (IntKind.u32.wrap (3988292384 * bits .and .u32 (c : Int) 1)) = (crcBit c : Nat) ∧ bits .xor .u32 ((c : Int) / 2) (3988292384 * bits .and .u32 (c : Int) 1 % 4294967296) = (crcBit c : Nat) := by
  rw [← IntKind.wrap_u32', and_self]
  have h1 : bits .and .u32 (c : Int) 1 = ((c % 2 : Nat) : Int) := by
    have := u32_and_nat c 1 h (by omega)
    rw [show ((1 : Nat) : Int) = 1 from rfl] at this
    rw [this, Nat.and_one_is_mod]
  rw [h1]
  have h2 : IntKind.u32.wrap (3988292384 * ((c % 2 : Nat) : Int)) = ((crcP * (c % 2) : Nat) : Int) := by
    rw [IntKind.wrap_u32']; unfold crcP; omega
  rw [h2, show ((c : Int) / 2) = ((c / 2 : Nat) : Int) by omega, u32_xor_nat _ _ (by omega) (by unfold crcP; omega)]
  congr 1
  unfold crcBit
  rcases Nat.mod_two_eq_zero_or_one c with h3 | h3
  · rw [h3, if_neg (by omega)]; simp
  · rw [h3, if_pos rfl]; simp
set_option maxHeartbeats 1000000 in
set_option maxRecDepth 20000 in
theorem table_any (w : World) :
    Calls Tryz.prog 273 #[] w fun e w' => e = .returned (.agg (tabA 256)) ∧ Below w.heap.size w w' := by
  have hg1 : ((w.alloc (.cells Tryz.zeroCells345 345)).alloc (.cells Tryz.zeroCells345 345)).heap[w.heap.size + 1]? = some (.cells (tabA 0) 345 (0, 0)) := by
    rw [heap_alloc2_new, tabA_zero]
  have hg0 : ((w.alloc (.cells Tryz.zeroCells345 345)).alloc (.cells Tryz.zeroCells345 345)).heap[w.heap.size]? = some (.cells (tabA 0) 345 (0, 0)) := by
    rw [heap_alloc2_old, tabA_zero]
  have hb0 : Below w.heap.size w ((w.alloc (.cells Tryz.zeroCells345 345)).alloc (.cells Tryz.zeroCells345 345)) := ((Below.refl _ _).alloc (Nat.le_refl _) _).alloc (by simp) _
  have G1 := Lib.hid hg1; have G0 := Lib.hid hg0
  clear hg1 hg0
  go_enter Tryz.func273, Tryz.ntmps273
  go_wp2_with fail
  generalize (w.alloc (.cells Tryz.zeroCells345 345)).alloc (.cells Tryz.zeroCells345 345) = w0 at *
  obtain ⟨H, hH⟩ : ∃ H, w.heap.size = H := ⟨_, rfl⟩
  rw [hH] at G1 G0 hb0 ⊢
  have HH := Lib.hid hH; clear hH
  go_loopw [2, 3, 4, 9] (fun _ _ i _ wr => ∃ k : Nat, k ≤ 256 ∧ i = .int .i64 k ∧ Hid (wr.heap[H + 1]? = some (.cells (tabA k) 345 (0, 0))) ∧ Hid (wr.heap[H]? = some (.cells (tabA 0) 345 (0, 0))) ∧ Below H w wr) (fun _ _ i _ _ => 256 - (intOf i).toNat)
  case atStart => exact ⟨0, by omega, rfl, G1, G0, hb0⟩
  case round =>
    obtain ⟨k, hk, rfl, hg1, hg0, hb⟩ := hrel
    clear G1 G0 hb0
    by_cases hlt : k < 256
    case neg =>
      have f : decide ((k : Int) < 256) = false := by simp; omega
      obtain rfl : k = 256 := by omega
      go_wp2_with (first | (refine wpList_load_row rfl 345 _ rfl (H + 1) rfl 345 (tabA 256) (0, 0) _ hg1.out Tryz.underlying345 rfl (by rw [tabA_size]; exact size256) ?_) | (refine wpList_store_row rfl _ _ _ rfl H (tabA 256) rfl rfl 345 (tabA 0) hg0.out (by rw [tabA_size]; exact size256) (by rw [tabA_size, tabA_size]) (tabA_one _) ?_))
      exact bodyPost_ret (results_cell_row rfl _ _ H 345 (tabA 256) (0, 0) _ rfl (setRow_heap _ H _ _ _ _ hg0.out) Tryz.underlying345 rfl (by rw [tabA_size]; exact size256)) rfl ⟨rfl, by rw [HH.out]; exact hb.grown (grown_setRow wr H _) (Nat.le_of_lt (Array.getElem?_eq_some_iff.1 hg0.out).1) (fun k hk => by cases hk; exact Nat.le_refl _)⟩
    have hlt' : (k : Int) < 256 := by omega
    have hcv : IntKind.u32.wrap (k : Int) = k := by rw [IntKind.wrap_u32']; omega
    go_wp2_with fail
    obtain ⟨wo, rfl⟩ : ∃ wo : World, wo = wr := ⟨_, rfl⟩
    go_loop [3, 9] (fun c j => ∃ m : Nat, m ≤ 8 ∧ j = .int .i64 m ∧ c = .int .u32 (crcIter m k : Nat)) (fun _ j => 8 - (intOf j).toNat)
    case atStart => exact ⟨0, by omega, rfl, rfl⟩
    case round =>
      obtain ⟨m, hm, rfl, rfl⟩ := hrel
      by_cases hm8 : m < 8
      · have hm8' : (m : Int) < 8 := by omega
        have hc : crcIter m k < 4294967296 := crcIter_lt m (by omega)
        have hsu : crcIter (m + 1) k = crcBit (crcIter m k) := crcIter_succ m k
        have HSu := Lib.hid hsu; clear hsu
        generalize crcIter m k = c at *
        have hbr := (bit_round hc).2
        have h1 : (0 : Int) ≤ c := by omega
        have h2 : (c : Int) < 4294967296 := by omega
        go_wp2_with fail
        refine ⟨⟨m + 1, by omega, by go_num, by rw [HSu.out]⟩, ?_⟩
        simp [intOf]; omega
      · obtain rfl : m = 8 := by omega
        have c0 := cell_of_row wo (H + 1) k _ _ _ hg1.out
        rw [tabA_cell k hlt] at c0
        have f0 : wo.frozen? ⟨H + 1, k, none⟩ = false := frozen_row hg1.out
        generalize hcr : crcIter 8 k = cr at *
        go_wp2_with fail
        go_roundw
        case rel => exact ⟨k + 1, by omega, by go_num, Lib.hid (by rw [row_setCell hg1.out, ← hcr, tabA_set]), Lib.hid ((heap_setCell_other _ _ _ _ (by simp)).trans hg0.out), hb.setCell (p := ⟨H + 1, k, none⟩) (by simp) _⟩
        case measure => simp [intOf]; omega
/-- A byte's round, as the walk spells it. -/
theorem sum_round (c : Nat) (b : UInt8) : bits .xor .u8 ((c : Int) % 256) (b.toNat : Int) = ((c % 256 ^^^ b.toNat : Nat) : Int) := by
  rw [show ((c : Int) % 256) = ((c % 256 : Nat) : Int) by omega]
  exact u8_xor_nat _ _ (by omega) (byte_lt b)
theorem sum_round2 {c : Nat} (h : c < 4294967296) (b : UInt8) : bits .xor .u32 ((c : Int) / 256) ((crcIter 8 (c % 256 ^^^ b.toNat) : Nat) : Int) = (crcStep c b : Nat) := by
  have hx : c % 256 ^^^ b.toNat < 2 ^ 8 := Nat.xor_lt_two_pow (by omega) (byte_lt b)
  rw [show ((c : Int) / 256) = ((c / 256 : Nat) : Int) by omega, u32_xor_nat _ _ (by omega) (crcIter_lt 8 (by omega)), crc_table]
set_option maxHeartbeats 1000000 in
set_option maxRecDepth 200000 in
theorem sum_any (s : Str) (w : World) (hs : s.length ≤ 100000) :
    Calls Tryz.prog 223 #[S s] w fun e w' => e = .returned (.int .u32 (sumOf s : Nat)) ∧ Below w.heap.size w w' := by
  go_enter Tryz.func223, Tryz.ntmps223
  go_wp2_with fail
  refine (table_any w).mono ?_
  rintro e w1 ⟨rfl, hb1⟩
  go_wp2_with (refine wpList_store_row rfl _ _ _ rfl w1.heap.size (tabA 256) rfl rfl 345 (tabA 0) (by rw [heap_alloc_new, tabA_zero]) (by rw [tabA_size]; exact size256) (by rw [tabA_size, tabA_size]) (tabA_one _) ?_)
  have hb2 : Below w.heap.size w ((w1.alloc (.cells Tryz.zeroCells345 345)).setRow w1.heap.size (tabA 256)) := (hb1.alloc hb1.size _).grown (grown_setRow _ _ _) (by have := hb1.size; simp; omega) (fun k hk => by cases hk; exact hb1.size)
  have hg2 := setRow_heap (w1.alloc (.cells Tryz.zeroCells345 345)) w1.heap.size _ (tabA 256) _ _ (heap_alloc_new w1 _)
  have G2 := Lib.hid hg2; clear hg2
  generalize (w1.alloc (.cells Tryz.zeroCells345 345)).setRow w1.heap.size (tabA 256) = w2 at *
  generalize w1.heap.size = g at *
  generalize htb : tabA 256 = tb at *
  have HTb := Lib.hid htb; clear htb
  go_loop [4, 9] (fun c i => ∃ k : Nat, k ≤ s.length ∧ i = .int .i64 k ∧ c = .int .u32 (crcFold 4294967295 (s.take k) : Nat)) (fun _ i => s.length - (intOf i).toNat)
  case atStart => exact ⟨0, by omega, rfl, rfl⟩
  case round =>
    obtain ⟨k, hk, rfl, rfl⟩ := hrel
    have hc : crcFold 4294967295 (s.take k) < 4294967296 := crcFold_lt _ (by omega)
    by_cases hlt : k < s.length
    · have hk1 : (k : Int) < s.length := by omega
      have hsn : crcFold 4294967295 (s.take (k + 1)) = crcStep (crcFold 4294967295 (s.take k)) s[k] := by
        rw [take_snoc' (x := s[k]) (by simp [hlt]), crcFold_snoc]
      have HSn := Lib.hid hsn; clear hsn
      generalize crcFold 4294967295 (s.take k) = c at *
      have hbk : (({ data := s.toArray } : ByteArray)[k]'(by simpa [ByteArray.size] using hlt)) = s[k] := rfl
      have hr1 := sum_round c s[k]
      have hr2 := sum_round2 hc s[k]
      have hx8 : c % 256 ^^^ s[k].toNat < 2 ^ 8 := Nat.xor_lt_two_pow (by omega) (byte_lt s[k])
      have hca := cell_of_row w2 g (c % 256 ^^^ s[k].toNat) _ _ _ G2.out
      rw [← HTb.out, tabA_at (by omega)] at hca
      have hx0 : (0 : Int) ≤ ((c % 256 ^^^ s[k].toNat : Nat) : Int) := by omega
      have hx1 : ((c % 256 ^^^ s[k].toNat : Nat) : Int) < 256 := by omega
      have h1 : (0 : Int) ≤ c := by omega
      have h2 : (c : Int) < 4294967296 := by omega
      generalize c % 256 ^^^ s[k].toNat = x at *
      clear hc hb1 hb2 h1 h2
      go_wp2_with fail
      refine ⟨⟨k + 1, by omega, by go_num, by rw [HSn.out]⟩, ?_⟩
      simp [intOf]; omega
    · obtain rfl : k = s.length := by omega
      have hf : bits .xor .u32 IntKind.u32.max ((crcFold 4294967295 (s.take s.length) : Nat) : Int) = (sumOf s : Nat) := by
        rw [List.take_length] at hc ⊢
        have := u32_xor_nat 4294967295 (crcFold 4294967295 s) (by omega) hc
        unfold sumOf
        rw [Nat.xor_comm]
        exact this
      have HF := Lib.hid hf; clear hf
      generalize crcFold 4294967295 (s.take s.length) = c at *
      have HB2 := Lib.hid hb2
      have HS := Lib.hid hs
      clear hc hb1 hb2 hs
      go_wp2_with fail
      go_ret
      exact ⟨show Ending.returned (.int .u32 (bits .xor .u32 IntKind.u32.max (c : Int))) = _ by rw [HF.out], HB2.out⟩
end Go.Proofs.YtmhchakjkgdpmaaGreatDoor
namespace Go.Proofs.YtmhchakjkgdpmaaGreatDoor
open Go.RowKit Go.Sort Go.Lib

theorem formatUintI_any (u : Nat) (hu64 : u < 18446744073709551616) (w : World) (htab : Lib.TabIs Tryz.prog w "internal/strconv.uint64pow10" .u64 Lib.pow10Tab) :
    Calls Tryz.prog 272 #[.int .u64 u, .int .i64 10] w fun e w' => e = .returned (.string ⟨(Lib.decDigits u).toArray⟩) ∧ Below w.heap.size w w' := by
  by_cases hs : u < 100
  · have g : (u : Int) < 100 := by omega
    have hc : IntKind.i64.wrap (u : Int) = u := by rw [IntKind.wrap_i64]; omega
    go_enter Tryz.func272, Tryz.ntmps272
    go_wp2_with (go_at_call 266; refine (Tryz.internal_strconv_small u hs _).mono ?_; rintro e w' ⟨rfl, rfl⟩)
    go_ret
    exact ⟨rfl, Below.refl _ _⟩
  · have hu1 : 1 ≤ u := by omega
    have g : decide ((u : Int) < 100) = false := by simp; omega
    have hnd20 : Lib.nDigits u ≤ 20 := by have := Lib.numDigits_eq u hu1 hu64; split at this <;> omega
    have hal : Tryz.prog.arrayLen 340 = 24 := by simp [Program.arrayLen, Tryz.underlying340]
    have hsl : ∀ W, (Instr.sliceAt 340 (.pointer (some ⟨w.heap.size, 0, none⟩)) none (some (.int .i64 (Lib.nDigits u : Int))) none).run Tryz.prog W = .ok (.slice (some ⟨w.heap.size, 0, none⟩) (Lib.nDigits u) 24) W := fun W => by
      rw [run_sliceAt_array_h W 340 ⟨w.heap.size, 0, none⟩ (by simp [Program.arrayLen, Program.elem, Tryz.underlying340]) .i64 (Lib.nDigits u : Int) (by omega) (by rw [hal]; omega)]
      go_simp
    have hH0 := Lib.holds_zero0 w 340 (Lib.nDigits u) (by omega)
    have hfmt := Tryz.internal_strconv_formatBase10 w.heap.size 0 24 u (Array.replicate (Lib.nDigits u) 0) (w.alloc (.cells Lib.zeros24 340)) hH0 (by rw [Array.size_replicate]; exact Lib.lt_pow_nDigits u) hu64 (by rw [Array.size_replicate]; omega)
    rw [Array.size_replicate] at hfmt
    have HH0 := Lib.hid hH0
    clear hH0 hal
    go_enter Tryz.func272, Tryz.ntmps272
    go_wp2_with (go_at_call 267; refine (Tryz.internal_strconv_numDigits u hu1 hu64 _ (Lib.tabIs_alloc htab _)).mono ?_; rintro e w' ⟨rfl, rfl⟩)
    refine hfmt.mono ?_
    rintro e w' ⟨rfl, k, v', dk, rfl, hF⟩
    have hcv : (convert 287 9 (.slice (some ⟨w.heap.size, 0, none⟩) (Lib.nDigits u) 24)).run Tryz.prog ((putRow (fun (b : UInt8) => Value.int .u8 (b.toNat : Int)) (w.alloc (.cells Lib.zeros24 340)) w.heap.size 0 dk).drewN k) = .ok (.string ⟨(Lib.decDigits u).toArray⟩) ((putRow (fun (b : UInt8) => Value.int .u8 (b.toNat : Int)) (w.alloc (.cells Lib.zeros24 340)) w.heap.size 0 dk).drewN k) := by
      have h := run_convert_bytes_back (P := Tryz.prog) ((putRow (fun (b : UInt8) => Value.int .u8 (b.toNat : Int)) (w.alloc (.cells Lib.zeros24 340)) w.heap.size 0 dk).drewN k) 287 9 5 ⟨w.heap.size, 0, none⟩ 24 (Lib.decDigits u) Tryz.underlying287 Tryz.underlying5 Tryz.underlying9 (fun j hj => by
        rw [Lib.row_is_numeral hF j hj, Lib.add_plain, World.cell?_drewN]
        exact cell?_putRow (fun (b : UInt8) => Value.int .u8 (b.toNat : Int)) _ w.heap.size 0 _ dk HH0.out (by rw [hF.size, Array.size_replicate]) j (by rw [hF.size]; rw [Lib.decDigits_length] at hj; exact hj))
      rw [Lib.decDigits_length] at h
      exact h
    go_wp2_with fail
    go_ret
    obtain ⟨os, eo⟩ := Lib.fin_at w (.cells Lib.zeros24 340) dk k 0
    refine ⟨rfl, ?_⟩
    rw [eo]
    exact Bgrow w k os
theorem formatUint_any (B : Nat) (u : Nat) (hu64 : u < 18446744073709551616) (w : World) (hT : LNum B w) :
    Calls Tryz.prog 222 #[.int .u64 u, .int .i64 10] w fun e w' => e = .returned (S (Lib.itoa u)) ∧ Below w.heap.size w w' := by
  have h := formatUintI_any u hu64 w hT.tab
  rw [show Lib.decDigits u = Lib.itoa u from (Lib.itoa_nonneg u).symm] at h
  go_enter Tryz.func222, Tryz.ntmps222
  go_wp2_with fail
  refine h.mono ?_
  rintro e w1 ⟨rfl, hb⟩
  go_wp2_with fail
  go_ret
  exact ⟨rfl, hb⟩
end Go.Proofs.YtmhchakjkgdpmaaGreatDoor
namespace Go.Proofs.YtmhchakjkgdpmaaGreatDoor
open Go.RowKit

def snapTextR (s : Sn) : Str := if snapCheck s = .nil then snapText s else []
theorem seven_ints (h : Int → Prop) (a b c d e : Int) (ha : h a) (hb : h b) (hc : h c) (hd : h d) (he : h e) : ∀ x ∈ [a, b, c, d, e], h x := by
  intro x hx
  simp only [List.mem_cons, List.not_mem_nil, or_false] at hx
  rcases hx with rfl | rfl | rfl | rfl | rfl <;> assumption

end Go.Proofs.YtmhchakjkgdpmaaGreatDoor
namespace Go.Proofs.YtmhchakjkgdpmaaGreatDoor
open Go.RowKit

theorem cut1_any (c : UInt8) (B : Nat) (s : Str) (w : World) (hM : LMax B w) (hs : s.length ≤ 100000) :
    Calls Tryz.prog 182 #[S s, .string ⟨#[c]⟩] w fun e w' => e = .returned (.tuple #[S (Lib.cut s [c]).1, S (Lib.cut s [c]).2.1, .bool (Lib.cut s [c]).2.2]) ∧ Below w.heap.size w w' := by
  obtain ⟨m, hm⟩ := hM.max
  refine (Tryz.strings_Cut ⟨s.toArray⟩ ⟨#[c]⟩ m w (by show s.toArray.size < _; simp; omega) hm).mono ?_
  rintro e w' ⟨rfl, n, rfl⟩
  exact ⟨rfl, Bdn (Below.refl _ _) n⟩
end Go.Proofs.YtmhchakjkgdpmaaGreatDoor
namespace Go.Proofs.YtmhchakjkgdpmaaGreatDoor
open Go.RowKit

/-- A struct of seven cells, written cell by cell. -/
abbrev sev (w : World) (g : Nat) (b0 b1 b2 b3 b4 b5 b6 : Value) : World := ((((((w.setCell ⟨g, 0, none⟩ b0).setCell ⟨g, 1, none⟩ b1).setCell ⟨g, 2, none⟩ b2).setCell ⟨g, 3, none⟩ b3).setCell ⟨g, 4, none⟩ b4).setCell ⟨g, 5, none⟩ b5).setCell ⟨g, 6, none⟩ b6
theorem sev_new {w : World} {g : Nat} {t : TypeId} {fr : Nat × Nat} {a0 a1 a2 a3 a4 a5 a6 : Value} (hg : w.heap[g]? = some (.cells #[a0, a1, a2, a3, a4, a5, a6] t fr)) (b0 b1 b2 b3 b4 b5 b6 : Value) : (sev w g b0 b1 b2 b3 b4 b5 b6).heap[g]? = some (.cells #[b0, b1, b2, b3, b4, b5, b6] t fr) := by
  have h := row_setCell (row_setCell (row_setCell (row_setCell (row_setCell (row_setCell (row_setCell (i := 0) hg b0) (i := 1) b1) (i := 2) b2) (i := 3) b3) (i := 4) b4) (i := 5) b5) (i := 6) b6
  simpa using h
theorem sev_below {B : Nat} {w0 w : World} {g : Nat} (hb : Below B w0 w) (hB : B ≤ g) (b0 b1 b2 b3 b4 b5 b6 : Value) : Below B w0 (sev w g b0 b1 b2 b3 b4 b5 b6) :=
  ((((((hb.setCell (p := ⟨g, 0, none⟩) hB _).setCell (p := ⟨g, 1, none⟩) hB _).setCell (p := ⟨g, 2, none⟩) hB _).setCell (p := ⟨g, 3, none⟩) hB _).setCell (p := ⟨g, 4, none⟩) hB _).setCell (p := ⟨g, 5, none⟩) hB _).setCell (p := ⟨g, 6, none⟩) hB _

theorem sev_cell {w : World} {g : Nat} {p : Addr} (hp : p.block ≠ g) (b0 b1 b2 b3 b4 b5 b6 : Value) : (sev w g b0 b1 b2 b3 b4 b5 b6).cell? p = w.cell? p := by
  have h : ∀ (W : World) (j : Nat) (x : Value), (W.setCell ⟨g, j, none⟩ x).cell? p = W.cell? p := fun W j x => World.cell?_setCell_other _ _ _ _ (fun e => hp (by rw [← e]))
  simp only [sev, h]
/-- An error's own block is another one than a struct's. -/
theorem ErV.away {E : Nat → Addr} {w w' : World} {v : Value} {er : Er} {g : Nat} {m : Int} (h : ErV E w v er) (hc : w.cell? ⟨g, 1, none⟩ = some (.int .i64 m)) (hw : ∀ p : Addr, p.block ≠ g → w'.cell? p = w.cell? p) : ErV E w' v er := by
  cases er with
  | nil => exact h
  | bare c => exact h
  | loc c i =>
    obtain ⟨hc', fb, hv, h0, h1⟩ := h
    have hne : fb ≠ g := by rintro rfl; rw [hc] at h1; cases h1
    exact ⟨hc', fb, hv, (hw ⟨fb, 0, none⟩ hne).trans h0, (hw ⟨fb, 1, none⟩ hne).trans h1⟩
theorem Own.moved {α : Type} {enc : α → List Value} {sz : Nat} {w w' : World} {v : Value} {l : List α} {e : TypeId} {B : Nat} (hen : Enc enc sz) (h : Own enc e sz B w v l) (hw : ∀ p : Addr, B ≤ p.block → w'.cell? p = w.cell? p) : At enc sz w' v l := by
  rcases Nat.eq_zero_or_pos l.length with h0 | h0
  · obtain ⟨a, c, b, o, hv, ha, hc, hm, hx⟩ := h.at hen
    exact ⟨a, c, b, o, hv, ha, hc, hm, fun k x hk => absurd (List.getElem?_eq_some_iff.1 hk).1 (by omega)⟩
  · obtain ⟨g', cap, cur, rfl, hB, _, hc, hm, _, _⟩ := h.open h0
    refine ⟨_, cap, g', 0, rfl, fun _ => rfl, hc, hm, fun k x hk j u hu => ?_⟩
    have h1 := h.cells hen k x hk j u hu
    rw [Nat.zero_add]
    exact (hw ⟨g', k * sz + j, none⟩ hB).trans h1
theorem At.sev {w : World} {v : Value} {l : List Fl} {e : TypeId} {B g : Nat} {w' : World} (h : Own encF e 6 B w v l) (hb : Below w.heap.size w w') (hg : g < B) (b0 b1 b2 b3 b4 b5 b6 : Value) : FilesAt (sev w' g b0 b1 b2 b3 b4 b5 b6) v l := by
  exact Own.moved encF_enc (Own.below h hb) fun p hp => sev_cell (by omega) _ _ _ _ _ _ _
theorem right_mid {l : List Fl} (h : RightL l) : ∀ x ∈ l, midF x := fun x hx => by
  have := fileLine_len (h.ok x hx)
  unfold fileLine at this
  simp only [List.length_append, List.length_cons] at this
  exact ⟨by omega, by omega⟩
theorem snapRead_long {s : Str} (h : 20000 < s.length) : snapRead s = (zeroSn, .bare 2) := by unfold snapRead; rw [if_pos h]
theorem snapRead_none {s : Str} (h : ¬ 20000 < s.length) (hn : headAt s = none) : snapRead s = (zeroSn, .bare 1) := by unfold snapRead; rw [if_neg h, hn]
theorem snapRead_some {s : Str} {x : Sn} {sum : Int} (h : ¬ 20000 < s.length) (hn : headAt s = some (x, sum)) : snapRead s = bodyRead x sum (Lib.cut s [10]).2.1 := by unfold snapRead; rw [if_neg h, hn]
theorem headOf_len {l : List Str} (h : l.length ≠ 8) : headOf l = none := by
  unfold headOf
  split
  · exact absurd rfl h
  · rfl
theorem headOf_bad {t a b c d e o g : Str} (h : t ≠ kSnap) : headOf [t, a, b, c, d, e, o, g] = none := by simp only [headOf, if_neg h]
theorem headOf_nil {a b c d e o g : Str} (h : numsOf [a, b, c, d, e, g] = none) : headOf [kSnap, a, b, c, d, e, o, g] = none := by simp only [headOf, if_true, h]
theorem headOf_six {a b c d e o g : Str} {n0 n1 n2 n3 n4 n5 : Int} (h : numsOf [a, b, c, d, e, g] = some [n0, n1, n2, n3, n4, n5]) : headOf [kSnap, a, b, c, d, e, o, g] = some (⟨n0, n1, n2, n3, n4, o, []⟩, n5) := by simp only [headOf, if_true, h]
theorem eight_strs {l : List Str} (h : l.length = 8) : ∃ t a b c d e o g, l = [t, a, b, c, d, e, o, g] := by
  match l, h with
  | [t, a, b, c, d, e, o, g], _ => exact ⟨t, a, b, c, d, e, o, g, rfl⟩
theorem six_ints {l : List Int} (h : l.length = 6) : ∃ a b c d e f, l = [a, b, c, d, e, f] := by
  match l, h with
  | [a, b, c, d, e, f], _ => exact ⟨a, b, c, d, e, f, rfl⟩

end Go.Proofs.YtmhchakjkgdpmaaGreatDoor
namespace Go.Proofs.YtmhchakjkgdpmaaGreatDoor
open Go.RowKit

theorem grown_set (w : World) (g i : Nat) (x : Value) : w.grownBy (w.setCell ⟨g, i, none⟩ x) (some g) := by
  refine ⟨rfl, rfl, rfl, by simp [World.setCell], fun k _ hne => ?_⟩
  have : g ≠ k := fun e => hne (by rw [e])
  simp [World.setCell, Array.getElem?_modify, this]
theorem Own.store {α : Type} {enc : α → List Value} {e : TypeId} {sz B : Nat} {w : World} {v : Value} {l : List α} (h : Own enc e sz B w v l) {g : Nat} (hg : g < B) (i : Nat) (x : Value) : Own enc e sz B (w.setCell ⟨g, i, none⟩ x) v l := by
  refine World.ownsRow.kept h (grown_set w g i x) ?_
  cases hv : v.ownBlock with
  | none => exact .inl rfl
  | some k =>
    refine .inr fun e => ?_
    cases e
    have := (World.ownsRow.lt h g hv).1
    omega
end Go.Proofs.YtmhchakjkgdpmaaGreatDoor
