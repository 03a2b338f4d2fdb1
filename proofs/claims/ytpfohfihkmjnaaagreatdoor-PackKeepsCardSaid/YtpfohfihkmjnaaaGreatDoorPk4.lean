/- The model of a store: Put. Rising lists of texts without doubles: a text more; sorted and compacted. Of no program. Package meta in plain words: of no program. Lists of files in plain words: of no program. A text cut by a byte: strings.Split by one byte, in plain words. Lists of files written and read, in plain words. Of no program. The checksum in plain words: of each byte what its bits make; one byte another one, and the sum is another one. Of no program. Texts in a block: a head of a word and four numbers, a body of lines; one byte of it turned. In plain words. Rising lists of numbers without doubles; sorted and compacted; the least and the greatest. Of no program. -/
import Derived.Test.YtpfohfihkmjnaaaGreatDoorPk3
import Derived.Deep.CutBlock
import Derived.Deep.DeepCutAuto
import Derived.Deep.RegionLaw
import Derived.Test.YtpfohfihkmjnaaaGreatDoorPk1
import Derived.Lib.SlicesCompact
import Derived.Test.YtpfohfihkmjnaaaGreatDoorPk2
import Derived.Lib.SplitLaws
namespace Go.Proofs.YtpfohfihkmjnaaaGreatDoor
open Go.RowKit Go.Maps
theorem putO_at {x : Ob} : ∀ {l : List Ob} {k : Nat}, k ≤ l.length → (∀ j < k, ∀ o, l[j]? = some o → bef x.name o.name = false) → (∀ o, l[k]? = some o → bef x.name o.name = true) → putO x l = l.take k ++ x :: l.drop k
  | [], 0, _, _, _ => rfl
  | [], _ + 1, h, _, _ => by simp at h
  | a :: r, 0, _, _, h => by unfold putO; rw [if_pos (h a rfl)]; rfl
  | a :: r, k + 1, hk, h, h2 => by
    unfold putO
    rw [if_neg (by rw [h 0 (by omega) a rfl]; decide)]
    rw [putO_at (k := k) (by simpa using hk) (fun j hj o ho => h (j + 1) (by omega) o (by simpa using ho)) (fun o ho => h2 o (by simpa using ho))]
    rfl
theorem less_bef : ∀ a b : Str, Op.bytesLess a b = bef a b
  | [], [] => by simp [Op.bytesLess, bytesBefore]
  | [], _ :: _ => by simp [Op.bytesLess, bytesBefore]
  | _ :: _, [] => by simp [Op.bytesLess, bytesBefore]
  | a :: r, b :: s => by
    have ih := less_bef r s
    show Op.bytesLess (a :: r) (b :: s) = (decide (a < b) || (a == b && bytesBefore r s))
    unfold Op.bytesLess
    rw [ih]
theorem bef_asym {a b : Str} (h : bef a b = true) : bef b a = false := by
  cases hb : bef b a with
  | false => rfl
  | true =>
    have := bef_trans h hb
    rw [bef_irr] at this; cases this
theorem own_base {α : Type} {enc : α → List Value} {e : TypeId} {sz B B' : Nat} {w : World} {v : Value} {l : List α} (h : Own enc e sz B' w v l) (hB : B ≤ B') : Own enc e sz B w v l := by
  obtain ⟨h1, h2⟩ := h
  refine ⟨h1, ?_⟩
  rcases h2 with h0 | ⟨g, cap, cur, hv, hg, rest⟩
  · exact .inl h0
  · exact .inr ⟨g, cap, cur, hv, Nat.le_trans hB hg, rest⟩
theorem own_shape {α : Type} {enc : α → List Value} {e : TypeId} {sz B : Nat} {w : World} {v : Value} {l : List α} (h : Own enc e sz B w v l) : (v = .slice none 0 0 ∧ l = []) ∨ ∃ g cap, v = .slice (some ⟨g, 0, none⟩) l.length cap ∧ l.length ≤ cap ∧ cap ≤ maxLen := by
  obtain ⟨h1, h2⟩ := h
  rcases h2 with ⟨rfl, h0⟩ | ⟨g, cap, cur, hv, _, _, hn, hm, _⟩
  · exact .inl ⟨rfl, List.eq_nil_of_length_eq_zero h0⟩
  · exact .inr ⟨g, cap, hv, hn, hm⟩
section
variable {α : Type} {enc : α → List Value} {sz n cap g k : Nat} {w : World} {l : List α}
theorem At.takeS (h : At enc sz w (.slice (some ⟨g, 0, none⟩) n cap) l) (hk : k ≤ l.length) : At enc sz w (.slice (some ⟨g, 0, none⟩) k cap) (l.take k) := by
  obtain ⟨a, c, b, o, hv, ha, hc, hm, hx⟩ := h
  cases hv
  have hl : (l.take k).length = k := by rw [List.length_take]; omega
  refine ⟨some ⟨g, 0, none⟩, cap, b, o, by rw [hl], fun h0 => ha (by omega), by omega, hm, fun i x hi j u hu => hx i x ?_ j u hu⟩
  rw [List.getElem?_take] at hi
  split at hi
  · exact hi
  · cases hi
theorem At.dropS (h : At enc sz w (.slice (some ⟨g, 0, none⟩) n cap) l) (hk : k ≤ l.length) : At enc sz w (.slice (some ⟨g, k * sz, none⟩) (l.length - k) (cap - k)) (l.drop k) := by
  obtain ⟨a, c, b, o, hv, ha, hc, hm, hx⟩ := h
  cases hv
  have hl : (l.drop k).length = l.length - k := List.length_drop
  refine ⟨some ⟨g, k * sz, none⟩, cap - k, g, k * sz, by rw [hl], fun _ => rfl, by omega, by omega, fun i x hi j u hu => ?_⟩
  rw [List.getElem?_drop] at hi
  have hlt := (List.getElem?_eq_some_iff.1 hi).1
  have h1 := hx _ x hi j u hu
  have h2 := ha (by omega)
  cases h2
  rw [show k * sz + i * sz + j = 0 + (k + i) * sz + j by rw [Nat.add_mul]; omega]
  exact h1
end
theorem wpList_here {P : Program} {w : World} {ops : Array Oper} {l : List Oper} {a : Act} {Q : Exit → Act → World → Prop} (h : wpList P ops Q l a w ∧ True) : wpList P ops Q l a w := h.1
theorem elOb : ElemInfo Tryz.prog 129 153 3 40 := elemInfo_of Tryz.underlying129 (z := .agg #[.string ByteArray.empty, .string ByteArray.empty, .int .i64 0]) (by kernel_rfl) rfl (by decide)
/-- append, as a step of a region that draws its order. -/
theorem step_app {P : Program} {ops : Array Oper} {o : Oper} {a : Act} {w : World} {K : Act → World → Prop} {Q : Exit → Act → World → Prop} {E : Prop} (hgd : o.guard = none) (s x : Operand) (t : TypeId)
    (ho : o.op = .call { callee := .builtin .append, args := #[s, x], argTypes := #[t, t] }) (base : Nat) {e : TypeId} {size bytes : Nat} (hE : ElemInfo P t e size bytes)
    (v : Value) (n : Nat) (xs : List Value) (hs : a.eval s = v) (hown : w.ownsRow base e size v n xs) (xv : Value) (m : Nat) (news : List Value) (hx : a.eval x = xv) (hsrc : SrcAt w size xv m news)
    (h63 : n + m ≤ maxLen) (hbytes : (n + m) * bytes ≤ 140737488355328) (hbase : base ≤ w.heap.size)
    (hK : ∀ v' w', w'.ownsRow base e size v' (n + m) (xs ++ news) → w.grownBy w' v.ownBlock → (v'.ownBlock = v.ownBlock ∨ v'.ownBlock = some w.heap.size) → K (a.put o.dst v') w') :
    if Region.wanted o (yielded ops a.tmps) = true then Oper.wp P o a w K Q else E := by
  have hw : Region.wanted o (yielded ops a.tmps) = true := by simp [Region.wanted, hgd]
  rw [if_pos hw]
  obtain ⟨v', w', hr, h2, h3, h4⟩ := run_app (P := P) w base t o.type e size bytes hE v n xs hown xv m news hsrc h63 hbytes hbase
  unfold Oper.wp execOp
  simp only [ho, resolve, invoke, builtin, Sem.run_bind, Sem.run_pure, Result.andThen_ok, List.map_toArray, List.map_cons, List.map_nil, hs, hx, hr]
  exact hK _ _ h2 h3 h4
theorem total_take {l : List Ob} {k : Nat} {x : Ob} (h : l[k]? = some x) : total (l.take (k + 1)) = total (l.take k) + x.text.length := by
  unfold total
  rw [List.take_add_one, h]
  simp
set_option maxRecDepth 20000 in
set_option maxHeartbeats 4000000 in
theorem putM_any (B xb : Nat) (v : Value) (s : St) (n t : Str) (w : World) (h : ModAt w B xb v s) (hn : n.length ≤ 100000) (ht : t.length ≤ 100000) (hB : B ≤ w.heap.size) :
    Calls Tryz.prog 37 #[stP xb, S n, S t] w fun e w' => ∃ v', e = .returned (.int .i64 ((putE s n t).code : Int)) ∧ ModAt w' B xb v' (putS s n t) ∧ But2 xb xb w w' := by
  have H := Lib.hid h
  unfold putE putS
  by_cases g1 : nameOkS n = true
  case neg =>
    have g1 : nameOkS n = false := by simpa using g1
    simp only [g1, if_true, true_or]
    go_enter Tryz.func37, Tryz.ntmps37
    go_wp2_with fail
    refine (isObject_any n _ hn).mono ?_
    rintro e w1 ⟨rfl, hb1⟩
    rw [g1]
    go_wp2_with fail
    go_ret
    exact ⟨_, rfl, H.out.below hb1, .of hb1⟩
  have hn16 := nameOk_len g1
  by_cases g2 : 20000 < t.length
  case pos =>
    simp only [g1, g2, if_true, true_or, or_true, Bool.true_eq_false, if_false]
    have g2 : (20000 : Int) < (t.length : Int) := by omega
    clear h
    go_enter Tryz.func37, Tryz.ntmps37
    go_wp2_with fail
    refine (isObject_any n _ hn).mono ?_
    rintro e w1 ⟨rfl, hb1⟩
    rw [g1]
    go_wp2_with fail
    go_ret
    exact ⟨_, rfl, H.out.below hb1, .of hb1⟩
  have k2 : (t.length : Int) ≤ 20000 := by omega
  by_cases g3 : s.off = true
  case pos =>
    simp only [g1, g2, g3, if_true, true_or, or_true, Bool.true_eq_false, if_false]
    clear h
    go_enter Tryz.func37, Tryz.ntmps37
    go_wp2_with fail
    refine (isObject_any n _ hn).mono ?_
    rintro e w1 ⟨rfl, hb1⟩
    have c3 := (H.out.below hb1).c3
    rw [g3] at c3
    rw [g1]
    go_wp2_with fail
    go_ret
    exact ⟨_, rfl, H.out.below hb1, .of hb1⟩
  have g3 : s.off = false := by simpa using g3
  cases hg : getO s.objs n with
  | some y =>
    simp only [g1, g2, g3, Option.isSome_some, if_true, true_or, or_true, Bool.true_eq_false, if_false, Bool.false_eq_true]
    clear h
    go_enter Tryz.func37, Tryz.ntmps37
    go_wp2_with fail
    refine (isObject_any n _ hn).mono ?_
    rintro e w1 ⟨rfl, hb1⟩
    have H1 := Lib.hid (H.out.below hb1)
    have c3 := H1.out.c3
    rw [g3] at c3
    rw [g1]
    go_wp2_with fail
    refine (findM_any B xb v s n _ H1.out).mono ?_
    rintro e w2 ⟨r, rfl, hr, hb2⟩
    rcases hr.got H.out.ok.ris with ⟨k, x, rfl, hk, hxk, hnm, hg2⟩ | ⟨rfl, hg2⟩
    · clear hr hxk hnm hg hg2 hk
      go_wp2_with fail
      go_ret
      exact ⟨_, rfl, H1.out.below hb2, .of (hb1.trans (hb2.mono hb1.size))⟩
    · rw [hg] at hg2; cases hg2
  | none =>
    have HG := Lib.hid hg
    have hnum := h.ok.num
    have htot := total_le h.ok
    obtain ⟨a, c, b, o, hv, ha, -, hm, hx⟩ := h.own.at encO_enc
    subst hv
    unfold maxLen at hm
    simp only [g1, g2, g3, Option.isSome_none, Bool.true_eq_false, if_false, Bool.false_eq_true, false_or]
    go_enter Tryz.func37, Tryz.ntmps37
    go_wp2_with fail
    refine (isObject_any n _ hn).mono ?_
    rintro e w1 ⟨rfl, hb1⟩
    have H1 := Lib.hid (H.out.below hb1)
    have c3 := H1.out.c3
    rw [g3] at c3
    rw [g1]
    go_wp2_with fail
    refine (findM_any B xb _ s n _ H1.out).mono ?_
    rintro e w2 ⟨r, rfl, hr, hb2⟩
    have hb2' := hb1.trans (hb2.mono hb1.size)
    rcases hr.got H.out.ok.ris with ⟨k, x, rfl, hk, hxk, hnm, hg2⟩ | ⟨rfl, hg2⟩
    · rw [hg] at hg2; cases hg2
    clear hr hg hg2 c3 hb1 hb2 h
    have c0 := (H.out.below hb2').c0
    go_wp2_with fail
    go_loopw [8, 9] (fun nv i wr => ∃ k : Nat, k ≤ s.objs.length ∧ i = .int .i64 k ∧ nv = .int .i64 ((t.length : Int) + (total (s.objs.take k) : Int)) ∧ Below w.heap.size w wr) (fun _ i _ => s.objs.length - (intOf i).toNat)
    case atStart => exact ⟨0, by omega, rfl, by simp [total], hb2'⟩
    case round =>
      obtain ⟨k, hk, rfl, rfl, hb⟩ := hrel
      clear c0
      have c0 := (H.out.below hb).c0
      by_cases hlt : k < s.objs.length
      case pos =>
        have f : (k : Int) < (s.objs.length : Int) := by omega
        obtain ⟨x, hxk⟩ := get_ex hlt
        have q1 := hx k x hxk 1 _ rfl
        have q1 := (hb.cell (World.block_lt_of_cell? w _ q1)).trans q1
        have i1 := idx_at (c := c) 3 Tryz.underlying129 szOb ha k hlt
        have htt := total_take hxk
        have hxl := H.out.ok.txt x (List.mem_of_getElem? hxk)
        have hle : total (s.objs.take (k + 1)) ≤ 4000000 := Nat.le_trans (by
          have := total_len (l := s.objs.take (k + 1)) (fun o ho => H.out.ok.txt o (List.mem_of_mem_take ho))
          rw [List.length_take] at this
          exact Nat.le_trans this (Nat.mul_le_mul_right _ (by omega))) (by omega : 200 * 20000 ≤ 4000000)
        have HT := Lib.hid htt
        have b1 : (total (s.objs.take k) : Int) + (x.text.length : Int) ≤ 4000000 := by omega
        clear hxk htt hle
        go_wp2_with fail
        exact ⟨⟨k + 1, by omega, by go_num, congrArg (Value.int .i64) (by have := HT.out; omega), hb⟩, by simp [intOf]; omega⟩
      case neg =>
        have f : decide ((k : Int) < (s.objs.length : Int)) = false := by simp; omega
        obtain rfl : k = s.objs.length := by omega
        rw [List.take_length]
        by_cases g5 : 200 ≤ s.objs.length
        case pos =>
          have g5' : (200 : Int) ≤ (s.objs.length : Int) := by omega
          have gf : 200 ≤ s.objs.length ∨ 262144 < total s.objs + t.length := .inl g5
          go_wp2_with fail
          go_ret
          exact ⟨rfl, ⟨_, H.out.below hb⟩, .of hb⟩
        by_cases g6 : 262144 < total s.objs + t.length
        case pos =>
          have g5' : decide ((200 : Int) ≤ (s.objs.length : Int)) = false := by simp; omega
          have g6' : (262144 : Int) < (t.length : Int) + (total s.objs : Int) := by omega
          have gf : 200 ≤ s.objs.length ∨ 262144 < total s.objs + t.length := .inr g6
          go_wp2_with fail
          go_ret
          exact ⟨rfl, ⟨_, H.out.below hb⟩, .of hb⟩
        have g5' : decide ((200 : Int) ≤ (s.objs.length : Int)) = false := by simp; omega
        have g6' : decide ((262144 : Int) < (t.length : Int) + (total s.objs : Int)) = false := by simp; omega
        have g7 : ¬ (200 ≤ s.objs.length ∨ 262144 < total s.objs + t.length) := by omega
        go_upto_block 2 with fail
        go_cut [10] (fun u wx => ∃ k : Nat, u = .int .i64 k ∧ k ≤ s.objs.length ∧ (∀ j < k, ∀ x, s.objs[j]? = some x → bef n x.name = false) ∧ (∀ x, s.objs[k]? = some x → bef n x.name = true) ∧ Below w.heap.size w wx)
        case first =>
          go_wp2_with fail
          go_loopw [10] (fun u wx => ∃ k : Nat, u = .int .i64 k ∧ k ≤ s.objs.length ∧ Hid (∀ j < k, ∀ x, s.objs[j]? = some x → bef n x.name = false) ∧ Below w.heap.size w wx) (fun i _ => s.objs.length - (intOf i).toNat)
          case atStart => exact ⟨0, rfl, by omega, Lib.hid fun j hj => absurd hj (by omega), hb⟩
          case round =>
            obtain ⟨k, rfl, hk, hj, hb⟩ := hrel
            clear c0
            have c0 := (H.out.below hb).c0
            by_cases hlt : k < s.objs.length
            case neg =>
              have f : decide ((k : Int) < (s.objs.length : Int)) = false := by simp; omega
              go_wp2_with fail
              go_meet
              refine ⟨k, rfl, hk, hj.out, ?_, hb⟩
              intro x hx
              rw [List.getElem?_eq_none (by omega)] at hx
              cases hx
            have f : (k : Int) < (s.objs.length : Int) := by omega
            obtain ⟨x, hxk⟩ := get_ex hlt
            have q0 := hx k x hxk 0 _ rfl
            have q0 := (hb.cell (World.block_lt_of_cell? w _ q0)).trans q0
            have i1 := idx_at (c := c) 3 Tryz.underlying129 szOb ha k hlt
            simp only [Nat.add_zero] at q0
            have HX := Lib.hid hxk
            clear hxk
            go_wp2_with fail
            · rename_i hle
              refine ⟨⟨k + 1, by go_num, by omega, Lib.hid fun j hj' y hy => ?_, hb⟩, by simp [intOf]; omega⟩
              rcases Nat.lt_or_ge j k with h | h
              · exact hj.out j h y hy
              · obtain rfl : j = k := by omega
                rw [HX.out] at hy
                cases hy
                exact bef_asym ((less_bef _ _).symm.trans hle)
            · rename_i hle
              go_meet
              refine ⟨k, rfl, hk, hj.out, fun y hy => ?_, hb⟩
              rw [HX.out] at hy
              cases hy
              exact bef_tri (fun e => getO_none.1 HG.out _ (List.mem_of_getElem? HX.out) e) ((less_bef _ _).symm.trans hle)
        case rest =>
          obtain ⟨k, rfl, hk, hj, hk2, hb⟩ := hcut
          have hput := putO_at (x := ⟨n, t.take (wrote s t.length), s.day⟩) hk hj hk2
          have HP := Lib.hid hput
          have HB := Lib.hid hb
          clear hj hk2 hput
          go_wp2_with fail
          refine (written_any B xb _ s t.length _ (H.out.below hb) ht).mono ?_
          rintro e w3 ⟨rfl, h3, hb3⟩
          have hwl := wrote_le s t.length
          clear c0
          have c0 := h3.c0
          have c2 := h3.c2
          rw [aft_day] at c2
          have H3 := Lib.hid h3
          have hs23 : _ ≤ w3.heap.size := hb3.size
          have HB3 := Lib.hid ((But2.of (sb := xb) (mb := xb) hb).trans hb3)
          clear h3 hb3 hb
          have hsh := own_shape H.out.own
          rcases hsh with ⟨hv, hnil⟩ | ⟨g, cap, hv, hcap, hcm⟩
          · have hl0 : s.objs.length = 0 := by rw [hnil]; rfl
            obtain hk0 : k = 0 := by omega
            have HNIL := Lib.hid hnil
            clear hnil
            simp only [Value.slice.injEq] at hv
            obtain ⟨rfl, -, rfl⟩ := hv
            rw [hl0] at c0
            subst hk0
            have hsn : ∀ (W : World) (a' : Option Addr) (c' : Nat), SrcAt W 3 (.slice a' 0 c') 0 [] := fun W a' c' => ⟨a', c', rfl, rfl, fun u hu => (by cases hu), fun h0 => absurd h0 (by decide)⟩
            have htl : (s.objs.take 0).length = 0 := by rw [List.length_take]; omega
            have hdl : (s.objs.drop 0).length = s.objs.length - 0 := List.length_drop
            have htk : s.objs.take 0 = [] := rfl
            have hdk : s.objs.drop 0 = [] := by rw [HNIL.out]; rfl
            go_wp2_with (at_builtin; refine wpList_app rfl _ _ _ rfl w3.heap.size elOb (.slice none 0 0) 0 [] rfl (Own.nil encO _ 3 _ _) _ 0 [] rfl (hsn _ _ _) (by unfold maxLen; omega) (by omega) (Nat.le_refl _) ?_; intro u4 w4 ho4 hg4 hn4)
            have hb4 : Below w3.heap.size w3 w4 := Bapp (Below.refl _ w3) (Own.nil encO 153 3 w3.heap.size w3) hg4 (Nat.le_refl _) (Nat.le_refl _)
            have ho4 : Own encO 153 3 w3.heap.size w4 u4 (s.objs.take 0) := by rw [htk]; unfold Own; simpa using ho4
            clear hg4 hn4
            have H4 := Lib.hid (H3.out.below (Bd1 hb4))
            have ho4 := ho4.drewN 1
            have hb4 : Below w3.heap.size w3 (w4.drewN 1) := Bdn hb4 1
            clear c0 c2
            have c0 := H4.out.c0
            rw [hl0] at c0
            have c2 := H4.out.c2
            rw [aft_day] at c2
            obtain ⟨wr', hwr'⟩ : ∃ m, wrote s t.length = m := ⟨_, rfl⟩
            rw [hwr']
            have hwi : (wr' : Int) ≤ (t.length : Int) := by omega
            have HWR := Lib.hid hwr'
            clear hwr'
            have ho4' : w4.drew.ownsRow w3.heap.size 153 3 u4 0 ((s.objs.take 0).flatMap encO) := by
              have : w4.drew.ownsRow w3.heap.size 153 3 u4 (s.objs.take 0).length ((s.objs.take 0).flatMap encO) := ho4
              rwa [htl] at this
            have hs34 : w3.heap.size ≤ w4.heap.size := hb4.size
            have hsrc : SrcAt ((w4.alloc (.cells #[S n, .string ((ByteArray.mk t.toArray).extract 0 wr'), .int .i64 s.day] 153)).drew) 3 (.slice (some ⟨w4.heap.size, 0, none⟩) 1 1) 1 [S n, .string ((ByteArray.mk t.toArray).extract 0 wr'), .int .i64 s.day] := src_one (w := w4) rfl rfl (by simp [Value.oneCell'])
            go_region_law ((refine step_app rfl _ _ _ rfl w3.heap.size elOb u4 0 _ rfl (World.ownsRow.alloc ho4' _) (.slice (some ⟨w4.heap.size, 0, none⟩) 1 1) 1 _ rfl hsrc (by unfold maxLen; omega) (by omega) (by simp; omega) ?_; intro u5 w5 ho5 hg5 hn5))
            have hb5 : Below w3.heap.size w3 w5 := Bapp (hb4.alloc hb4.size _) (Own.alloc (Own.drewN ho4 0) _) hg5 (Nat.le_refl _) (by simp; omega)
            clear hg5 hn5 hsrc c0 c2 ho4'
            have H5 := Lib.hid (H3.out.below hb5)
            have c0 := H5.out.c0
            rw [hl0] at c0
            have f0 := H5.out.fz 0
            have hx5 : (take_ext t wr').symm = (take_ext t wr').symm := rfl
            rw [← take_ext] at ho5
            have ho5 : Own encO 153 3 w3.heap.size w5 u5 (s.objs.take 0 ++ [⟨n, t.take wr', s.day⟩]) := Own.snoc (x := (⟨n, t.take wr', s.day⟩ : Ob)) (by rw [htl]; exact ho5)
            have hl5 : (s.objs.take 0 ++ [(⟨n, t.take wr', s.day⟩ : Ob)]).length = 0 + 1 := by simp
            clear hx5
            have hs35 : w3.heap.size ≤ w5.heap.size := hb5.size
            have ho5' : w5.ownsRow w3.heap.size 153 3 u5 (0 + 1) ((s.objs.take 0 ++ [(⟨n, t.take wr', s.day⟩ : Ob)]).flatMap encO) := by
              have := ho5
              unfold Own at this
              rwa [hl5] at this
            go_wp2_with (at_builtin; refine wpList_here ?_)
            all_goals
              refine ⟨?_, trivial⟩
              refine wpList_app rfl _ _ _ rfl w3.heap.size elOb u5 (0 + 1) _ rfl ho5' _ 0 [] rfl (hsn _ _ _) (by unfold maxLen; omega) (by omega) (by omega) ?_
              intro u6 w6 ho6 hg6 hn6
              have hb6 := Bapp hb5 ho5 hg6 (Nat.le_refl _) hs35
              have H6 := Lib.hid (H3.out.below hb6)
              have c0' := H6.out.c0
              rw [hl0] at c0'
              have f0' := H6.out.fz 0
              have hl6 : ((s.objs.take 0 ++ [(⟨n, t.take wr', s.day⟩ : Ob)]) ++ s.objs.drop 0).length = 0 + 1 + (s.objs.length - 0) := by rw [List.length_append, hl5, List.length_drop]
              have ho6' : Own encO 153 3 w3.heap.size w6 u6 ((s.objs.take 0 ++ [(⟨n, t.take wr', s.day⟩ : Ob)]) ++ s.objs.drop 0) := by
                unfold Own
                rw [hl6, List.flatMap_append, hdk, hl0]
                exact ho6
              have hlist : (s.objs.take 0 ++ [(⟨n, t.take wr', s.day⟩ : Ob)]) ++ s.objs.drop 0 = putO ⟨n, t.take (wrote s t.length), s.day⟩ s.objs := by
                rw [HP.out, HWR.out]; simp
              rw [hlist] at ho6'
              have hxb3 : xb < w3.heap.size := H3.out.lt
              have hne6 : u6.ownBlock ≠ some xb := fun e => by
                have := (World.ownsRow.lt ho6' _ e).1
                omega
              have hbd : Own encO 153 3 B w6 u6 (putO ⟨n, t.take (wrote s t.length), s.day⟩ s.objs) := own_base ho6' (Nat.le_trans hB (Nat.le_trans HB.out.size (Nat.le_trans hs23 (Nat.le_refl _))))
              have hokf : St.Ok { aft s t.length with objs := putO ⟨n, t.take (wrote s t.length), s.day⟩ s.objs } := by
                have := H3.out.ok.put (n := n) (t := t.take (wrote s t.length)) (d := s.day) (by omega) (by rw [List.length_take]; omega) (by rw [aft_objs]; exact HG.out) (by rw [aft_objs]; omega)
                rwa [aft_objs] at this
              have hF : ModAt (w6.setCell ⟨xb, 0, none⟩ u6) B xb u6 { aft s t.length with objs := putO ⟨n, t.take (wrote s t.length), s.day⟩ s.objs } :=
                ⟨heap_setCell_same w6 xb 0 _ _ u6 H6.out.blk, own_but hbd hne6 hne6 (But2.set (mb := xb) w6 0 u6), hokf⟩
              have c3f := hF.c3
              simp only at c3f
              have HFF := Lib.hid hF
              have HBF := Lib.hid ((HB3.out.trans (.of hb6)).trans (But2.set (mb := xb) w6 0 u6))
              have hsh6 := own_shape ho6'
              rw [putO_length, hl0, Nat.zero_add] at hsh6
              clear hF hbd ho6' ho6 hg6 hn6 hlist hl6 c0 f0 hne6 hokf
              rcases hsh6 with ⟨_, he⟩ | ⟨g6, cap6, rfl, _, _⟩
              · have := congrArg List.length he
                rw [putO_length] at this
                simp at this
              obtain ⟨af, haf⟩ : ∃ af, (aft s t.length).off = af := ⟨_, rfl⟩
              rw [haf] at c3f
              have HAF := Lib.hid haf
              clear haf
              cases af with
              | true =>
                go_wp2_with fail
                all_goals first
                  | (go_ret
                     exact ⟨rfl, ⟨_, by have := HFF.out; rw [HAF.out] at this; exact this⟩, HBF.out⟩)
                  | (go_ret
                     exact ⟨by rw [HAF.out]; rfl, ⟨_, HFF.out⟩, HBF.out⟩)
                  | (go_ret
                     exact ⟨_, by rw [HAF.out]; rfl, HFF.out, HBF.out⟩)
                  | (exfalso
                     have h1 := HAF.out
                     first
                       | exact h h1
                       | (rw [h1] at h; cases h))
              | false =>
                go_wp2_with fail
                all_goals first
                  | (go_ret
                     exact ⟨rfl, ⟨_, by have := HFF.out; rw [HAF.out] at this; exact this⟩, HBF.out⟩)
                  | (go_ret
                     exact ⟨by rw [HAF.out]; rfl, ⟨_, HFF.out⟩, HBF.out⟩)
                  | (go_ret
                     exact ⟨_, by rw [HAF.out]; rfl, HFF.out, HBF.out⟩)
                  | (exfalso
                     have h1 := HAF.out
                     first
                       | exact h h1
                       | (rw [h1] at h; cases h))
          · cases hv
            have hA3 := Lib.hid (H3.out.own.at encO_enc)
            rw [aft_objs] at hA3
            have s1 := Lib.hid (At.src encO_enc (by decide) (hA3.out.takeS hk))
            have s2 := Lib.hid (At.src encO_enc (by decide) (hA3.out.dropS hk))
            have k1 : (k : Int) ≤ (s.objs.length : Int) := by omega
            have k2' : (s.objs.length : Int) ≤ (c : Int) := by omega
            have k3 : (k : Int) ≤ (c : Int) := by omega
            have htl : (s.objs.take k).length = k := by rw [List.length_take]; omega
            have hdl : (s.objs.drop k).length = s.objs.length - k := List.length_drop
            rw [htl] at s1
            rw [hdl] at s2
            go_wp2_with (at_builtin; refine wpList_app rfl _ _ _ rfl w3.heap.size elOb (.slice none 0 0) 0 [] rfl (Own.nil encO _ 3 _ _) (.slice (some ⟨g, 0, none⟩) k c) k _ rfl s1.out (by unfold maxLen; omega) (by omega) (Nat.le_refl _) ?_; intro u4 w4 ho4 hg4 hn4)
            have hb4 : Below w3.heap.size w3 w4 := Bapp (Below.refl _ w3) (Own.nil encO 153 3 w3.heap.size w3) hg4 (Nat.le_refl _) (Nat.le_refl _)
            have ho4 : Own encO 153 3 w3.heap.size w4 u4 (s.objs.take k) := by unfold Own; rw [htl]; simpa using ho4
            clear hg4 hn4
            have H4 := Lib.hid (H3.out.below (Bd1 hb4))
            have ho4 := ho4.drewN 1
            have hb4 : Below w3.heap.size w3 (w4.drewN 1) := Bdn hb4 1
            clear c0 c2
            have c0 := H4.out.c0
            have c2 := H4.out.c2
            rw [aft_day] at c2
            obtain ⟨wr', hwr'⟩ : ∃ m, wrote s t.length = m := ⟨_, rfl⟩
            rw [hwr']
            have hwi : (wr' : Int) ≤ (t.length : Int) := by omega
            have HWR := Lib.hid hwr'
            clear hwr'
            have ho4' : w4.drew.ownsRow w3.heap.size 153 3 u4 k ((s.objs.take k).flatMap encO) := by
              have : w4.drew.ownsRow w3.heap.size 153 3 u4 (s.objs.take k).length ((s.objs.take k).flatMap encO) := ho4
              rwa [htl] at this
            have hs34 : w3.heap.size ≤ w4.heap.size := hb4.size
            have hsrc : SrcAt ((w4.alloc (.cells #[S n, .string ((ByteArray.mk t.toArray).extract 0 wr'), .int .i64 s.day] 153)).drew) 3 (.slice (some ⟨w4.heap.size, 0, none⟩) 1 1) 1 [S n, .string ((ByteArray.mk t.toArray).extract 0 wr'), .int .i64 s.day] := src_one (w := w4) rfl rfl (by simp [Value.oneCell'])
            go_region_law ((refine step_app rfl _ _ _ rfl w3.heap.size elOb u4 k _ rfl (World.ownsRow.alloc ho4' _) (.slice (some ⟨w4.heap.size, 0, none⟩) 1 1) 1 _ rfl hsrc (by unfold maxLen; omega) (by omega) (by simp; omega) ?_; intro u5 w5 ho5 hg5 hn5))
            have hb5 : Below w3.heap.size w3 w5 := Bapp (hb4.alloc hb4.size _) (Own.alloc (Own.drewN ho4 0) _) hg5 (Nat.le_refl _) (by simp; omega)
            clear hg5 hn5 hsrc c0 c2 ho4'
            have H5 := Lib.hid (H3.out.below hb5)
            have c0 := H5.out.c0
            have f0 := H5.out.fz 0
            have hx5 : (take_ext t wr').symm = (take_ext t wr').symm := rfl
            rw [← take_ext] at ho5
            have ho5 : Own encO 153 3 w3.heap.size w5 u5 (s.objs.take k ++ [⟨n, t.take wr', s.day⟩]) := Own.snoc (x := (⟨n, t.take wr', s.day⟩ : Ob)) (by rw [htl]; exact ho5)
            have hl5 : (s.objs.take k ++ [(⟨n, t.take wr', s.day⟩ : Ob)]).length = k + 1 := by simp [htl]
            clear hx5
            have hA5 := H5.out.own.at encO_enc
            rw [aft_objs] at hA5
            have s5 := At.src encO_enc (by decide) (hA5.dropS hk)
            rw [hdl] at s5
            have s5'' : ∀ (a' : Option Addr) (c' : Nat), s.objs.length = k → SrcAt w5 3 (.slice a' (s.objs.length - k) c') (s.objs.length - k) ((s.objs.drop k).flatMap encO) := by
              intro a' c' he
              have hd : s.objs.drop k = [] := List.drop_eq_nil_of_le (by omega)
              rw [hd]
              exact ⟨a', c', rfl, by simp; omega, fun u hu => (by cases hu), fun h0 => absurd h0 (by omega)⟩
            clear hA5 s1 s2 hA3
            have hs35 : w3.heap.size ≤ w5.heap.size := hb5.size
            have ho5' : w5.ownsRow w3.heap.size 153 3 u5 (k + 1) ((s.objs.take k ++ [(⟨n, t.take wr', s.day⟩ : Ob)]).flatMap encO) := by
              have := ho5
              unfold Own at this
              rwa [hl5] at this
            go_wp2_with (at_builtin; refine wpList_here ?_)
            all_goals
              refine ⟨?_, trivial⟩
              refine wpList_app rfl _ _ _ rfl w3.heap.size elOb u5 (k + 1) _ rfl ho5' _ (s.objs.length - k) ((s.objs.drop k).flatMap encO) rfl (by first | exact s5 | exact s5'' _ _ (by omega)) (by unfold maxLen; omega) (by omega) (by omega) ?_
              intro u6 w6 ho6 hg6 hn6
              have hb6 := Bapp hb5 ho5 hg6 (Nat.le_refl _) hs35
              have H6 := Lib.hid (H3.out.below hb6)
              have c0' := H6.out.c0
              have f0' := H6.out.fz 0
              have hl6 : ((s.objs.take k ++ [(⟨n, t.take wr', s.day⟩ : Ob)]) ++ s.objs.drop k).length = k + 1 + (s.objs.length - k) := by rw [List.length_append, hl5, List.length_drop]
              have ho6' : Own encO 153 3 w3.heap.size w6 u6 ((s.objs.take k ++ [(⟨n, t.take wr', s.day⟩ : Ob)]) ++ s.objs.drop k) := by
                unfold Own
                rw [hl6, List.flatMap_append]
                exact ho6
              have hlist : (s.objs.take k ++ [(⟨n, t.take wr', s.day⟩ : Ob)]) ++ s.objs.drop k = putO ⟨n, t.take (wrote s t.length), s.day⟩ s.objs := by
                rw [HP.out, HWR.out]; simp
              rw [hlist] at ho6'
              have hxb3 : xb < w3.heap.size := H3.out.lt
              have hne6 : u6.ownBlock ≠ some xb := fun e => by
                have := (World.ownsRow.lt ho6' _ e).1
                omega
              have hbd : Own encO 153 3 B w6 u6 (putO ⟨n, t.take (wrote s t.length), s.day⟩ s.objs) := own_base ho6' (Nat.le_trans hB (Nat.le_trans HB.out.size (Nat.le_trans hs23 (Nat.le_refl _))))
              have hokf : St.Ok { aft s t.length with objs := putO ⟨n, t.take (wrote s t.length), s.day⟩ s.objs } := by
                have := H3.out.ok.put (n := n) (t := t.take (wrote s t.length)) (d := s.day) (by omega) (by rw [List.length_take]; omega) (by rw [aft_objs]; exact HG.out) (by rw [aft_objs]; omega)
                rwa [aft_objs] at this
              have hF : ModAt (w6.setCell ⟨xb, 0, none⟩ u6) B xb u6 { aft s t.length with objs := putO ⟨n, t.take (wrote s t.length), s.day⟩ s.objs } :=
                ⟨heap_setCell_same w6 xb 0 _ _ u6 H6.out.blk, own_but hbd hne6 hne6 (But2.set (mb := xb) w6 0 u6), hokf⟩
              have c3f := hF.c3
              simp only at c3f
              have HFF := Lib.hid hF
              have HBF := Lib.hid ((HB3.out.trans (.of hb6)).trans (But2.set (mb := xb) w6 0 u6))
              have hsh6 := own_shape ho6'
              rw [putO_length] at hsh6
              clear hF hbd ho6' ho6 hg6 hn6 hlist hl6 c0 f0 hne6 hokf
              rcases hsh6 with ⟨_, he⟩ | ⟨g6, cap6, rfl, _, _⟩
              · have := congrArg List.length he
                rw [putO_length] at this
                simp at this
              obtain ⟨af, haf⟩ : ∃ af, (aft s t.length).off = af := ⟨_, rfl⟩
              rw [haf] at c3f
              have HAF := Lib.hid haf
              clear haf
              cases af with
              | true =>
                go_wp2_with fail
                all_goals first
                  | (go_ret
                     exact ⟨rfl, ⟨_, by have := HFF.out; rw [HAF.out] at this; exact this⟩, HBF.out⟩)
                  | (go_ret
                     exact ⟨by rw [HAF.out]; rfl, ⟨_, HFF.out⟩, HBF.out⟩)
                  | (go_ret
                     exact ⟨_, by rw [HAF.out]; rfl, HFF.out, HBF.out⟩)
                  | (exfalso
                     have h1 := HAF.out
                     first
                       | exact h h1
                       | (rw [h1] at h; cases h))
              | false =>
                go_wp2_with fail
                all_goals first
                  | (go_ret
                     exact ⟨rfl, ⟨_, by have := HFF.out; rw [HAF.out] at this; exact this⟩, HBF.out⟩)
                  | (go_ret
                     exact ⟨by rw [HAF.out]; rfl, ⟨_, HFF.out⟩, HBF.out⟩)
                  | (go_ret
                     exact ⟨_, by rw [HAF.out]; rfl, HFF.out, HBF.out⟩)
                  | (exfalso
                     have h1 := HAF.out
                     first
                       | exact h h1
                       | (rw [h1] at h; cases h))
end Go.Proofs.YtpfohfihkmjnaaaGreatDoor
namespace Go.Proofs.YtpfohfihkmjnaaaGreatDoor
open Go.RowKit
/-- A text more, in a rising list without doubles. -/
def withL : List Str → Str → List Str
  | [], s => [s]
  | x :: r, s => if bef x s then x :: withL r s else if x = s then x :: r else s :: x :: r
theorem mem_withL {x s : Str} {l : List Str} : x ∈ withL l s ↔ x = s ∨ x ∈ l := by
  induction l with
  | nil => simp [withL]
  | cons y r ih =>
    unfold withL
    split
    · rw [List.mem_cons, ih, List.mem_cons]
      exact ⟨fun h => by rcases h with h | h | h <;> simp [h], fun h => by rcases h with h | h | h <;> simp [h]⟩
    · split
      · rename_i h; subst h; simp
      · rw [List.mem_cons]
def upS (l : List Str) : Prop := l.Pairwise (fun a b => bef a b = true)
theorem up_withL {s : Str} : ∀ {l : List Str}, upS l → upS (withL l s)
  | [], _ => by simp [withL, upS]
  | x :: r, h => by
    obtain ⟨h1, h2⟩ := List.pairwise_cons.1 h
    unfold withL
    split
    · rename_i hb
      refine List.pairwise_cons.2 ⟨fun y hy => ?_, up_withL h2⟩
      rcases mem_withL.1 hy with rfl | hy
      · exact hb
      · exact h1 y hy
    · rename_i hb
      split
      · exact h
      · rename_i hne
        have hsx : bef s x = true := bef_tri hne (by simpa using hb)
        refine List.pairwise_cons.2 ⟨fun y hy => ?_, h⟩
        rcases List.mem_cons.1 hy with rfl | hy
        · exact hsx
        · exact bef_trans hsx (h1 y hy)
theorem up_asym {a b : Str} (h : bef a b = true) : bef b a = false := by
  cases hb : bef b a with
  | false => rfl
  | true =>
    have := bef_trans h hb
    rw [bef_irr] at this; cases this
end Go.Proofs.YtpfohfihkmjnaaaGreatDoor
namespace Go.Proofs.YtpfohfihkmjnaaaGreatDoor
/-- The first fault of n things, by a number each (0: none). -/
def firstFrom (f : Nat → Nat) : Nat → Nat → Er
  | _, 0 => .nil
  | i, m + 1 => if f i = 0 then firstFrom f (i + 1) m else .loc (f i) i
def firstErr (f : Nat → Nat) (n : Nat) : Er := firstFrom f 0 n
theorem firstFrom_all {f : Nat → Nat} : ∀ {m i : Nat}, (∀ j, i ≤ j → j < i + m → f j = 0) → firstFrom f i m = .nil
  | 0, _, _ => rfl
  | m + 1, i, h => by rw [firstFrom, if_pos (h i (Nat.le_refl _) (by omega))]; exact firstFrom_all fun j h1 h2 => h j (by omega) (by omega)
theorem firstErr_all {f : Nat → Nat} {n : Nat} (h : ∀ j < n, f j = 0) : firstErr f n = .nil := firstFrom_all fun j _ h2 => h j (by omega)
theorem firstFrom_hit {f : Nat → Nat} : ∀ {m i k : Nat}, i ≤ k → k < i + m → (∀ j, i ≤ j → j < k → f j = 0) → f k ≠ 0 → firstFrom f i m = .loc (f k) k
  | 0, _, _, h1, h2, _, _ => by omega
  | m + 1, i, k, h1, h2, h3, h4 => by
    rw [firstFrom]
    rcases Nat.lt_or_ge i k with h | h
    · rw [if_pos (h3 i (Nat.le_refl _) h)]; exact firstFrom_hit h (by omega) (fun j h5 h6 => h3 j (by omega) h6) h4
    · obtain rfl : i = k := by omega
      rw [if_neg h4]
theorem firstErr_hit {f : Nat → Nat} {n k : Nat} (hk : k < n) (h : ∀ j < k, f j = 0) (h4 : f k ≠ 0) : firstErr f n = .loc (f k) k := firstFrom_hit (Nat.zero_le _) (by omega) (fun j _ h2 => h j h2) h4
theorem firstFrom_nil {f : Nat → Nat} : ∀ {m i : Nat}, firstFrom f i m = .nil → ∀ j, i ≤ j → j < i + m → f j = 0
  | 0, _, _, j, h1, h2 => by omega
  | m + 1, i, h, j, h1, h2 => by
    rw [firstFrom] at h
    split at h
    · rename_i h0
      rcases Nat.lt_or_ge i j with hj | hj
      · exact firstFrom_nil h j hj (by omega)
      · obtain rfl : j = i := by omega
        exact h0
    · cases h
theorem firstErr_nil {f : Nat → Nat} {n : Nat} (h : firstErr f n = .nil) : ∀ j < n, f j = 0 := fun j hj => firstFrom_nil h j (Nat.zero_le _) (by omega)
end Go.Proofs.YtpfohfihkmjnaaaGreatDoor
namespace Go.Proofs.YtpfohfihkmjnaaaGreatDoor
open Go.RowKit
/-- What is known of a file. -/
structure Fl where
  path : Str
  part : Str
  n : Int
  lo : Int
  hi : Int
  seq : Int
  deriving DecidableEq
abbrev kData : Str := [100, 97, 116, 97]
abbrev kGone : Str := [103, 111, 110, 101]
/-- A right path's kind and number. -/
def pathF (p : Str) : Option (Str × Int) :=
  if (Lib.cut p [47]).2.2 = true ∧ ((Lib.cut p [47]).1 = kData ∨ (Lib.cut p [47]).1 = kGone) then
    (numOf (Lib.cut p [47]).2.1).bind fun n => if n < 1 ∨ 1073741824 < n then none else some ((Lib.cut p [47]).1, n)
  else none
theorem pathF_some {p k : Str} {n : Int} (h : pathF p = some (k, n)) : (k = kData ∨ k = kGone) ∧ 1 ≤ n ∧ n ≤ 1073741824 := by
  unfold pathF at h
  split at h
  · rename_i hc
    cases hn : numOf (Lib.cut p [47]).2.1 with
    | none => rw [hn] at h; cases h
    | some m =>
      rw [hn, Option.bind_some] at h
      split at h
      · cases h
      · simp only [Option.some.injEq, Prod.mk.injEq] at h
        obtain ⟨h1, h2⟩ := h
        rw [← h1, ← h2]
        exact ⟨hc.2, by omega, by omega⟩
  · cases h
def kindF (p : Str) : Str := ((pathF p).getD ([], 0)).1
def numF (p : Str) : Int := ((pathF p).getD ([], 0)).2
/-- How two paths stand to one another. -/
def cmpP (a b : Str) : Int := if Lib.compareBytes (kindF a) (kindF b) ≠ 0 then Lib.compareBytes (kindF a) (kindF b) else numF a - numF b
/-- A number for a path: paths stand as these numbers do. -/
def keyP (p : Str) : Int :=
  match pathF p with
  | none => 0
  | some (k, n) => if k = kData then 2147483648 + n else 4294967296 + n
theorem path_ways (p : Str) : (pathF p = none ∧ kindF p = [] ∧ numF p = 0 ∧ keyP p = 0) ∨ (∃ n, 1 ≤ n ∧ n ≤ 1073741824 ∧ kindF p = kData ∧ numF p = n ∧ keyP p = 2147483648 + n) ∨ (∃ n, 1 ≤ n ∧ n ≤ 1073741824 ∧ kindF p = kGone ∧ numF p = n ∧ keyP p = 4294967296 + n) := by
  cases h : pathF p with
  | none => exact .inl ⟨rfl, by simp [kindF, h], by simp [numF, h], by simp [keyP, h]⟩
  | some kn =>
    obtain ⟨k, n⟩ := kn
    obtain ⟨h1, h2, h3⟩ := pathF_some h
    rcases h1 with rfl | rfl
    · exact .inr (.inl ⟨n, h2, h3, by simp [kindF, h], by simp [numF, h], by simp [keyP, h]⟩)
    · exact .inr (.inr ⟨n, h2, h3, by simp [kindF, h], by simp [numF, h], by simp [keyP, h]⟩)
theorem cmpP_key (a b : Str) : (cmpP a b < 0 ↔ keyP a < keyP b) ∧ (cmpP a b = 0 ↔ keyP a = keyP b) := by
  have e1 : Lib.compareBytes ([] : Str) [] = 0 := by decide
  have e2 : Lib.compareBytes ([] : Str) kData = -1 := by decide
  have e3 : Lib.compareBytes ([] : Str) kGone = -1 := by decide
  have e4 : Lib.compareBytes kData ([] : Str) = 1 := by decide
  have e5 : Lib.compareBytes kData kData = 0 := by decide
  have e6 : Lib.compareBytes kData kGone = -1 := by decide
  have e7 : Lib.compareBytes kGone ([] : Str) = 1 := by decide
  have e8 : Lib.compareBytes kGone kData = 1 := by decide
  have e9 : Lib.compareBytes kGone kGone = 0 := by decide
  unfold cmpP
  rcases path_ways a with ⟨-, a1, a2, a3⟩ | ⟨n, an1, an2, a1, a2, a3⟩ | ⟨n, an1, an2, a1, a2, a3⟩ <;> rcases path_ways b with ⟨-, b1, b2, b3⟩ | ⟨m, bn1, bn2, b1, b2, b3⟩ | ⟨m, bn1, bn2, b1, b2, b3⟩ <;>
    rw [a1, a2, a3, b1, b2, b3] <;> (first | rw [e1] | rw [e2] | rw [e3] | rw [e4] | rw [e5] | rw [e6] | rw [e7] | rw [e8] | rw [e9]) <;> (first | rw [if_pos (by decide)] | rw [if_neg (by decide)]) <;> omega
theorem cmpP_lt {a b : Str} : cmpP a b < 0 ↔ keyP a < keyP b := (cmpP_key a b).1
theorem cmpP_eq {a b : Str} : cmpP a b = 0 ↔ keyP a = keyP b := (cmpP_key a b).2
theorem cmpP_le {a b : Str} : cmpP a b ≤ 0 ↔ keyP a ≤ keyP b := by have := @cmpP_lt a b; have := @cmpP_eq a b; omega
def partSigns : Str := [97, 98, 99, 100, 101, 102, 103, 104, 105, 106, 107, 108, 109, 110, 111, 112, 113, 114, 115, 116, 117, 118, 119, 120, 121, 122, 48, 49, 50, 51, 52, 53, 54, 55, 56, 57]
/-- Is a text a part, of a kind? -/
def partOk (kind s : Str) : Bool := if kind = kGone then s == [45] else decide (s ≠ []) && (decide (s.length ≤ 12) && s.all (fun b => partSigns.contains b))
def farN (n : Int) : Prop := n < -1073741824 ∨ 1073741824 < n
instance (n : Int) : Decidable (farN n) := inferInstanceAs (Decidable (_ ∨ _))
def boundF (f : Fl) : Prop := f.n < 1 ∨ 40 < f.n ∨ farN f.lo ∨ farN f.hi ∨ f.hi < f.lo ∨ f.seq < 1 ∨ 1073741824 < f.seq
instance (f : Fl) : Decidable (boundF f) := inferInstanceAs (Decidable (_ ∨ _))
/-- A file's fault, by its number. -/
def checkF (f : Fl) : Nat :=
  if pathF f.path = none then 5 else if partOk (kindF f.path) f.part = false then 4 else if boundF f then 2 else 0
/-- A list's fault at a place. -/
def fileFault (l : List Fl) (i : Nat) : Nat :=
  match l[i]? with
  | none => 0
  | some f => if checkF f ≠ 0 then checkF f else if 0 < i ∧ ∃ g, l[i - 1]? = some g ∧ cmpP f.path g.path ≤ 0 then 9 else 0
def listCheck (l : List Fl) : Er := if 60 < l.length then .bare 8 else firstErr (fileFault l) l.length
/-- A right list. -/
structure RightL (l : List Fl) : Prop where
  len : l.length ≤ 60
  ok : ∀ f ∈ l, checkF f = 0
  ris : l.Pairwise (fun a b => keyP a.path < keyP b.path)
theorem pair_next {l : List Fl} (h : ∀ (i : Nat) (a b : Fl), l[i]? = some a → l[i + 1]? = some b → keyP a.path < keyP b.path) : l.Pairwise (fun a b => keyP a.path < keyP b.path) := by
  induction l with
  | nil => exact List.Pairwise.nil
  | cons x r ih =>
    have hr := ih fun i a b ha hb => h (i + 1) a b ha hb
    refine List.pairwise_cons.2 ⟨fun y hy => ?_, hr⟩
    cases r with
    | nil => cases hy
    | cons z t =>
      have h0 := h 0 x z rfl rfl
      rcases List.mem_cons.1 hy with rfl | hy
      · exact h0
      · exact Int.lt_trans h0 ((List.pairwise_cons.1 hr).1 y hy)
theorem right_iff (l : List Fl) : listCheck l = .nil ↔ RightL l := by
  unfold listCheck
  constructor
  · intro h
    split at h
    · cases h
    · rename_i hl
      have hf := firstErr_nil h
      have hat : ∀ (i : Nat) (f : Fl), l[i]? = some f → checkF f = 0 ∧ (0 < i → ∀ g, l[i - 1]? = some g → ¬ cmpP f.path g.path ≤ 0) := by
        intro i f hif
        have := hf i (List.getElem?_eq_some_iff.1 hif).1
        unfold fileFault at this
        rw [hif] at this
        simp only at this
        split at this
        · rename_i h1; exact absurd this h1
        · rename_i h1
          split at this
          · cases this
          · rename_i h2
            exact ⟨Decidable.not_not.1 h1, fun hi g hg hc => h2 ⟨hi, g, hg, hc⟩⟩
      refine ⟨by omega, fun f hf => ?_, pair_next fun i a b ha hb => ?_⟩
      · obtain ⟨i, hi⟩ := List.getElem?_of_mem hf
        exact (hat i f hi).1
      · have := (hat (i + 1) b hb).2 (by omega) a ha
        rw [cmpP_le] at this
        omega
  · intro h
    rw [if_neg (by have := h.len; omega)]
    refine firstErr_all fun j hj => ?_
    unfold fileFault
    obtain ⟨f, hf⟩ : ∃ f, l[j]? = some f := ⟨l[j], List.getElem?_eq_getElem hj⟩
    rw [hf]
    simp only
    rw [if_neg (by simpa using h.ok f (List.mem_of_getElem? hf)), if_neg ?_]
    rintro ⟨hj0, g, hg, hc⟩
    rw [cmpP_le] at hc
    obtain ⟨h1, h2⟩ := List.getElem?_eq_some_iff.1 hf
    obtain ⟨h3, h4⟩ := List.getElem?_eq_some_iff.1 hg
    have := List.pairwise_iff_getElem.1 h.ris (j - 1) j h3 h1 (by omega)
    rw [h2, h4] at this
    omega
/-- A file placed where it comes. -/
def placeF (f : Fl) : List Fl → List Fl
  | [] => [f]
  | g :: r => if keyP f.path ≤ keyP g.path then f :: g :: r else g :: placeF f r
def thereF (l : List Fl) (f : Fl) : Prop := ∃ g ∈ l, keyP g.path = keyP f.path
instance (l : List Fl) (f : Fl) : Decidable (thereF l f) := inferInstanceAs (Decidable (∃ g ∈ l, _))
/-- The place of a file among others. -/
structure PlaceAt (l : List Fl) (f : Fl) (k : Nat) : Prop where
  le : k ≤ l.length
  low : ∀ (j : Nat) (g : Fl), j < k → l[j]? = some g → keyP g.path < keyP f.path
  high : ∀ (j : Nat) (g : Fl), k ≤ j → l[j]? = some g → keyP f.path ≤ keyP g.path
theorem PlaceAt.there {l : List Fl} {f : Fl} {k : Nat} (h : PlaceAt l f k) (hr : l.Pairwise (fun a b => keyP a.path < keyP b.path)) : thereF l f ↔ ∃ g, l[k]? = some g ∧ cmpP g.path f.path = 0 := by
  constructor
  · rintro ⟨g, hg, he⟩
    obtain ⟨j, hj⟩ := List.getElem?_of_mem hg
    obtain ⟨hj1, hj2⟩ := List.getElem?_eq_some_iff.1 hj
    rcases Nat.lt_trichotomy j k with h1 | rfl | h1
    · have := h.low j g h1 hj; omega
    · exact ⟨g, hj, cmpP_eq.2 he⟩
    · have hk : k < l.length := by omega
      have h2 := h.high k l[k] (Nat.le_refl _) (List.getElem?_eq_getElem hk)
      have h3 := List.pairwise_iff_getElem.1 hr k j hk hj1 h1
      rw [hj2] at h3
      omega
  · rintro ⟨g, hg, he⟩
    exact ⟨g, List.mem_of_getElem? hg, cmpP_eq.1 he⟩
/-- A right list is a head ahead of a right list. -/
theorem RightL.tail {a : Fl} {l : List Fl} (h : RightL (a :: l)) : RightL l :=
  ⟨by have := h.len; simp at this; omega, fun f hf => h.ok f (List.mem_cons_of_mem _ hf), (List.pairwise_cons.1 h.ris).2⟩
theorem RightL.drop {l : List Fl} (h : RightL l) : ∀ k, RightL (l.drop k)
  | 0 => h
  | k + 1 => by
    rcases Nat.lt_or_ge k l.length with hk | hk
    · have := RightL.drop h k
      rw [List.drop_eq_getElem_cons hk] at this
      exact this.tail
    · rw [List.drop_eq_nil_of_le (by omega)]
      exact ⟨Nat.zero_le _, fun _ h => (by cases h), List.Pairwise.nil⟩
end Go.Proofs.YtpfohfihkmjnaaaGreatDoor
namespace Go.Proofs.YtpfohfihkmjnaaaGreatDoor
open Go.RowKit
/-- s cut at each byte c. -/
def cutAt (c : UInt8) : Str → List Str
  | [] => [[]]
  | x :: r => if x = c then [] :: cutAt c r else
    match cutAt c r with
    | h :: t => (x :: h) :: t
    | [] => [[x]]
theorem cutAt_ne (c : UInt8) (s : Str) : cutAt c s ≠ [] := by
  cases s with
  | nil => simp [cutAt]
  | cons x r =>
    unfold cutAt
    split
    · simp
    · split <;> simp
theorem cutAt_none {c : UInt8} : ∀ {s : Str}, c ∉ s → cutAt c s = [s]
  | [], _ => rfl
  | x :: r, h => by
    have hx : x ≠ c := fun e => h (by simp [e])
    have hr : c ∉ r := fun e => h (by simp [e])
    rw [cutAt, if_neg hx, cutAt_none hr]
theorem cutAt_app {c : UInt8} : ∀ {p : Str} {q : Str}, c ∉ p → cutAt c (p ++ c :: q) = p :: cutAt c q
  | [], q, _ => by simp [cutAt]
  | x :: r, q, h => by
    have hx : x ≠ c := fun e => h (by simp [e])
    have hr : c ∉ r := fun e => h (by simp [e])
    rw [List.cons_append, cutAt, if_neg hx, cutAt_app hr]
theorem occ1 (c x : UInt8) (s : Str) (i : Nat) (h : s[i]? = some x) : Lib.occAt s [c] i = (x == c) := by
  unfold Lib.occAt
  have hlt : i < s.length := by
    rcases Nat.lt_or_ge i s.length with h' | h'
    · exact h'
    · rw [List.getElem?_eq_none h'] at h; cases h
  rw [List.drop_eq_getElem_cons hlt]
  have : s[i] = x := by rw [List.getElem?_eq_getElem hlt] at h; exact Option.some.inj h
  rw [this]
  simp [List.isPrefixOf, Bool.beq_comm]
theorem index_none1 {c : UInt8} {s : Str} (h : c ∉ s) : Lib.index s [c] = -1 := by
  refine Lib.index_none fun j hj => ?_
  cases hs : s[j]? with
  | none =>
    unfold Lib.occAt
    rw [List.drop_of_length_le (List.getElem?_eq_none_iff.1 hs)]; rfl
  | some x =>
    rw [occ1 c x s j hs]
    exact beq_eq_false_iff_ne.2 fun e => h (by rw [← e]; exact List.mem_of_getElem? hs)
theorem index_app1 {c : UInt8} {p q : Str} (h : c ∉ p) : Lib.index (p ++ c :: q) [c] = p.length := by
  refine Lib.index_first (by simp) ?_ fun j hj => ?_
  · rw [occ1 c c _ _ (by simp)]; simp
  · rw [occ1 c p[j] _ _ (by rw [List.getElem?_append_left hj]; simp)]
    exact beq_eq_false_iff_ne.2 fun e => h (by rw [← e]; exact List.getElem_mem _)
theorem splitK_cut (c : UInt8) : ∀ (k : Nat) (s : Str), s.count c = k → Lib.splitK [c] 0 k s = cutAt c s
  | 0, s, h => by
    rw [cutAt_none (List.count_eq_zero.1 h)]; rfl
  | k + 1, s, h => by
    have hm : c ∈ s := List.count_pos_iff.1 (by omega)
    obtain ⟨p, q, hpq, hp⟩ := List.eq_append_cons_of_mem hm
    subst hpq
    rw [cutAt_app hp, Lib.splitK, index_app1 hp]
    have hne : ((p.length : Int) == -1) = false := beq_eq_false_iff_ne.2 (by omega)
    rw [if_neg (by rw [hne]; decide)]
    have hc : q.count c = k := by
      rw [List.count_append, List.count_eq_zero.2 hp, List.count_cons_self] at h; omega
    rw [Int.toNat_natCast, Nat.add_zero, List.take_left' rfl, show p.length + [c].length = p.length + 1 from rfl, ← List.drop_drop, List.drop_left' rfl, List.drop_one, List.tail_cons, splitK_cut c k q hc]
theorem splitB_cut (c : UInt8) (s : Str) : (Lib.splitB ⟨#[c]⟩ 0 (Lib.countB ⟨s.toArray⟩ ⟨#[c]⟩) ⟨s.toArray⟩).map Value.string = (cutAt c s).map S := by
  have hc : Lib.countB ⟨s.toArray⟩ ⟨#[c]⟩ = s.count c := by
    unfold Lib.countB; simpa using Lib.count_one c s
  have h := Lib.splitB_data ⟨#[c]⟩ 0 (Lib.countB ⟨s.toArray⟩ ⟨#[c]⟩) ⟨s.toArray⟩
  rw [hc] at h ⊢
  have h2 : Lib.splitK [c] 0 (s.count c) s = cutAt c s := splitK_cut c _ s rfl
  have h3 : (Lib.splitB ⟨#[c]⟩ 0 (s.count c) ⟨s.toArray⟩).map (·.data.toList) = cutAt c s := by simpa [h2] using h
  rw [← h3, List.map_map]
  refine List.map_congr_left fun x _ => ?_
  simp [S]
theorem cutAt_length (c : UInt8) (s : Str) : (cutAt c s).length = s.count c + 1 := by
  have h := splitB_cut c s
  have h1 := congrArg List.length h
  simp only [List.length_map] at h1
  rw [← h1, Lib.splitB_all ⟨#[c]⟩ (Nat.le_refl 1) 0 _ _ rfl]
  unfold Lib.countB; simp [Lib.count_one]
theorem cutAt_mem_len {c : UInt8} : ∀ {s p : Str}, p ∈ cutAt c s → p.length ≤ s.length
  | [], p, h => by simp [cutAt] at h; subst h; simp
  | x :: r, p, h => by
    unfold cutAt at h
    split at h
    · rcases List.mem_cons.1 h with rfl | h
      · simp
      · have := cutAt_mem_len h; simp; omega
    · split at h
      · rename_i hd tl he
        rcases List.mem_cons.1 h with rfl | h
        · have := cutAt_mem_len (s := r) (p := hd) (c := c) (by rw [he]; simp); simp; omega
        · have := cutAt_mem_len (s := r) (p := p) (c := c) (by rw [he]; simp [h]); simp; omega
      · simp at h; subst h; simp
end Go.Proofs.YtpfohfihkmjnaaaGreatDoor
namespace Go.Proofs.YtpfohfihkmjnaaaGreatDoor
open Go.RowKit
theorem cut_app1 {c : UInt8} {p q : Str} (h : c ∉ p) : Lib.cut (p ++ c :: q) [c] = (p, q, true) := by
  unfold Lib.cut
  rw [index_app1 h, if_pos (by omega), Int.toNat_natCast, List.take_left' rfl, show p.length + [c].length = p.length + 1 from rfl, ← List.drop_drop, List.drop_left' rfl]
  rfl
theorem cut_none1 {c : UInt8} {s : Str} (h : c ∉ s) : Lib.cut s [c] = (s, [], false) := by
  unfold Lib.cut
  rw [index_none1 h, if_neg (by omega)]
/-- What numbers follow, a blank ahead of each. -/
def numsTail (l : List Int) : Str := l.flatMap fun n => 32 :: Lib.itoa n
def fileLine (f : Fl) : Str := f.path ++ 32 :: f.part ++ numsTail [f.n, f.lo, f.hi, f.seq]
def zeroF : Fl := ⟨[], [], 0, 0, 0, 0⟩
theorem checkF_zero {f : Fl} (h : checkF f = 0) : ∃ k n, pathF f.path = some (k, n) ∧ partOk k f.part = true ∧ ¬ boundF f := by
  unfold checkF at h
  split at h
  · cases h
  · rename_i h1
    split at h
    · cases h
    · rename_i h2
      split at h
      · cases h
      · rename_i h3
        cases hp : pathF f.path with
        | none => exact absurd hp h1
        | some kn =>
          obtain ⟨k, n⟩ := kn
          refine ⟨k, n, rfl, ?_, h3⟩
          have : kindF f.path = k := by simp [kindF, hp]
          rw [this] at h2
          simpa using h2
/-- A right path is its kind, a stroke, a numeral. -/
theorem pathF_form {p k : Str} {n : Int} (h : pathF p = some (k, n)) : p = k ++ 47 :: Lib.itoa n ∧ (k = kData ∨ k = kGone) ∧ 1 ≤ n ∧ n ≤ 1073741824 := by
  obtain ⟨h1, h2, h3⟩ := pathF_some h
  refine ⟨?_, h1, h2, h3⟩
  unfold pathF at h
  split at h
  · rename_i hc
    by_cases hm : (47 : UInt8) ∈ p
    · obtain ⟨a, b, hab, ha⟩ := List.eq_append_cons_of_mem hm
      subst hab
      rw [cut_app1 ha] at h hc
      simp only at h hc
      cases hn : numOf b with
      | none => rw [hn] at h; cases h
      | some m =>
        rw [hn, Option.bind_some] at h
        split at h
        · cases h
        · simp only [Option.some.injEq, Prod.mk.injEq] at h
          obtain ⟨rfl, rfl⟩ := h
          rw [numOf_text hn]
    · rw [cut_none1 hm] at hc
      exact absurd hc.1 (by simp)
  · cases h
theorem fileLine_len {f : Fl} (h : checkF f = 0) : (fileLine f).length ≤ 150 := by
  obtain ⟨k, n, hp, hq, hb⟩ := checkF_zero h
  obtain ⟨h1, hk, hn1, hn2⟩ := pathF_form hp
  have hl : ∀ m : Int, -1073741824 ≤ m → m ≤ 1073741824 → (Lib.itoa m).length ≤ 21 := fun m a b => itoa_len m (by omega) (by omega)
  have e1 : f.path.length ≤ 26 := by
    have h2 := hl n (by omega) (by omega)
    rw [h1]
    rcases hk with rfl | rfl <;> simp <;> omega
  have e2 : f.part.length ≤ 12 := by
    unfold partOk at hq
    split at hq
    · have : f.part = [45] := by simpa using hq
      rw [this]; decide
    · simp only [Bool.and_eq_true, decide_eq_true_eq] at hq
      exact hq.2.1
  unfold boundF farN at hb
  have a1 := hl f.n (by omega) (by omega)
  have a2 := hl f.lo (by omega) (by omega)
  have a3 := hl f.hi (by omega) (by omega)
  have a4 := hl f.seq (by omega) (by omega)
  unfold fileLine numsTail
  simp only [List.flatMap_cons, List.flatMap_nil, List.append_nil, List.length_append, List.length_cons]
  omega
end Go.Proofs.YtpfohfihkmjnaaaGreatDoor
namespace Go.Proofs.YtpfohfihkmjnaaaGreatDoor
def crcP : Nat := 3988292384
def crcBit (x : Nat) : Nat := if x % 2 = 1 then x / 2 ^^^ crcP else x / 2
def crcIter : Nat → Nat → Nat
  | 0, x => x
  | k + 1, x => crcIter k (crcBit x)
def crcStep (c : Nat) (b : UInt8) : Nat := crcIter 8 (c ^^^ b.toNat)
def crcFold (c : Nat) (s : Str) : Nat := s.foldl crcStep c
def sumOf (s : Str) : Nat := crcFold 4294967295 s ^^^ 4294967295
theorem crcBit_lt {x : Nat} (h : x < 4294967296) : crcBit x < 4294967296 := by
  unfold crcBit crcP
  split
  · exact Nat.xor_lt_two_pow (n := 32) (by omega) (by omega)
  · omega
theorem crcIter_lt : ∀ (k : Nat) {x : Nat}, x < 4294967296 → crcIter k x < 4294967296
  | 0, _, h => h
  | k + 1, _, h => crcIter_lt k (crcBit_lt h)
theorem byte_lt (b : UInt8) : b.toNat < 256 := b.toNat_lt
theorem xor_byte {c : Nat} (h : c < 4294967296) (b : UInt8) : c ^^^ b.toNat < 4294967296 :=
  Nat.xor_lt_two_pow (n := 32) h (by have := byte_lt b; omega)
theorem crcStep_lt {c : Nat} (h : c < 4294967296) (b : UInt8) : crcStep c b < 4294967296 := crcIter_lt 8 (xor_byte h b)
theorem crcFold_lt : ∀ (s : Str) {c : Nat}, c < 4294967296 → crcFold c s < 4294967296
  | [], _, h => h
  | b :: r, _, h => crcFold_lt r (crcStep_lt h b)
theorem crcFold_app (c : Nat) (p q : Str) : crcFold c (p ++ q) = crcFold (crcFold c p) q := List.foldl_append
theorem crcFold_snoc (c : Nat) (p : Str) (b : UInt8) : crcFold c (p ++ [b]) = crcStep (crcFold c p) b := by rw [crcFold_app]; rfl
theorem sumOf_lt (s : Str) : sumOf s < 4294967296 := Nat.xor_lt_two_pow (n := 32) (crcFold_lt s (by omega)) (by omega)
theorem crcIter_high : ∀ (k x h : Nat), crcIter k (x ^^^ 2 ^ k * h) = crcIter k x ^^^ h
  | 0, x, h => by simp [crcIter]
  | k + 1, x, h => by
    have e : crcBit (x ^^^ 2 ^ (k + 1) * h) = crcBit x ^^^ 2 ^ k * h := by
      have e0 : 2 ^ (k + 1) * h = 2 * (2 ^ k * h) := by rw [Nat.pow_succ, Nat.mul_comm (2 ^ k) 2, Nat.mul_assoc]
      rw [e0]
      generalize 2 ^ k * h = m
      have hm : (x ^^^ 2 * m) % 2 = x % 2 := by
        have := Nat.xor_mod_two_pow (a := x) (b := 2 * m) (n := 1)
        rw [Nat.pow_one, Nat.mul_mod_right, Nat.xor_zero] at this
        exact this
      have hd : (x ^^^ 2 * m) / 2 = x / 2 ^^^ m := by
        rw [Nat.xor_div_two]; congr 1; omega
      unfold crcBit
      rw [hm, hd]
      split
      · rw [Nat.xor_assoc, Nat.xor_comm m crcP, ← Nat.xor_assoc]
      · rfl
    rw [crcIter, e, crcIter_high k, crcIter]
theorem low_high (c : Nat) : c = c % 256 ^^^ 2 ^ 8 * (c / 256) := by
  apply Nat.eq_of_testBit_eq
  intro i
  rw [Nat.testBit_xor, Nat.testBit_two_pow_mul, show (256 : Nat) = 2 ^ 8 from rfl, Nat.testBit_mod_two_pow, Nat.testBit_div_two_pow]
  by_cases h : i < 8
  · have h' : ¬ 8 ≤ i := by omega
    simp [h, h']
  · have h' : 8 ≤ i := by omega
    simp [h, h']
/-- A round by the table. -/
theorem crc_table (c : Nat) (b : UInt8) : c / 256 ^^^ crcIter 8 (c % 256 ^^^ b.toNat) = crcStep c b := by
  unfold crcStep
  have e : c ^^^ b.toNat = (c % 256 ^^^ b.toNat) ^^^ 2 ^ 8 * (c / 256) := by
    rw [Nat.xor_assoc, Nat.xor_comm b.toNat, ← Nat.xor_assoc, ← low_high]
  rw [e, crcIter_high, Nat.xor_comm]
theorem crcIter_succ (k x : Nat) : crcIter (k + 1) x = crcBit (crcIter k x) := by
  induction k generalizing x with
  | zero => rfl
  | succ k ih => rw [crcIter, ih, crcIter]
end Go.Proofs.YtpfohfihkmjnaaaGreatDoor
namespace Go.Proofs.YtpfohfihkmjnaaaGreatDoor
open Go.RowKit
/-- The parts of a text that was cut, joined again. -/
def joinC (c : UInt8) : List Str → Str
  | [] => []
  | [x] => x
  | x :: y :: r => x ++ c :: joinC c (y :: r)
theorem joinC_head (c y : UInt8) (a : Str) : ∀ t : List Str, joinC c ((y :: a) :: t) = y :: joinC c (a :: t)
  | [] => rfl
  | _ :: _ => rfl
theorem join_cut (c : UInt8) : ∀ s : Str, joinC c (cutAt c s) = s
  | [] => rfl
  | x :: r => by
    have ih := join_cut c r
    have hne := cutAt_ne c r
    unfold cutAt
    cases hc : cutAt c r with
    | nil => exact absurd hc hne
    | cons a t =>
      rw [hc] at ih
      by_cases h : x = c
      · rw [if_pos h, h]
        show [] ++ c :: joinC c (a :: t) = c :: r
        rw [ih]; rfl
      · rw [if_neg h]
        show joinC c ((x :: a) :: t) = x :: r
        rw [joinC_head, ih]
theorem joinC_two (c : UInt8) (x y : Str) (r : List Str) : joinC c (x :: y :: r) = x ++ c :: joinC c (y :: r) := rfl
theorem joinC_itoa (p : Str) : ∀ l : List Int, joinC 32 (p :: l.map Lib.itoa) = p ++ numsTail l
  | [] => by simp [joinC, numsTail]
  | n :: r => by
    rw [List.map_cons, joinC_two, joinC_itoa (Lib.itoa n) r]
    simp [numsTail]
/-- The least and the greatest of numbers (none: 0, 0). -/
def endsI (l : List Int) : Int × Int := if l = [] then (0, 0) else (Lib.minOf l, Lib.maxOf l)
def bodyT (ls : List Str) : Str := ls.flatMap fun s => s ++ [10]
def headT (word : Str) (n lo hi sum : Int) : Str := word ++ numsTail [n, lo, hi, sum]
def wholeT (word : Str) (keys : List Int) (body : Str) : Str := headT word keys.length (endsI keys).1 (endsI keys).2 (sumOf body) ++ 10 :: body
theorem bodyT_snoc (ls : List Str) (s : Str) : bodyT (ls ++ [s]) = bodyT ls ++ (s ++ [10]) := by simp [bodyT]
end Go.Proofs.YtpfohfihkmjnaaaGreatDoor
namespace Go.Proofs.YtpfohfihkmjnaaaGreatDoor
open Go.RowKit
/-- A number more, in a rising list without doubles. -/
def withI : List Int → Int → List Int
  | [], n => [n]
  | x :: r, n => if x < n then x :: withI r n else if x = n then x :: r else n :: x :: r
theorem withI_at : ∀ {l : List Int} {s : Int} {k : Nat}, k ≤ l.length → (∀ j < k, ∀ x, l[j]? = some x → x < s) → (∀ x, l[k]? = some x → s ≤ x) → withI l s = if l[k]? = some s then l else l.take k ++ s :: l.drop k
  | [], s, 0, _, _, _ => by simp [withI]
  | [], _, _ + 1, h, _, _ => by simp at h
  | x :: r, s, 0, _, _, h2 => by
    have hx := h2 x rfl
    unfold withI
    rw [if_neg (by omega)]
    by_cases he : x = s
    · rw [if_pos he, if_pos (by simp [he])]
    · rw [if_neg he, if_neg (by simpa using he)]; rfl
  | x :: r, s, k + 1, h, h1, h2 => by
    have hx := h1 0 (by omega) x rfl
    unfold withI
    rw [if_pos hx, withI_at (k := k) (by simpa using h) (fun j hj y hy => h1 (j + 1) (by omega) y (by simpa using hy)) (fun y hy => h2 y (by simpa using hy))]
    rw [List.getElem?_cons_succ]
    split <;> rfl
theorem withI_len (l : List Int) (s : Int) : (withI l s).length ≤ l.length + 1 := by
  induction l with
  | nil => simp [withI]
  | cons x r ih =>
    unfold withI
    split
    · simpa using ih
    · split <;> simp
theorem mem_withI {x s : Int} {l : List Int} : x ∈ withI l s ↔ x = s ∨ x ∈ l := by
  induction l with
  | nil => simp [withI]
  | cons y r ih =>
    unfold withI
    split
    · rw [List.mem_cons, ih, List.mem_cons]
      exact ⟨fun h => by rcases h with h | h | h <;> simp [h], fun h => by rcases h with h | h | h <;> simp [h]⟩
    · split
      · rename_i h; subst h; simp
      · rw [List.mem_cons]
def upI (l : List Int) : Prop := l.Pairwise (fun a b => a < b)
/-- Numbers rising, each once. -/
def risOf (l : List Int) : List Int := l.foldl withI []
theorem mem_foldI {x : Int} : ∀ (xs l : List Int), x ∈ xs.foldl withI l ↔ x ∈ l ∨ x ∈ xs
  | [], l => by simp
  | y :: xs, l => by
    rw [List.foldl_cons, mem_foldI xs, mem_withI, List.mem_cons]
    exact ⟨fun h => by rcases h with (h | h) | h <;> simp [h], fun h => by rcases h with h | h | h <;> simp [h]⟩
theorem foldI_len : ∀ (xs l : List Int), (xs.foldl withI l).length ≤ l.length + xs.length
  | [], _ => Nat.le_refl _
  | x :: xs, l => by
    have h1 := foldI_len xs (withI l x)
    have h2 := withI_len l x
    rw [List.foldl_cons, List.length_cons]; omega
theorem mem_risOf {x : Int} {l : List Int} : x ∈ risOf l ↔ x ∈ l := by unfold risOf; rw [mem_foldI]; simp
theorem risOf_len (l : List Int) : (risOf l).length ≤ l.length := by have := foldI_len l []; simpa [risOf] using this
theorem risOf_snoc (l : List Int) (x : Int) : risOf (l ++ [x]) = withI (risOf l) x := by unfold risOf; rw [List.foldl_append]; rfl
end Go.Proofs.YtpfohfihkmjnaaaGreatDoor
