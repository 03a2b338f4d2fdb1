/- Files in memory; a path's number; a part; a file's check. -/
import Derived.Test.YtpicofkmeijioaaGreatDoorFl
import Derived.Test.YtpicofkmeijioaaGreatDoorSplit
import Derived.Test.YtpicofkmeijioaaGreatDoorOwnMore
import Derived.Test.YtpicofkmeijioaaGreatDoorShelf
import Derived.Test.YtpicofkmeijioaaGreatDoorTrimP
import Derived.Shelf.Strings.SlTrimAscii
namespace Go.Proofs.YtpicofkmeijioaaGreatDoor
open Go.RowKit

abbrev encF (f : Fl) : List Value := [S f.path, S f.part, .int .i64 f.n, .int .i64 f.lo, .int .i64 f.hi, .int .i64 f.seq]
theorem encF_enc : Enc encF 6 := fun x => ⟨rfl, by simp [Value.oneCell']⟩
abbrev FilesAt (w : World) (v : Value) (l : List Fl) : Prop := At encF 6 w v l
theorem szFl (w : World) : (sizeOf 50).run Tryz.prog w = .ok 6 w := by kernel_rfl
theorem elFl : ElemInfo Tryz.prog 28 50 6 64 := elemInfo_of Tryz.underlying28 (z := .agg #[.string ByteArray.empty, .string ByteArray.empty, .int .i64 0, .int .i64 0, .int .i64 0, .int .i64 0]) (by kernel_rfl) rfl (by decide)
abbrev fileV (f : Fl) : Value := .agg #[S f.path, S f.part, .int .i64 f.n, .int .i64 f.lo, .int .i64 f.hi, .int .i64 f.seq]
abbrev fileO (f : Fl) : Obj := .cells #[S f.path, S f.part, .int .i64 f.n, .int .i64 f.lo, .int .i64 f.hi, .int .i64 f.seq] 50

theorem cutSl_any (B : Nat) (s : Str) (w : World) (hM : LMax B w) (hs : s.length ≤ 100000) :
    Calls Tryz.prog 114 #[S s, .string ⟨#[47]⟩] w fun e w' => e = .returned (.tuple #[S (Lib.cut s [47]).1, S (Lib.cut s [47]).2.1, .bool (Lib.cut s [47]).2.2]) ∧ Below w.heap.size w w' := by
  obtain ⟨m, hm⟩ := hM.max
  refine (Tryz.strings_Cut ⟨s.toArray⟩ ⟨#[47]⟩ m w (by show s.toArray.size < _; simp; omega) hm).mono ?_
  rintro e w' ⟨rfl, n, rfl⟩
  exact ⟨rfl, Bdn (Below.refl _ _) n⟩
theorem cut_len (s sep : Str) : (Lib.cut s sep).1.length ≤ s.length ∧ (Lib.cut s sep).2.1.length ≤ s.length := by
  unfold Lib.cut
  split
  · simp; omega
  · simp

set_option maxRecDepth 20000 in
theorem fileNumber_any (E : Nat → Addr) (B : Nat) (p : Str) (w : World) (hE : Errs [5] E B w) (hT : LNum B w) (hM : LMax B w) (hs : p.length ≤ 100000) :
    Calls Tryz.prog 133 #[S p] w fun e w' => ∃ ev, e = .returned (.tuple #[S (kindF p), .int .i64 (numF p), ev]) ∧ ErV E w' ev (if (pathF p).isSome then .nil else .bare 5) ∧ Below w.heap.size w w' := by
  have hcl := (cut_len p [47]).2
  have hpf : pathF p = if (Lib.cut p [47]).2.2 = true ∧ ((Lib.cut p [47]).1 = kData ∨ (Lib.cut p [47]).1 = kGone) then
    (numOf (Lib.cut p [47]).2.1).bind fun n => if n < 1 ∨ 1073741824 < n then none else some ((Lib.cut p [47]).1, n) else none := rfl
  have hk : kindF p = ((pathF p).getD ([], 0)).1 := rfl
  have hn : numF p = ((pathF p).getD ([], 0)).2 := rfl
  have hcut := cutSl_any B p w hM hs
  generalize (Lib.cut p [47]).1 = k at *
  generalize (Lib.cut p [47]).2.1 = d at *
  generalize (Lib.cut p [47]).2.2 = is at *
  generalize pathF p = pf at *
  have hE1 := fun w1 (hb : Below w.heap.size w w1) => (hE.below' hb hE.le).var 5 (by decide)
  simp only [errG] at hE1
  have HE1 := Lib.hid hE1
  clear hE1
  have HK := Lib.hid hk; have HN := Lib.hid hn; have HP := Lib.hid hpf; have HC := Lib.hid hcut
  clear hk hn hpf hcut
  go_enter Tryz.func133, Tryz.ntmps133
  go_wp2_with fail
  refine HC.out.mono ?_
  rintro e w1 ⟨rfl, hb1⟩
  go_wp2_with fail
  refine (number_any B d _ (hT.below' hb1 hT.le) (by omega)).mono ?_
  rintro e w2 ⟨rfl, hb2⟩
  have hb2' := hb1.trans (hb2.mono hb1.size)
  have v5 := HE1.out _ hb2'
  obtain ⟨m, hm⟩ : ∃ m, atoiN d = m := ⟨_, rfl⟩
  obtain ⟨o, ho⟩ : ∃ o, numOf d = o := ⟨_, rfl⟩
  have hom : ∀ n, o = some n → m = n := fun n h => by rw [← hm, ← numOf_atoiN (ho.trans h)]
  rw [hm, ho]
  have HO := Lib.hid ho
  clear hm ho hb1 hb2
  cases is with
  | false =>
    have hp : pf = none := by rw [HP.out]; simp
    subst hp
    have HK' := Lib.hid (HK.out.trans rfl); have HN' := Lib.hid (HN.out.trans rfl)
    clear hom
    go_wp2_with fail
    go_quiet (fail)
    go_wp2_with fail
    go_ret3
    exact ⟨_, by rw [HK'.out, HN'.out]; rfl, ⟨by decide, rfl⟩, Bdn hb2' _⟩
  | true =>
    by_cases hk1 : k = kData ∨ k = kGone
    case neg =>
      have g1 : (k == kData) = false := by simp only [beq_eq_false_iff_ne]; exact fun e => hk1 (.inl e)
      have g2 : (k == kGone) = false := by simp only [beq_eq_false_iff_ne]; exact fun e => hk1 (.inr e)
      have hp : pf = none := by rw [HP.out, if_neg (fun h => hk1 h.2)]
      subst hp
      clear hom hk1
      have HK' := Lib.hid (HK.out.trans rfl); have HN' := Lib.hid (HN.out.trans rfl)
      go_wp2_with fail
      go_quiet (fail)
      go_wp2_with fail
      go_ret3
      exact ⟨_, by rw [HK'.out, HN'.out]; rfl, ⟨by decide, rfl⟩, Bdn hb2' _⟩
    have hp0 : pf = o.bind fun n => if n < 1 ∨ 1073741824 < n then none else some (k, n) := by rw [HP.out, if_pos ⟨rfl, hk1⟩, HO.out]
    have HP0 := Lib.hid hp0
    have hkk : k.length ≤ 4 := by rcases hk1 with rfl | rfl <;> decide
    rcases hk1 with rfl | rfl
    all_goals
      clear hp0
      cases o with
      | none =>
        have hp : pf = none := by rw [HP0.out]; rfl
        subst hp
        clear hom
        have HK' := Lib.hid (HK.out.trans rfl); have HN' := Lib.hid (HN.out.trans rfl)
        go_wp2_with fail
        go_quiet (fail)
        go_wp2_with fail
        go_ret3
        exact ⟨_, by rw [HK'.out, HN'.out]; rfl, ⟨by decide, rfl⟩, Bdn hb2' _⟩
      | some n =>
        obtain rfl : m = n := hom n rfl
        clear hom
        by_cases h1 : m < 1
        case pos =>
          have hp : pf = none := by rw [HP0.out, Option.bind_some, if_pos (.inl h1)]
          subst hp
          have HK' := Lib.hid (HK.out.trans rfl); have HN' := Lib.hid (HN.out.trans rfl)
          go_wp2_with fail
          go_quiet (fail)
          go_wp2_with fail
          go_ret3
          exact ⟨_, by rw [HK'.out, HN'.out]; rfl, ⟨by decide, rfl⟩, Bdn hb2' _⟩
        by_cases h2 : 1073741824 < m
        case pos =>
          have hp : pf = none := by rw [HP0.out, Option.bind_some, if_pos (.inr h2)]
          subst hp
          have g1 : decide (m < 1) = false := by simpa using h1
          have HK' := Lib.hid (HK.out.trans rfl); have HN' := Lib.hid (HN.out.trans rfl)
          go_wp2_with fail
          go_quiet (fail)
          go_wp2_with fail
          go_ret3
          exact ⟨_, by rw [HK'.out, HN'.out]; rfl, ⟨by decide, rfl⟩, Bdn hb2' _⟩
        have hp := HP0.out
        rw [Option.bind_some, if_neg (by omega)] at hp
        subst hp
        have g1 : decide (m < 1) = false := by simpa using h1
        have g2 : decide (1073741824 < m) = false := by simpa using h2
        have HK' := Lib.hid (HK.out.trans rfl); have HN' := Lib.hid (HN.out.trans rfl)
        go_wp2_with fail
        go_ret3
        exact ⟨_, by rw [HK'.out, HN'.out]; rfl, rfl, hb2'⟩

theorem trimPart_any (s : Str) (w : World) (hs : s.length ≤ 100000) :
    Calls Tryz.prog 163 #[S s, .string ⟨#[97, 98, 99, 100, 101, 102, 103, 104, 105, 106, 107, 108, 109, 110, 111, 112, 113, 114, 115, 116, 117, 118, 119, 120, 121, 122, 48, 49, 50, 51, 52, 53, 54, 55, 56, 57]⟩] w
      fun e w' => e = .returned (S (Lib.trimS s partSigns)) ∧ Below w.heap.size w w' := by
  have h := Any.strings_Trim_laid Tryz.lays160 (by kernel_rfl) ⟨s.toArray⟩ ⟨partSigns.toArray⟩ w (by simp [ByteArray.size]; omega) (by decide) (ascii_of_all (by decide))
  exact h
set_option maxRecDepth 20000 in
theorem part_any (k s : Str) (w : World) (hs : s.length ≤ 100000) :
    Calls Tryz.prog 136 #[S k, S s] w fun e w' => e = .returned (.bool (partOk k s)) ∧ Below w.heap.size w w' := by
  unfold partOk
  by_cases hk : k = kGone
  · subst hk
    rw [if_pos rfl]
    go_enter Tryz.func136, Tryz.ntmps136
    go_wp2_with fail
    go_ret
    exact ⟨rfl, Below.refl _ _⟩
  rw [if_neg hk]
  have gk : (k == kGone) = false := by simpa using hk
  by_cases h0 : s = []
  · subst h0
    go_enter Tryz.func136, Tryz.ntmps136
    go_wp2_with fail
    go_ret
    exact ⟨rfl, Below.refl _ _⟩
  have g0 : (!s.isEmpty) = true := by simpa using h0
  have e0 : decide (s ≠ []) = true := by simpa using h0
  rw [e0, Bool.true_and]
  by_cases h1 : s.length ≤ 12
  · have g1 : decide ((s.length : Int) ≤ 12) = true := by simp; omega
    have g2 : (s.length : Int) ≤ 12 := by omega
    have e1 : decide (s.length ≤ 12) = true := by simpa using h1
    rw [e1, Bool.true_and]
    go_enter Tryz.func136, Tryz.ntmps136
    go_wp2_with fail
    refine (trimPart_any s _ hs).mono ?_
    rintro e w1 ⟨rfl, hb1⟩
    have hT : (Lib.trimS s partSigns).isEmpty = s.all (fun b => partSigns.contains b) := by
      rw [Bool.eq_iff_iff, List.isEmpty_iff, trimS_nilP]
    have HT := Lib.hid hT; clear hT
    generalize Lib.trimS s partSigns = T at *
    go_wp2_with fail
    go_ret
    exact ⟨ret_bool (by first | exact HT.out | (rw [← HT.out]; cases T <;> rfl)), hb1⟩
  · have g1 : decide ((s.length : Int) ≤ 12) = false := by simp; omega
    have e1 : decide (s.length ≤ 12) = false := by simpa using h1
    rw [e1, Bool.false_and]
    go_enter Tryz.func136, Tryz.ntmps136
    go_wp2_with fail
    go_ret
    exact ⟨rfl, Below.refl _ _⟩
theorem far_any (n : Int) (w : World) :
    Calls Tryz.prog 53 #[.int .i64 n] w fun e w' => e = .returned (.bool (decide (farN n))) ∧ w = w' := by
  by_cases h1 : n < -1073741824
  · have g : decide (farN n) = true := decide_eq_true (.inl h1)
    rw [g]
    clear g
    go_enter Tryz.func53, Tryz.ntmps53
    go_wp2_with fail
    go_ret
    exact ⟨rfl, rfl⟩
  · have g1 : decide (n < -1073741824) = false := by simpa using h1
    by_cases h2 : 1073741824 < n
    · have g : decide (farN n) = true := decide_eq_true (.inr h2)
      rw [g]
      clear g h1
      go_enter Tryz.func53, Tryz.ntmps53
      go_wp2_with fail
      go_ret
      exact ⟨rfl, rfl⟩
    · have g : decide (farN n) = false := decide_eq_false (fun h => h.elim h1 h2)
      have g2 : decide (1073741824 < n) = false := by simpa using h2
      rw [g]
      clear g h1 h2
      go_enter Tryz.func53, Tryz.ntmps53
      go_wp2_with fail
      go_ret
      exact ⟨rfl, rfl⟩
end Go.Proofs.YtpicofkmeijioaaGreatDoor
