/- The document's answer on files: IsFar, IsName, PathOf, FileError, IsBehind: the walks. deedboxref1's faults: Bare, Fine; faulted; deedboxref2.IDsFault. deedboxref2.IDsFault: the walk. The document's answer on files: FileError, FileText, IsBehind, FindOf, ListFault, ListText: the walks. The document's answer on files: FileText: the walk. slices.BinarySearchFunc at []api.File; list.Find, Add, Remove. list.Add, list.Remove. slices.DeleteFunc, in plain words. Of no program. -/
import Derived.Test.YtpiflhhppigdfaaGreatDoorBx4
import Derived.Test.YtpiflhhppigdfaaGreatDoorBx8
import Derived.Test.YtpiflhhppigdfaaGreatDoorBx10
import Derived.Test.YtpiflhhppigdfaaGreatDoorBx2
import Derived.Laws.Rows
import Derived.Laws.NewBlocks
import Derived.Laws.Tables
import Derived.Deep.RegionHeld3
import Derived.Test.YtpiflhhppigdfaaGreatDoorBx7
import Derived.Deep.LoopGhost
namespace Go.Proofs.YtpiflhhppigdfaaGreatDoor
open Go.RowKit

/-- s[:k], s[k:], s[k] of a text. -/
theorem str_to {P : Program} {t : TypeId} (ht : P.underlying t = some .string) (p : Str) (k : Nat) (hk : k ≤ p.length) (_hp : p.length ≤ 100000) : ∀ W, (Instr.slice t (S p) none (some (.int .i64 (k : Int))) none).run P W = .ok (S (p.take k)) W := fun W => by
  have h1 : (k : Int) ≤ (p.length : Int) := by omega
  have h2 : (0 : Int) ≤ (k : Int) := by omega
  simp [Instr.slice, Instr.sliceBounds, run_underlying ht, go_sem, h1, h2, ByteArray.extract_mk]
theorem str_from {P : Program} {t : TypeId} (ht : P.underlying t = some .string) (p : Str) (k : Nat) (hk : k ≤ p.length) (_hp : p.length ≤ 100000) : ∀ W, (Instr.slice t (S p) (some (.int .i64 (k : Int))) none none).run P W = .ok (S (p.drop k)) W := fun W => by
  have h1 : (k : Int) ≤ (p.length : Int) := by omega
  have h2 : (0 : Int) ≤ (k : Int) := by omega
  simp [Instr.slice, Instr.sliceBounds, run_underlying ht, go_sem, h1, h2, extract_from]
theorem str_at {P : Program} {t : TypeId} (ht : P.underlying t = some .string) (p : Str) (k : Nat) (c : UInt8) (hk : p[k]? = some c) : ∀ W, (Instr.index t (S p) (.int .i64 (k : Int))).run P W = .ok (.int .u8 c.toNat) W := fun W => by
  obtain ⟨h1, h2⟩ := List.getElem?_eq_some_iff.1 hk
  have h4 : (ByteArray.mk p.toArray)[k]? = some c := by
    rw [getElem?_pos _ _ (by simpa [ByteArray.size] using h1)]; exact congrArg some h2
  simp [Instr.index, run_underlying ht, asIntOf, h4]

theorem isFar_any (n : Int) (w : World) :
    Calls Tryz.prog 83 #[.int .i64 n] w fun e w' => e = .returned (.bool (decide (farN n))) ∧ w = w' := by
  by_cases h1 : n < -1073741824
  · have g : decide (farN n) = true := decide_eq_true (.inl h1)
    rw [g]
    clear g
    go_enter Tryz.func83, Tryz.ntmps83
    go_wp2_with fail
    go_ret
    exact ⟨rfl, rfl⟩
  · have g1 : decide (n < -1073741824) = false := by simpa using h1
    by_cases h2 : 1073741824 < n
    · have g : decide (farN n) = true := decide_eq_true (.inr h2)
      rw [g]
      clear g h1
      go_enter Tryz.func83, Tryz.ntmps83
      go_wp2_with fail
      go_ret
      exact ⟨rfl, rfl⟩
    · have g : decide (farN n) = false := decide_eq_false (fun h => h.elim h1 h2)
      have g2 : decide (1073741824 < n) = false := by simpa using h2
      rw [g]
      clear g h1 h2
      go_enter Tryz.func83, Tryz.ntmps83
      go_wp2_with fail
      go_ret
      exact ⟨rfl, rfl⟩

def signB (b : UInt8) : Bool := (decide (97 ≤ b.toNat) && decide (b.toNat ≤ 122)) || (decide (48 ≤ b.toNat) && decide (b.toNat ≤ 57))
theorem signB_eq (b : UInt8) : partSigns.contains b = signB b := by
  have h : ∀ k : UInt8, (b == k) = (b.toNat == k.toNat) := fun k => by
    rw [Bool.eq_iff_iff]; simp [← UInt8.toNat_inj]
  rw [Bool.eq_iff_iff]
  simp only [partSigns, List.contains_cons, List.contains_nil, Bool.or_false, h, signB]
  simp
  omega
/-- Is a text a name, of so many signs at most? -/
def nameB (s : Str) (m : Int) : Bool := s.all signB && (decide (1 ≤ s.length) && decide ((s.length : Int) ≤ m))
theorem nameB_part {k s : Str} (hk : k ≠ kGone) : partOk k s = nameB s 12 := by
  unfold partOk nameB
  rw [if_neg hk]
  have e : (s.all fun b => partSigns.contains b) = s.all signB := by congr 1; funext b; exact signB_eq b
  rw [e, Bool.eq_iff_iff]
  have hn : s ≠ [] ↔ 1 ≤ s.length := by cases s <;> simp
  simp only [Bool.and_eq_true, decide_eq_true_eq, hn]
  exact ⟨fun ⟨h1, h2, h3⟩ => ⟨h3, h1, by omega⟩, fun ⟨h1, h2, h3⟩ => ⟨h2, by omega, h1⟩⟩
theorem all_take {s : Str} {k : Nat} {x : UInt8} (h : s[k]? = some x) : (s.take (k + 1)).all signB = ((s.take k).all signB && signB x) := by
  rw [List.take_add_one, h]; simp
theorem sign_ways (b : UInt8) : (signB b = true ∧ (((97 : Int) ≤ b.toNat ∧ (b.toNat : Int) ≤ 122) ∨ (decide ((97 : Int) ≤ b.toNat) = false ∧ (48 : Int) ≤ b.toNat ∧ (b.toNat : Int) ≤ 57))) ∨
    (signB b = false ∧ (((97 : Int) ≤ b.toNat ∧ decide ((b.toNat : Int) ≤ 122) = false ∧ (48 : Int) ≤ b.toNat ∧ decide ((b.toNat : Int) ≤ 57) = false) ∨ (decide ((97 : Int) ≤ b.toNat) = false ∧ (48 : Int) ≤ b.toNat ∧ decide ((b.toNat : Int) ≤ 57) = false) ∨ (decide ((97 : Int) ≤ b.toNat) = false ∧ decide ((48 : Int) ≤ b.toNat) = false))) := by
  unfold signB
  simp
  omega
set_option maxHeartbeats 1000000 in
set_option maxRecDepth 20000 in
theorem isName_any (s : Str) (m : Int) (w : World) (hs : s.length ≤ 100000) :
    Calls Tryz.prog 82 #[S s, .int .i64 m] w fun e w' => e = .returned (.bool (nameB s m)) ∧ w = w' := by
  go_enter Tryz.func82, Tryz.ntmps82
  go_wp2_with fail
  go_loop [5] (fun i => ∃ k : Nat, k ≤ s.length ∧ i = .int .i64 k ∧ Hid ((s.take k).all signB = true)) (fun i => s.length - (intOf i).toNat)
  case atStart => exact ⟨0, by omega, rfl, rfl⟩
  case round =>
    obtain ⟨k, hk, rfl, hj⟩ := hrel
    by_cases hlt : k < s.length
    case neg =>
      obtain rfl : k = s.length := by omega
      have hall := hj.out
      rw [List.take_length] at hall
      have HN : Hid (nameB s m = (decide (1 ≤ s.length) && decide ((s.length : Int) ≤ m))) := Lib.hid (by unfold nameB; rw [hall, Bool.true_and])
      clear hall hj
      by_cases h1 : 1 ≤ s.length
      · have g1 : (1 : Int) ≤ (s.length : Int) := by omega
        by_cases h2 : (s.length : Int) ≤ m
        · go_wp2_with fail
          go_ret
          exact ⟨by rw [HN.out, decide_eq_true h1, decide_eq_true h2]; rfl, rfl⟩
        · have g2 : decide ((s.length : Int) ≤ m) = false := by simpa using h2
          clear h2
          go_wp2_with fail
          go_ret
          exact ⟨by rw [HN.out, decide_eq_true h1, g2]; rfl, rfl⟩
      · have g1 : decide ((1 : Int) ≤ (s.length : Int)) = false := by simp; omega
        have g1' : decide (1 ≤ s.length) = false := decide_eq_false h1
        clear h1
        go_wp2_with fail
        go_ret
        exact ⟨by rw [HN.out, g1']; rfl, rfl⟩
    have hlt' : (k : Int) < s.length := by omega
    obtain ⟨x, hx⟩ := get_ex hlt
    have hat := str_at (P := Tryz.prog) Tryz.underlying9 s k x hx
    have hst := all_take hx
    have hmem := List.mem_of_getElem? hx
    have HSt := Lib.hid hst; have HMem := Lib.hid hmem
    clear hx hst hmem
    rcases sign_ways x with ⟨hb, hw⟩ | ⟨hb, hw⟩
    · have Hb := Lib.hid hb; clear hb
      rcases hw with ⟨g1, g2⟩ | ⟨g1, g2, g3⟩
      · have g3 : (0 : Int) ≤ x.toNat := by omega
        by_cases g4 : (48 : Int) ≤ x.toNat
        · by_cases g5 : (x.toNat : Int) ≤ 57
          · omega
          · have g5' : decide ((x.toNat : Int) ≤ 57) = false := by simpa using g5
            clear g5
            go_wp2_with fail
            refine ⟨⟨k + 1, by omega, by go_num, Lib.hid (by rw [HSt.out, hj.out, Hb.out]; rfl)⟩, ?_⟩
            simp [intOf]; omega
        · omega
      · go_wp2_with fail
        refine ⟨⟨k + 1, by omega, by go_num, Lib.hid (by rw [HSt.out, hj.out, Hb.out]; rfl)⟩, ?_⟩
        simp [intOf]; omega
    · have HN : Hid (nameB s m = false) := Lib.hid (by
        unfold nameB
        rw [show s.all signB = false from ?_, Bool.false_and]
        rw [← Bool.not_eq_true]
        intro h
        rw [List.all_eq_true] at h
        have := h x HMem.out
        rw [hb] at this; cases this)
      clear hb
      rcases hw with ⟨g1, g2, g3, g4⟩ | ⟨g1, g2, g3⟩ | ⟨g1, g2⟩
      all_goals
        go_wp2_with fail
        go_ret
        exact ⟨by rw [HN.out]; rfl, rfl⟩

theorem path_of_parts {k q : Str} (hk : k = kData ∨ k = kGone) : pathF (k ++ 47 :: q) = (numOf q).bind fun n => if n < 1 ∨ 1073741824 < n then none else some (k, n) := by
  have hc : Lib.cut (k ++ 47 :: q) [47] = (k, q, true) := cut_app1 (c := 47) (p := k) (q := q) (by rcases hk with rfl | rfl <;> decide)
  unfold pathF
  rw [hc, if_pos ⟨rfl, hk⟩]
theorem itoa_pos (n : Int) (_h : 0 ≤ n) : 1 ≤ (Lib.itoa n).length := by
  rcases hd : Lib.itoa n with _ | ⟨c, r⟩
  · have h1 := atoi_itoa n
    rw [hd] at h1; cases h1
  · simp
theorem path_long {p : Str} (h : (pathF p).isSome = true) : ∃ k c q, p = k ++ c :: q ∧ (k = kData ∨ k = kGone) ∧ c = 47 ∧ 1 ≤ q.length := by
  obtain ⟨⟨k, n⟩, hp⟩ := Option.isSome_iff_exists.1 h
  obtain ⟨h1, h2, h3, h4⟩ := pathF_form hp
  exact ⟨k, 47, Lib.itoa n, h1, h2, rfl, itoa_pos n (by omega)⟩
theorem path_len4 {k : Str} (h : k = kData ∨ k = kGone) : k.length = 4 := by rcases h with rfl | rfl <;> rfl

/-- Where a path may fail, and what it is. -/
theorem pathOf_ways (p : Str) : (pathF p = none ∧ (p.length < 6 ∨ (6 ≤ p.length ∧ ∃ k c q, p.take 4 = k ∧ p[4]? = some c ∧ p.drop 5 = q ∧
      ((k ≠ kData ∧ k ≠ kGone) ∨ ((k = kData ∨ k = kGone) ∧ (c ≠ 47 ∨ (c = 47 ∧ (numRef q = none ∨ ∃ n, numRef q = some n ∧ (n < 1 ∨ (1 ≤ n ∧ 1073741824 < n))))))))) ) ∨
    (6 ≤ p.length ∧ ∃ k q n, p.take 4 = k ∧ p[4]? = some 47 ∧ p.drop 5 = q ∧ (k = kData ∨ k = kGone) ∧ numRef q = some n ∧ 1 ≤ n ∧ n ≤ 1073741824 ∧ pathF p = some (k, n)) := by
  by_cases h6 : p.length < 6
  · refine .inl ⟨?_, .inl h6⟩
    rw [← Option.not_isSome_iff_eq_none]
    intro h
    obtain ⟨k, c, q, rfl, hk, rfl, hq⟩ := path_long h
    have := path_len4 hk
    simp at h6
    omega
  · have h6' : 6 ≤ p.length := by omega
    obtain ⟨c, hc⟩ : ∃ c, p[4]? = some c := ⟨p[4], List.getElem?_eq_getElem (by omega)⟩
    have hp : p = p.take 4 ++ c :: p.drop 5 := by
      have h1 : p.drop 4 = c :: p.drop 5 := by
        obtain ⟨h2, h3⟩ := List.getElem?_eq_some_iff.1 hc
        rw [← h3]; exact List.drop_eq_getElem_cons h2
      rw [← h1, List.take_append_drop]
    have hk4 : (p.take 4).length = 4 := by rw [List.length_take]; omega
    generalize hk : p.take 4 = k at *
    generalize hq : p.drop 5 = q at *
    have hnone : ∀ (x : Str × Int), pathF p = some x → (k = kData ∨ k = kGone) ∧ c = 47 := fun x hx => by
      obtain ⟨k', c', q', h1, h2, h3, _⟩ := path_long (p := p) (by rw [hx]; rfl)
      rw [h1] at hp
      have h4 := path_len4 h2
      have h5 := List.append_inj hp (by omega)
      obtain ⟨rfl, h6⟩ := h5
      simp at h6
      exact ⟨h2, h6.1 ▸ h3⟩
    have no : ¬ ((k = kData ∨ k = kGone) ∧ c = 47) → pathF p = none := fun h => by
      cases hpf : pathF p with
      | none => rfl
      | some x => exact absurd (hnone x hpf) h
    by_cases h1 : k = kData ∨ k = kGone
    · by_cases h2 : c = 47
      · subst h2
        have hpp := path_of_parts (q := q) h1
        rw [← hp] at hpp
        cases hn : numRef q with
        | none => exact .inl ⟨by rw [hpp, ← numRef_eq, hn]; rfl, .inr ⟨h6', k, 47, q, rfl, hc, rfl, .inr ⟨h1, .inr ⟨rfl, .inl hn⟩⟩⟩⟩
        | some n =>
          rw [← numRef_eq, hn, Option.bind_some] at hpp
          by_cases h3 : n < 1
          · exact .inl ⟨by rw [hpp, if_pos (.inl h3)], .inr ⟨h6', k, 47, q, rfl, hc, rfl, .inr ⟨h1, .inr ⟨rfl, .inr ⟨n, hn, .inl h3⟩⟩⟩⟩⟩
          · by_cases h4 : 1073741824 < n
            · exact .inl ⟨by rw [hpp, if_pos (.inr h4)], .inr ⟨h6', k, 47, q, rfl, hc, rfl, .inr ⟨h1, .inr ⟨rfl, .inr ⟨n, hn, .inr ⟨by omega, h4⟩⟩⟩⟩⟩⟩
            · exact .inr ⟨h6', k, q, n, rfl, hc, rfl, h1, hn, by omega, by omega, by rw [hpp, if_neg (by omega)]⟩
      · exact .inl ⟨no fun h => h2 h.2, .inr ⟨h6', k, c, q, rfl, hc, rfl, .inr ⟨h1, .inl h2⟩⟩⟩
    · exact .inl ⟨no fun h => h1 h.1, .inr ⟨h6', k, c, q, rfl, hc, rfl, .inl ⟨fun h => h1 (.inl h), fun h => h1 (.inr h)⟩⟩⟩

def pathE (p : Str) : Int := if (pathF p).isSome then 0 else 5
set_option maxHeartbeats 1000000 in
set_option maxRecDepth 20000 in
theorem pathOf_any (p : Str) (w : World) (hs : p.length ≤ 100000) :
    Calls Tryz.prog 16 #[S p] w fun e w' => e = .returned (.tuple #[S (kindF p), .int .i64 (numF p), .int .i64 (pathE p)]) ∧ w = w' := by
  have hK : kindF p = ((pathF p).getD ([], 0)).1 := rfl
  have hN : numF p = ((pathF p).getD ([], 0)).2 := rfl
  have hE : pathE p = if (pathF p).isSome then 0 else 5 := rfl
  rcases pathOf_ways p with ⟨hp, hw⟩ | ⟨h6, k, q, n, hk, hc, hq, hk2, hn, h1, h2, hp⟩
  · rw [hp] at hK hN hE
    rw [hK, hN, hE]
    clear hK hN hE hp
    rcases hw with h6 | ⟨h6, k, c, q, hk, hc, hq, hw⟩
    · have g6 : (p.length : Int) < 6 := by omega
      go_enter Tryz.func16, Tryz.ntmps16
      go_wp2_with fail
      go_ret3
      exact ⟨rfl, rfl⟩
    have g6 : decide ((p.length : Int) < 6) = false := by simp; omega
    have s4 := str_to (P := Tryz.prog) Tryz.underlying9 p 4 (by omega) hs
    have s5 := str_from (P := Tryz.prog) Tryz.underlying9 p 5 (by omega) hs
    have a4 := str_at (P := Tryz.prog) Tryz.underlying9 p 4 c hc
    rw [hk] at s4; rw [hq] at s5
    have e4 : ((4 : Nat) : Int) = 4 := rfl
    have e5 : ((5 : Nat) : Int) = 5 := rfl
    rw [e4] at s4 a4; rw [e5] at s5
    have hql : q.length ≤ 100000 := by rw [← hq, List.length_drop]; omega
    have hno := numberOf_any q w hql
    have HNo := Lib.hid hno
    clear hk hc hq e4 e5 hno h6
    rcases hw with ⟨g1, g2⟩ | ⟨hk2, g3 | ⟨rfl, hn | ⟨n, hn, h1 | ⟨h1, h2⟩⟩⟩⟩
    · have g1' : (k == kData) = false := by simpa using g1
      have g2' : (k == kGone) = false := by simpa using g2
      clear g1 g2
      generalize numRef q = nr at *
      go_enter Tryz.func16, Tryz.ntmps16
      go_wp2_with (go_at_call 78; refine HNo.out.mono ?_; rintro e w' ⟨rfl, rfl⟩)
      go_ret3
      exact ⟨rfl, rfl⟩
    · have g3' : ((c.toNat : Int) != 47) = true := by
        simp only [bne_iff_ne, ne_eq]
        intro h
        exact g3 (UInt8.toNat_inj.1 (by have : c.toNat = 47 := by omega
                                        rw [this]; rfl))
      clear g3
      generalize numRef q = nr at *
      rcases hk2 with rfl | rfl
      all_goals
        go_enter Tryz.func16, Tryz.ntmps16
        go_wp2_with (go_at_call 78; refine HNo.out.mono ?_; rintro e w' ⟨rfl, rfl⟩)
        go_ret3
        exact ⟨rfl, rfl⟩
    · rw [hn] at HNo
      have e47 : (((47 : UInt8).toNat : Int)) = 47 := rfl
      rw [e47] at a4
      clear hn e47
      rcases hk2 with rfl | rfl
      all_goals
        go_enter Tryz.func16, Tryz.ntmps16
        go_wp2_with (go_at_call 78; refine HNo.out.mono ?_; rintro e w' ⟨rfl, rfl⟩)
        go_ret3
        exact ⟨rfl, rfl⟩
    · rw [hn] at HNo
      have e47 : (((47 : UInt8).toNat : Int)) = 47 := rfl
      rw [e47] at a4
      clear hn e47
      rcases hk2 with rfl | rfl
      all_goals
        go_enter Tryz.func16, Tryz.ntmps16
        go_wp2_with (go_at_call 78; refine HNo.out.mono ?_; rintro e w' ⟨rfl, rfl⟩; simp only [Option.getD_some, Option.isSome_some])
        go_ret3
        exact ⟨rfl, rfl⟩
    · rw [hn] at HNo
      have e47 : (((47 : UInt8).toNat : Int)) = 47 := rfl
      rw [e47] at a4
      have h1' : decide (n < 1) = false := by simp; omega
      clear hn e47 h1
      rcases hk2 with rfl | rfl
      all_goals
        go_enter Tryz.func16, Tryz.ntmps16
        go_wp2_with (go_at_call 78; refine HNo.out.mono ?_; rintro e w' ⟨rfl, rfl⟩; simp only [Option.getD_some, Option.isSome_some])
        go_ret3
        exact ⟨rfl, rfl⟩
  · rw [hp] at hK hN hE
    rw [hK, hN, hE]
    clear hK hN hE hp
    have g6 : decide ((p.length : Int) < 6) = false := by simp; omega
    have s4 := str_to (P := Tryz.prog) Tryz.underlying9 p 4 (by omega) hs
    have s5 := str_from (P := Tryz.prog) Tryz.underlying9 p 5 (by omega) hs
    have a4 := str_at (P := Tryz.prog) Tryz.underlying9 p 4 47 hc
    rw [hk] at s4; rw [hq] at s5
    have e4 : ((4 : Nat) : Int) = 4 := rfl
    have e5 : ((5 : Nat) : Int) = 5 := rfl
    have e47 : (((47 : UInt8).toNat : Int)) = 47 := rfl
    rw [e4] at s4 a4; rw [e5] at s5; rw [e47] at a4
    have hql : q.length ≤ 100000 := by rw [← hq, List.length_drop]; omega
    have hno := numberOf_any q w hql
    rw [hn] at hno
    have HNo := Lib.hid hno
    have h1' : decide (n < 1) = false := by simp; omega
    have h2' : decide (1073741824 < n) = false := by simp; omega
    clear hk hc hq e4 e5 e47 hno h6 hn h1 h2
    rcases hk2 with rfl | rfl
    all_goals
      go_enter Tryz.func16, Tryz.ntmps16
      go_wp2_with (go_at_call 78; refine HNo.out.mono ?_; rintro e w' ⟨rfl, rfl⟩; simp only [Option.getD_some, Option.isSome_some])
      go_ret3
      exact ⟨rfl, rfl⟩
end Go.Proofs.YtpiflhhppigdfaaGreatDoor
namespace Go.Proofs.YtpiflhhppigdfaaGreatDoor
open Go.RowKit

/-- An error as the document's answer holds it. -/
def faultV (c p : Int) : Value := .agg #[.int .i64 c, .int .i64 p]

theorem refBare_any (c : Int) (w : World) : Calls Tryz.prog 114 #[.int .i64 c] w fun e w' => e = .returned (faultV c (-1)) ∧ Below w.heap.size w w' := by
  go_enter Tryz.func114, Tryz.ntmps114
  go_wp2
  refine bodyPost_ret (results_cell_row rfl _ _ w.heap.size 71 #[.int .i64 c, .int .i64 (-1)] (0, 0) _ rfl (heap_alloc_new _ _) Tryz.underlying71 rfl (by kernel_rfl)) rfl ?_
  exact ⟨rfl, (Below.refl _ _).alloc (Nat.le_refl _) _⟩
theorem refFine_any (w : World) : Calls Tryz.prog 115 #[] w fun e w' => e = .returned (faultV 0 (-1)) ∧ Below w.heap.size w w' := by
  go_enter Tryz.func115, Tryz.ntmps115
  go_wp2
  refine bodyPost_ret (results_cell_row rfl _ _ w.heap.size 71 #[.int .i64 0, .int .i64 (-1)] (0, 0) _ rfl (heap_alloc_new _ _) Tryz.underlying71 rfl (by kernel_rfl)) rfl ?_
  exact ⟨rfl, (Below.refl _ _).alloc (Nat.le_refl _) _⟩

def toldB (er : Er) (c p : Int) : Bool := decide ((er.code : Int) = c) && (decide (er.code = 0) || decide (er.place = p))

set_option maxRecDepth 20000 in
theorem faulted3_any (E : Nat → Addr) (B : Nat) (er : Er) (v : Value) (c p : Int) (w : World) (hE : Errs allE E B w) (hA : AsVar w) (hgB : 12 < B) (hv : ErV E w v er) :
    Calls Tryz.prog 41 #[v, faultV c p] w fun e w' => e = .returned (.bool (toldB er c p)) ∧ Below w.heap.size w w' := by
  unfold faultV
  by_cases hc : (er.code : Int) = c
  · have hsp : toldB er c p = (decide (er.code = 0) || decide (er.place = p)) := by simp [toldB, hc]
    have g1 : ((er.code : Int) == c) = true := by simpa using hc
    by_cases h0 : er.code = 0
    · have g2 : ((er.code : Int) == 0) = true := by simp [h0]
      rw [hsp]
      have hsp2 : (decide (er.code = 0) || decide (er.place = p)) = true := by simp [h0]
      rw [hsp2]
      clear hsp hsp2 hc h0
      go_enter Tryz.func41, Tryz.ntmps41
      go_wp2_with fail
      have hba := (Below.refl w.heap.size w).alloc (Nat.le_refl _) (.cells #[.int .i64 c, .int .i64 p] 71)
      refine (code_any E B er v _ (hE.below' hba hE.le) (hA.below (B := w.heap.size) hba (by have := hE.le; omega)) (hv.below hba)).mono ?_
      rintro e w1 ⟨rfl, hb1⟩
      have hb1' : Below w.heap.size w w1 := hba.trans (hb1.mono hba.size)
      have c0 : w1.cell? ⟨w.heap.size, 0, none⟩ = some (.int .i64 c) := (hb1.cell (p := ⟨w.heap.size, 0, none⟩) (by simp)).trans (by simp)
      go_wp2_with fail
      go_ret
      exact ⟨rfl, hb1'⟩
    · have g2 : ((er.code : Int) == 0) = false := by simp; omega
      have hsp2 : toldB er c p = decide (er.place = p) := by rw [hsp]; simp [h0]
      rw [hsp2]
      clear hsp hsp2 hc h0
      go_enter Tryz.func41, Tryz.ntmps41
      go_wp2_with fail
      have hba := (Below.refl w.heap.size w).alloc (Nat.le_refl _) (.cells #[.int .i64 c, .int .i64 p] 71)
      refine (code_any E B er v _ (hE.below' hba hE.le) (hA.below (B := w.heap.size) hba (by have := hE.le; omega)) (hv.below hba)).mono ?_
      rintro e w1 ⟨rfl, hb1⟩
      have hb1' : Below w.heap.size w w1 := hba.trans (hb1.mono hba.size)
      have c0 : w1.cell? ⟨w.heap.size, 0, none⟩ = some (.int .i64 c) := (hb1.cell (p := ⟨w.heap.size, 0, none⟩) (by simp)).trans (by simp)
      have c1 : w1.cell? ⟨w.heap.size, 1, none⟩ = some (.int .i64 p) := (hb1.cell (p := ⟨w.heap.size, 1, none⟩) (by simp)).trans (by simp)
      go_wp2_with fail
      go_ret
      exact ⟨ret_bool (by simp [Bool.beq_eq_decide_eq]), hb1'⟩
  · have hsp : toldB er c p = false := by simp [toldB, hc]
    have g1 : ((er.code : Int) == c) = false := by simpa using hc
    rw [hsp]
    clear hsp hc
    go_enter Tryz.func41, Tryz.ntmps41
    go_wp2_with fail
    have hba := (Below.refl w.heap.size w).alloc (Nat.le_refl _) (.cells #[.int .i64 c, .int .i64 p] 71)
    refine (code_any E B er v _ (hE.below' hba hE.le) (hA.below (B := w.heap.size) hba (by have := hE.le; omega)) (hv.below hba)).mono ?_
    rintro e w1 ⟨rfl, hb1⟩
    have hb1' : Below w.heap.size w w1 := hba.trans (hb1.mono hba.size)
    have c0 : w1.cell? ⟨w.heap.size, 0, none⟩ = some (.int .i64 c) := (hb1.cell (p := ⟨w.heap.size, 0, none⟩) (by simp)).trans (by simp)
    go_wp2_with fail
    go_ret
    exact ⟨rfl, hb1'⟩
end Go.Proofs.YtpiflhhppigdfaaGreatDoor
namespace Go.Proofs.YtpiflhhppigdfaaGreatDoor
open Go.RowKit

def faultOf (er : Er) : Value := faultV er.code er.place

theorem results_tmp_cell {P : Program} {fn : Func} {u p : Tmp} {ty : TypeId} (h : fn.results = #[.tmp u, .cell p ty]) (tmps : Array Value) (w : World) (g : Nat) (t : TypeId) (cs : Array Value) (fr : Nat × Nat) (d : TypeDesc)
    (hp : tmps.getD p undef = .pointer (some ⟨g, 0, none⟩)) (hg : w.heap[g]? = some (.cells cs t fr))
    (hu : P.underlying ty = some d) (hd : (match d with | .struct _ | .array _ _ => true | _ => false) = true) (hi : (P.info? ty).map (·.size) = some cs.size) {v : Value} (hv : tmps.getD u undef = v) :
    (results fn tmps).run P w = .ok (.tuple #[v, .agg cs]) w := by
  have hp' : tmps[p]?.getD undef = .pointer (some ⟨g, 0, none⟩) := by simpa using hp
  have hv' : tmps[u]?.getD undef = v := by simpa using hv
  simp [results, h, hp', hv', asAddr, run_loadVar_row w g t ty cs fr d hg hu hd hi]

theorem firstFrom_code {f : Nat → Nat} : ∀ {m i : Nat}, firstFrom f i m ≠ .nil → 0 < (firstFrom f i m).code
  | 0, _, h => absurd rfl h
  | m + 1, i, h => by
    rw [firstFrom] at h ⊢
    split
    · rename_i h0; rw [if_pos h0] at h; exact firstFrom_code h
    · rename_i h0; exact Nat.pos_of_ne_zero h0
theorem set_two {w : World} {g : Nat} {a b : Value} {t : TypeId} (hg : w.heap[g]? = some (.cells #[a, b] t (0, 0))) (x y : Value) : ((w.setCell ⟨g, 0, none⟩ x).setCell ⟨g, 1, none⟩ y).heap[g]? = some (.cells #[x, y] t (0, 0)) := by
  have h1 := heap_setCell_same w g 0 #[a, b] t x hg
  have h2 := heap_setCell_same _ g 1 _ t y h1
  simpa using h2

end Go.Proofs.YtpiflhhppigdfaaGreatDoor
namespace Go.Proofs.YtpiflhhppigdfaaGreatDoor
open Go.RowKit

/-- A file's fault, by its ways. -/
theorem fileErr_ways (f : Fl) : (pathF f.path = none ∧ checkF f = 5) ∨ (∃ n, pathF f.path = some (kGone, n) ∧ ((f.part ≠ [45] ∧ checkF f = 4) ∨ (f.part = [45] ∧ checkF f = if boundF f then 2 else 0))) ∨
    (∃ n, pathF f.path = some (kData, n) ∧ ((nameB f.part 12 = false ∧ checkF f = 4) ∨ (nameB f.part 12 = true ∧ checkF f = if boundF f then 2 else 0))) := by
  cases hp : pathF f.path with
  | none => exact .inl ⟨rfl, by unfold checkF; rw [if_pos hp]⟩
  | some kn =>
    obtain ⟨k, n⟩ := kn
    have hkf : kindF f.path = k := by unfold kindF; rw [hp]; rfl
    have hc : checkF f = if partOk k f.part = false then 4 else if boundF f then 2 else 0 := by
      unfold checkF; rw [hp, hkf, if_neg (by simp)]
    rcases (pathF_some hp).1 with rfl | rfl
    · refine .inr (.inr ⟨n, rfl, ?_⟩)
      rw [nameB_part (by decide)] at hc
      cases hb : nameB f.part 12 with
      | false => exact .inl ⟨rfl, by rw [hc, hb, if_pos rfl]⟩
      | true => exact .inr ⟨rfl, by rw [hc, hb, if_neg (by simp)]⟩
    · refine .inr (.inl ⟨n, rfl, ?_⟩)
      by_cases h : f.part = [45]
      · exact .inr ⟨h, by rw [hc, if_neg (by unfold partOk; rw [if_pos rfl, h]; decide)]⟩
      · exact .inl ⟨h, by rw [hc, if_pos (by unfold partOk; rw [if_pos rfl]; simpa using h)]⟩
theorem bound_ways (f : Fl) : (boundF f ∧ (f.n < 1 ∨ (decide (f.n < 1) = false ∧ (40 < f.n ∨ (decide (40 < f.n) = false ∧ (decide (farN f.lo) = true ∨ (decide (farN f.lo) = false ∧ (decide (farN f.hi) = true ∨ (decide (farN f.hi) = false ∧ (f.hi < f.lo ∨ (decide (f.hi < f.lo) = false ∧ (f.seq < 1 ∨ (decide (f.seq < 1) = false ∧ 1073741824 < f.seq))))))))))))) ∨
    (¬ boundF f ∧ decide (f.n < 1) = false ∧ decide (40 < f.n) = false ∧ decide (farN f.lo) = false ∧ decide (farN f.hi) = false ∧ decide (f.hi < f.lo) = false ∧ decide (f.seq < 1) = false ∧ decide (1073741824 < f.seq) = false) := by
  simp only [decide_eq_true_eq, decide_eq_false_iff_not]
  unfold boundF
  by_cases h1 : farN f.lo <;> by_cases h2 : farN f.hi <;> simp only [h1, h2, true_or, or_true, false_or, or_false, true_and, and_true, false_and, and_false, not_true_eq_false, not_false_eq_true] <;> omega

set_option maxHeartbeats 4000000 in
set_option maxRecDepth 20000 in
theorem fileError_any (f : Fl) (w : World) (hs : midF f) :
    Calls Tryz.prog 19 #[fileV f] w fun e w' => e = .returned (.int .i64 (checkF f : Nat)) ∧ Below w.heap.size w w' := by
  have hb0 : Below w.heap.size w (w.alloc (.cells #[S f.path, S f.part, .int .i64 f.n, .int .i64 f.lo, .int .i64 f.hi, .int .i64 f.seq] 23)) := (Below.refl _ _).alloc (Nat.le_refl _) _
  obtain ⟨c0, c1, c2, c3, c4, c5⟩ := fileCells (f := f) (w := w) rfl (Below.refl _ (w.alloc (.cells #[S f.path, S f.part, .int .i64 f.n, .int .i64 f.lo, .int .i64 f.hi, .int .i64 f.seq] 23)))
  have hP := fun W => pathOf_any f.path W hs.1
  have hNm := fun W => isName_any f.part 12 W hs.2
  have HNm := Lib.hid hNm
  clear hNm
  rcases fileErr_ways f with ⟨hp, hc⟩ | ⟨n, hp, hw⟩ | ⟨n, hp, hw⟩
  · rw [show pathE f.path = 5 by unfold pathE; rw [hp]; rfl, show kindF f.path = [] by unfold kindF; rw [hp]; rfl, show numF f.path = 0 by unfold numF; rw [hp]; rfl] at hP
    rw [hc]
    have HP := Lib.hid hP
    clear hP hc hp
    go_enter Tryz.func19, Tryz.ntmps19
    go_wp2_with (go_at_call 16; refine (HP.out _).mono ?_; rintro e w' ⟨rfl, rfl⟩)
    go_ret
    exact ⟨rfl, hb0⟩
  · rw [show pathE f.path = 0 by unfold pathE; rw [hp]; rfl, show kindF f.path = kGone by unfold kindF; rw [hp]; rfl] at hP
    generalize numF f.path = nf at *
    have HP := Lib.hid hP
    clear hP hp
    rcases hw with ⟨h1, hc⟩ | ⟨h1, hc⟩
    · have g1 : (f.part == [45]) = false := by simpa using h1
      rw [hc]
      clear h1 hc
      go_enter Tryz.func19, Tryz.ntmps19
      go_wp2_with (first | (go_at_call 16; refine (HP.out _).mono ?_; rintro e w' ⟨rfl, rfl⟩) | (go_at_call 82; refine (HNm.out _).mono ?_; rintro e w' ⟨rfl, rfl⟩))
      go_ret
      exact ⟨rfl, hb0⟩
    · have g1 : (f.part == [45]) = true := by simpa using h1
      clear h1
      generalize nameB f.part 12 = nb at *
      rcases bound_ways f with ⟨hb, hw⟩ | ⟨hb, b1, b2, b3, b4, b5, b6, b7⟩
      · rw [hc, if_pos hb]
        clear hc hb
        rcases hw with b1 | ⟨b1, b2 | ⟨b2, b3 | ⟨b3, b4 | ⟨b4, b5 | ⟨b5, b6 | ⟨b6, b7⟩⟩⟩⟩⟩⟩
        all_goals
          go_enter Tryz.func19, Tryz.ntmps19
          go_wp2_with (first | (go_at_call 16; refine (HP.out _).mono ?_; rintro e w' ⟨rfl, rfl⟩) | (go_at_call 82; refine (HNm.out _).mono ?_; rintro e w' ⟨rfl, rfl⟩) | (go_at_call 83; refine (isFar_any _ _).mono ?_; rintro e w' ⟨rfl, rfl⟩))
          all_goals
            go_ret
            exact ⟨rfl, hb0⟩
      · rw [hc, if_neg hb]
        clear hc hb
        go_enter Tryz.func19, Tryz.ntmps19
        go_wp2_with (first | (go_at_call 16; refine (HP.out _).mono ?_; rintro e w' ⟨rfl, rfl⟩) | (go_at_call 82; refine (HNm.out _).mono ?_; rintro e w' ⟨rfl, rfl⟩) | (go_at_call 83; refine (isFar_any _ _).mono ?_; rintro e w' ⟨rfl, rfl⟩))
        go_ret
        exact ⟨rfl, hb0⟩
  · rw [show pathE f.path = 0 by unfold pathE; rw [hp]; rfl, show kindF f.path = kData by unfold kindF; rw [hp]; rfl] at hP
    generalize numF f.path = nf at *
    have HP := Lib.hid hP
    clear hP hp
    rcases hw with ⟨h1, hc⟩ | ⟨h1, hc⟩
    · rw [h1] at HNm
      rw [hc]
      clear h1 hc
      go_enter Tryz.func19, Tryz.ntmps19
      go_wp2_with (first | (go_at_call 16; refine (HP.out _).mono ?_; rintro e w' ⟨rfl, rfl⟩) | (go_at_call 82; refine (HNm.out _).mono ?_; rintro e w' ⟨rfl, rfl⟩))
      go_ret
      exact ⟨rfl, hb0⟩
    · rw [h1] at HNm
      clear h1
      rcases bound_ways f with ⟨hb, hw⟩ | ⟨hb, b1, b2, b3, b4, b5, b6, b7⟩
      · rw [hc, if_pos hb]
        clear hc hb
        rcases hw with b1 | ⟨b1, b2 | ⟨b2, b3 | ⟨b3, b4 | ⟨b4, b5 | ⟨b5, b6 | ⟨b6, b7⟩⟩⟩⟩⟩⟩
        all_goals
          go_enter Tryz.func19, Tryz.ntmps19
          go_wp2_with (first | (go_at_call 16; refine (HP.out _).mono ?_; rintro e w' ⟨rfl, rfl⟩) | (go_at_call 82; refine (HNm.out _).mono ?_; rintro e w' ⟨rfl, rfl⟩) | (go_at_call 83; refine (isFar_any _ _).mono ?_; rintro e w' ⟨rfl, rfl⟩))
          all_goals
            go_ret
            exact ⟨rfl, hb0⟩
      · rw [hc, if_neg hb]
        clear hc hb
        go_enter Tryz.func19, Tryz.ntmps19
        go_wp2_with (first | (go_at_call 16; refine (HP.out _).mono ?_; rintro e w' ⟨rfl, rfl⟩) | (go_at_call 82; refine (HNm.out _).mono ?_; rintro e w' ⟨rfl, rfl⟩) | (go_at_call 83; refine (isFar_any _ _).mono ?_; rintro e w' ⟨rfl, rfl⟩))
        go_ret
        exact ⟨rfl, hb0⟩

set_option maxHeartbeats 1000000 in
set_option maxRecDepth 20000 in
theorem isBehind_any (a b : Str) (w : World) (ha : a.length ≤ 100000) (hb : b.length ≤ 100000) :
    Calls Tryz.prog 140 #[S a, S b] w fun e w' => e = .returned (.bool (decide (0 < cmpP a b))) ∧ w = w' := by
  have hA := fun W => pathOf_any a W ha
  have hB := fun W => pathOf_any b W hb
  have hc : decide (0 < cmpP a b) = decide (keyP b < keyP a) := by
    have := @cmpP_le a b
    rw [Bool.eq_iff_iff]; simp; omega
  rw [hc]
  clear hc
  generalize pathE a = ea at *
  generalize pathE b = eb at *
  rcases path_ways a with ⟨-, a1, a2, a3⟩ | ⟨n, an1, an2, a1, a2, a3⟩ | ⟨n, an1, an2, a1, a2, a3⟩ <;> rcases path_ways b with ⟨-, b1, b2, b3⟩ | ⟨m, bn1, bn2, b1, b2, b3⟩ | ⟨m, bn1, bn2, b1, b2, b3⟩
  all_goals
    rw [a1, a2] at hA
    rw [b1, b2] at hB
    rw [a3, b3]
    have HA := Lib.hid hA; have HB := Lib.hid hB
    clear a1 a2 a3 b1 b2 b3 hA hB
    go_enter Tryz.func140, Tryz.ntmps140
    go_wp2_with fail
    refine (HA.out _).mono ?_
    rintro e w' ⟨rfl, rfl⟩
    go_wp2_with fail
    refine (HB.out _).mono ?_
    rintro e w' ⟨rfl, rfl⟩
    go_wp2_with fail
    go_ret
    refine ⟨ret_bool ?_, rfl⟩
    first
      | (exact (decide_eq_false (by omega)).symm)
      | (exact (decide_eq_true (by omega)).symm)
      | (rw [Bool.eq_iff_iff, decide_eq_true_eq, decide_eq_true_eq]; omega)
end Go.Proofs.YtpiflhhppigdfaaGreatDoor
namespace Go.Proofs.YtpiflhhppigdfaaGreatDoor
open Go.RowKit

set_option maxHeartbeats 1000000 in
set_option maxRecDepth 20000 in
theorem refFileText_any (f : Fl) (w : World) (hs : midF f) (hc : checkF f = 0) :
    Calls Tryz.prog 21 #[fileV f] w fun e w' => e = .returned (S (fileLine f)) ∧ Below w.heap.size w w' := by
  have hb0 : Below w.heap.size w (w.alloc (.cells #[S f.path, S f.part, .int .i64 f.n, .int .i64 f.lo, .int .i64 f.hi, .int .i64 f.seq] 23)) := (Below.refl _ _).alloc (Nat.le_refl _) _
  have CF := Lib.hid (fun w6 (h : Below (w.alloc (.cells #[S f.path, S f.part, .int .i64 f.n, .int .i64 f.lo, .int .i64 f.hi, .int .i64 f.seq] 23)).heap.size (w.alloc (.cells #[S f.path, S f.part, .int .i64 f.n, .int .i64 f.lo, .int .i64 f.hi, .int .i64 f.seq] 23)) w6) => fileCells (f := f) rfl h)
  obtain ⟨c0, c1, c2, c3, c4, c5⟩ := CF.out _ (Below.refl _ _)
  have hfe := fileError_any f (w.alloc (.cells #[S f.path, S f.part, .int .i64 f.n, .int .i64 f.lo, .int .i64 f.hi, .int .i64 f.seq] 23)) hs
  rw [hc] at hfe
  have HFe := Lib.hid hfe
  have hbd : -1073741824 ≤ f.lo ∧ f.lo ≤ 1073741824 ∧ -1073741824 ≤ f.hi ∧ f.hi ≤ 1073741824 ∧ 1 ≤ f.n ∧ f.n ≤ 40 ∧ 1 ≤ f.seq ∧ f.seq ≤ 1073741824 := by
    obtain ⟨-, -, -, -, h⟩ := checkF_zero hc
    unfold boundF farN at h
    omega
  obtain ⟨q1, q2, q3, q4, q5, q6, q7, q8⟩ := hbd
  have l1 := itoa_len f.n (by omega) (by omega)
  have l2 := itoa_len f.lo (by omega) (by omega)
  have l3 := itoa_len f.hi (by omega) (by omega)
  have l4 := itoa_len f.seq (by omega) (by omega)
  have d1 := fun W => decimal_any f.n W (by omega) (by omega)
  have d2 := fun W => decimal_any f.lo W (by omega) (by omega)
  have d3 := fun W => decimal_any f.hi W (by omega) (by omega)
  have d4 := fun W => decimal_any f.seq W (by omega) (by omega)
  have hp1 := hs.1
  have hp2 := hs.2
  have hfl : fileLine f = f.path ++ 32 :: f.part ++ numsTail [f.n, f.lo, f.hi, f.seq] := rfl
  have HFl := Lib.hid hfl
  clear hfe hfl hc q1 q2 q3 q4 q5 q6 q7 q8
  generalize ht1 : Lib.itoa f.n = t1 at *
  generalize ht2 : Lib.itoa f.lo = t2 at *
  generalize ht3 : Lib.itoa f.hi = t3 at *
  generalize ht4 : Lib.itoa f.seq = t4 at *
  have D1 := Lib.hid d1; have D2 := Lib.hid d2; have D3 := Lib.hid d3; have D4 := Lib.hid d4
  clear d1 d2 d3 d4
  have r1 := cat_run ⟨f.path.toArray⟩ ⟨#[32]⟩ (f.path.length) (1) rfl rfl (by omega)
  have r2 := cat_run (⟨f.path.toArray⟩ ++ ⟨#[32]⟩) ⟨f.part.toArray⟩ (f.path.length + 1) (f.part.length) (by simp only [ByteArray.size_append]; rfl) rfl (by omega)
  have r3 := cat_run (⟨f.path.toArray⟩ ++ ⟨#[32]⟩ ++ ⟨f.part.toArray⟩) ⟨#[32]⟩ (f.path.length + 1 + f.part.length) (1) (by simp only [ByteArray.size_append]; rfl) rfl (by omega)
  have r4 := cat_run (⟨f.path.toArray⟩ ++ ⟨#[32]⟩ ++ ⟨f.part.toArray⟩ ++ ⟨#[32]⟩) ⟨t1.toArray⟩ (f.path.length + 1 + f.part.length + 1) (t1.length) (by simp only [ByteArray.size_append]; rfl) rfl (by omega)
  have r5 := cat_run (⟨f.path.toArray⟩ ++ ⟨#[32]⟩ ++ ⟨f.part.toArray⟩ ++ ⟨#[32]⟩ ++ ⟨t1.toArray⟩) ⟨#[32]⟩ (f.path.length + 1 + f.part.length + 1 + t1.length) (1) (by simp only [ByteArray.size_append]; rfl) rfl (by omega)
  have r6 := cat_run (⟨f.path.toArray⟩ ++ ⟨#[32]⟩ ++ ⟨f.part.toArray⟩ ++ ⟨#[32]⟩ ++ ⟨t1.toArray⟩ ++ ⟨#[32]⟩) ⟨t2.toArray⟩ (f.path.length + 1 + f.part.length + 1 + t1.length + 1) (t2.length) (by simp only [ByteArray.size_append]; rfl) rfl (by omega)
  have r7 := cat_run (⟨f.path.toArray⟩ ++ ⟨#[32]⟩ ++ ⟨f.part.toArray⟩ ++ ⟨#[32]⟩ ++ ⟨t1.toArray⟩ ++ ⟨#[32]⟩ ++ ⟨t2.toArray⟩) ⟨#[32]⟩ (f.path.length + 1 + f.part.length + 1 + t1.length + 1 + t2.length) (1) (by simp only [ByteArray.size_append]; rfl) rfl (by omega)
  have r8 := cat_run (⟨f.path.toArray⟩ ++ ⟨#[32]⟩ ++ ⟨f.part.toArray⟩ ++ ⟨#[32]⟩ ++ ⟨t1.toArray⟩ ++ ⟨#[32]⟩ ++ ⟨t2.toArray⟩ ++ ⟨#[32]⟩) ⟨t3.toArray⟩ (f.path.length + 1 + f.part.length + 1 + t1.length + 1 + t2.length + 1) (t3.length) (by simp only [ByteArray.size_append]; rfl) rfl (by omega)
  have r9 := cat_run (⟨f.path.toArray⟩ ++ ⟨#[32]⟩ ++ ⟨f.part.toArray⟩ ++ ⟨#[32]⟩ ++ ⟨t1.toArray⟩ ++ ⟨#[32]⟩ ++ ⟨t2.toArray⟩ ++ ⟨#[32]⟩ ++ ⟨t3.toArray⟩) ⟨#[32]⟩ (f.path.length + 1 + f.part.length + 1 + t1.length + 1 + t2.length + 1 + t3.length) (1) (by simp only [ByteArray.size_append]; rfl) rfl (by omega)
  have r10 := cat_run (⟨f.path.toArray⟩ ++ ⟨#[32]⟩ ++ ⟨f.part.toArray⟩ ++ ⟨#[32]⟩ ++ ⟨t1.toArray⟩ ++ ⟨#[32]⟩ ++ ⟨t2.toArray⟩ ++ ⟨#[32]⟩ ++ ⟨t3.toArray⟩ ++ ⟨#[32]⟩) ⟨t4.toArray⟩ (f.path.length + 1 + f.part.length + 1 + t1.length + 1 + t2.length + 1 + t3.length + 1) (t4.length) (by simp only [ByteArray.size_append]; rfl) rfl (by omega)
  have HAll : Hid ((⟨f.path.toArray⟩ : ByteArray) ++ ⟨#[32]⟩ ++ ⟨f.part.toArray⟩ ++ ⟨#[32]⟩ ++ ⟨t1.toArray⟩ ++ ⟨#[32]⟩ ++ ⟨t2.toArray⟩ ++ ⟨#[32]⟩ ++ ⟨t3.toArray⟩ ++ ⟨#[32]⟩ ++ ⟨t4.toArray⟩ = ⟨(fileLine f).toArray⟩) := Lib.hid (by
    rw [HFl.out]
    simp only [numsTail, List.flatMap_cons, List.flatMap_nil, ht1, ht2, ht3, ht4]
    apply ByteArray.ext
    simp)
  clear ht1 ht2 ht3 ht4
  go_enter Tryz.func21, Tryz.ntmps21
  go_wp2_with fail
  generalize w.alloc (.cells #[S f.path, S f.part, .int .i64 f.n, .int .i64 f.lo, .int .i64 f.hi, .int .i64 f.seq] 23) = w0 at *
  refine HFe.out.mono ?_
  rintro e w1 ⟨rfl, hb1⟩
  have hb1d := hb1.drew
  clear c0 c1 c2 c3 c4 c5
  obtain ⟨c0, c1, c2, c3, c4, c5⟩ := CF.out _ hb1d
  go_wp2_with fail
  go_region_held3 (fun w' => w'.cell? ⟨w.heap.size, 0, none⟩ = some (S f.path) ∧ w'.cell? ⟨w.heap.size, 1, none⟩ = some (S f.part) ∧ w'.cell? ⟨w.heap.size, 2, none⟩ = some (.int .i64 f.n) ∧ w'.cell? ⟨w.heap.size, 3, none⟩ = some (.int .i64 f.lo) ∧ w'.cell? ⟨w.heap.size, 4, none⟩ = some (.int .i64 f.hi) ∧ w'.cell? ⟨w.heap.size, 5, none⟩ = some (.int .i64 f.seq)) (exact ⟨c0, c1, c2, c3, c4, c5⟩) (first | (go_at_call 85; (with_reducible refine (D1.out _).mono ?_); rintro e v1 ⟨rfl, hd1⟩; have c0 := (hd1.cell (World.block_lt_of_cell? _ _ c0)).trans c0; have c1 := (hd1.cell (World.block_lt_of_cell? _ _ c1)).trans c1; have c2 := (hd1.cell (World.block_lt_of_cell? _ _ c2)).trans c2; have c3 := (hd1.cell (World.block_lt_of_cell? _ _ c3)).trans c3; have c4 := (hd1.cell (World.block_lt_of_cell? _ _ c4)).trans c4; have c5 := (hd1.cell (World.block_lt_of_cell? _ _ c5)).trans c5) | (go_at_call 85; (with_reducible refine (D2.out _).mono ?_); rintro e v2 ⟨rfl, hd2⟩; have c0 := (hd2.cell (World.block_lt_of_cell? _ _ c0)).trans c0; have c1 := (hd2.cell (World.block_lt_of_cell? _ _ c1)).trans c1; have c2 := (hd2.cell (World.block_lt_of_cell? _ _ c2)).trans c2; have c3 := (hd2.cell (World.block_lt_of_cell? _ _ c3)).trans c3; have c4 := (hd2.cell (World.block_lt_of_cell? _ _ c4)).trans c4; have c5 := (hd2.cell (World.block_lt_of_cell? _ _ c5)).trans c5) | (go_at_call 85; (with_reducible refine (D3.out _).mono ?_); rintro e v3 ⟨rfl, hd3⟩; have c0 := (hd3.cell (World.block_lt_of_cell? _ _ c0)).trans c0; have c1 := (hd3.cell (World.block_lt_of_cell? _ _ c1)).trans c1; have c2 := (hd3.cell (World.block_lt_of_cell? _ _ c2)).trans c2; have c3 := (hd3.cell (World.block_lt_of_cell? _ _ c3)).trans c3; have c4 := (hd3.cell (World.block_lt_of_cell? _ _ c4)).trans c4; have c5 := (hd3.cell (World.block_lt_of_cell? _ _ c5)).trans c5) | (go_at_call 85; (with_reducible refine (D4.out _).mono ?_); rintro e v4 ⟨rfl, hd4⟩; have c0 := (hd4.cell (World.block_lt_of_cell? _ _ c0)).trans c0; have c1 := (hd4.cell (World.block_lt_of_cell? _ _ c1)).trans c1; have c2 := (hd4.cell (World.block_lt_of_cell? _ _ c2)).trans c2; have c3 := (hd4.cell (World.block_lt_of_cell? _ _ c3)).trans c3; have c4 := (hd4.cell (World.block_lt_of_cell? _ _ c4)).trans c4; have c5 := (hd4.cell (World.block_lt_of_cell? _ _ c5)).trans c5))
  go_wp2_with fail
  go_ret
  refine ⟨?_, ?_⟩
  · show Ending.returned (.string ((⟨f.path.toArray⟩ : ByteArray) ++ ⟨#[32]⟩ ++ ⟨f.part.toArray⟩ ++ ⟨#[32]⟩ ++ ⟨t1.toArray⟩ ++ ⟨#[32]⟩ ++ ⟨t2.toArray⟩ ++ ⟨#[32]⟩ ++ ⟨t3.toArray⟩ ++ ⟨#[32]⟩ ++ ⟨t4.toArray⟩)) = _
    rw [HAll.out]
  · have hbw1 := hb0.trans (hb1d.mono hb0.size)
    have h1 := hbw1.trans (hd1.mono hbw1.size)
    have h2 := h1.trans (hd2.mono h1.size)
    have h3 := h2.trans (hd3.mono h2.size)
    exact h3.trans (hd4.mono h3.size)
end Go.Proofs.YtpiflhhppigdfaaGreatDoor
namespace Go.Proofs.YtpiflhhppigdfaaGreatDoor
open Go.RowKit


def findV (l : List Fl) (p : Str) : Int := idxVal (fun f => f.path == p) l
theorem find1_any (x : Fl) (p : Str) (ad : Addr) (w : World) (h1 : w.cell? ad = some (S p)) :
    Calls Tryz.prog 145 #[fileV x, .pointer (some ad)] w fun e w' => e = .returned (.bool (x.path == p)) ∧ Below w.heap.size w w' := by
  have h1' : (w.alloc (fileO x)).cell? ad = some (S p) := (((Below.refl w.heap.size w).alloc (Nat.le_refl _) (fileO x)).cell (World.block_lt_of_cell? w _ h1)).trans h1
  have hb : Below w.heap.size w (w.alloc (fileO x)) := (Below.refl _ _).alloc (Nat.le_refl _) _
  go_enter Tryz.func145, Tryz.ntmps145
  go_wp2_with fail
  go_ret
  exact ⟨rfl, hb⟩
theorem clo_find1 : Clo Tryz.prog 145 := fun _ _ => by kernel_rfl
theorem listFind_any (v : Value) (l : List Fl) (p : Str) (w : World) (hl : FilesAt w v l) :
    Calls Tryz.prog 67 #[v, S p] w fun e w' => e = .returned (.int .i64 (findV l p)) ∧ Below w.heap.size w w' := by
  obtain ⟨a, c, rfl, -, -⟩ := hl.form'
  have hba : Below w.heap.size w (w.alloc (.cells #[S p] 9)) := (Below.refl _ _).alloc (Nat.le_refl _) _
  have c0 : (w.alloc (.cells #[S p] 9)).cell? ⟨w.heap.size, 0, none⟩ = some (S p) := by simp
  have Hl := Lib.hid (hl.below hba)
  go_enter Tryz.func67, Tryz.ntmps67
  go_wp2_with fail
  refine (indexFuncF_any _ _ (fun f => f.path == p) _ _ _ l _ clo_find1 ?_ Hl.out (Below.refl _ _) (Nat.le_refl _)).mono ?_
  · intro W x hx hbW hle
    exact find1_any x p _ W ((hbW.cell (World.block_lt_of_cell? _ _ c0)).trans c0)
  · rintro e w1 ⟨rfl, hb1⟩
    go_wp2_with fail
    go_ret
    exact ⟨rfl, hba.trans (hb1.mono hba.size)⟩

end Go.Proofs.YtpiflhhppigdfaaGreatDoor
namespace Go.Proofs.YtpiflhhppigdfaaGreatDoor
open Go.RowKit

theorem addE_bad {l : List Fl} {f : Fl} (h : listCheck l ≠ .nil) : addE l f = listCheck l := if_pos h
theorem addE_file {l : List Fl} {f : Fl} (h : listCheck l = .nil) (h1 : checkF f ≠ 0) : addE l f = .bare (checkF f) := by unfold addE; rw [if_neg (by simp [h]), if_pos h1]
theorem addE_there {l : List Fl} {f : Fl} (h : listCheck l = .nil) (h1 : checkF f = 0) (h2 : thereF l f) : addE l f = .bare 7 := by unfold addE; rw [if_neg (by simp [h]), if_neg (by simp [h1]), if_pos h2]
theorem addE_full {l : List Fl} {f : Fl} (h : listCheck l = .nil) (h1 : checkF f = 0) (h2 : ¬ thereF l f) (h3 : 60 ≤ l.length) : addE l f = .bare 8 := by unfold addE; rw [if_neg (by simp [h]), if_neg (by simp [h1]), if_neg h2, if_pos h3]
theorem addE_nil {l : List Fl} {f : Fl} (h : listCheck l = .nil) (h1 : checkF f = 0) (h2 : ¬ thereF l f) (h3 : ¬ 60 ≤ l.length) : addE l f = .nil := by unfold addE; rw [if_neg (by simp [h]), if_neg (by simp [h1]), if_neg h2, if_neg h3]
theorem addL_bad {l : List Fl} {f : Fl} (h : addE l f ≠ .nil) : addL l f = [] := if_neg h


theorem removeE_bad {l : List Fl} {p : Str} (h : listCheck l ≠ .nil) : removeE l p = listCheck l := if_pos h
theorem removeE_none {l : List Fl} {p : Str} (h : listCheck l = .nil) (h1 : findF l p = none) : removeE l p = .bare 6 := by unfold removeE; rw [if_neg (by simp [h]), if_pos (by rw [h1]; rfl)]
theorem removeE_nil {l : List Fl} {p : Str} {k : Nat} (h : listCheck l = .nil) (h1 : findF l p = some k) : removeE l p = .nil := by unfold removeE; rw [if_neg (by simp [h]), if_neg (by rw [h1]; simp)]
theorem removeL_bad {l : List Fl} {p : Str} (h : removeE l p ≠ .nil) : removeL l p = [] := if_neg h
theorem findF_some {l : List Fl} {p : Str} {k : Nat} (h : findF l p = some k) : ∃ x, l[k]? = some x ∧ x.path = p := by
  unfold findF at h
  obtain ⟨hk, h1, -⟩ := List.findIdx?_eq_some_iff_getElem.1 h
  exact ⟨l[k], List.getElem?_eq_getElem hk, by simpa using h1⟩
theorem findV_some {l : List Fl} {p : Str} {k : Nat} (h : findF l p = some k) : findV l p = k := by
  unfold findF at h; unfold findV idxVal; rw [h]
theorem findV_none {l : List Fl} {p : Str} (h : findF l p = none) : findV l p = -1 := by
  unfold findF at h; unfold findV idxVal; rw [h]
theorem find_mem {l : List Fl} {p : Str} : 0 ≤ findV l p ↔ ∃ f ∈ l, f.path = p := by
  cases hf : findF l p with
  | none =>
    rw [findV_none hf]
    have := findF_none.1 hf
    constructor
    · intro h; omega
    · rintro ⟨f, h1, h2⟩; exact absurd h2 (this f h1)
  | some k =>
    rw [findV_some hf]
    obtain ⟨x, h1, h2⟩ := findF_some hf
    exact ⟨fun _ => ⟨x, List.mem_of_getElem? h1, h2⟩, fun _ => by omega⟩
set_option maxHeartbeats 1000000 in
set_option maxRecDepth 20000 in
theorem listRemove_any (E : Nat → Addr) (B : Nat) (v : Value) (l : List Fl) (p : Str) (w : World) (hE : Errs [2, 4, 5, 6, 8, 9] E B w) (hT : LNum B w) (hM : LMax B w) (hl : FilesAt w v l) (hs : ∀ x ∈ l, midF x) :
    Calls Tryz.prog 56 #[v, S p] w fun e w' => ∃ u ev, e = .returned (.tuple #[u, ev]) ∧ FilesAt w' u (removeL l p) ∧ ErV E w' ev (removeE l p) ∧ Below w.heap.size w w' := by
  have hBw := hE.le
  have hif := isIfaceE
  have hl0 := hl
  obtain ⟨a, c, rfl, -, -⟩ := hl.form'
  have V0 := fun w6 (h : Below w.heap.size w w6) => (hE.below' h hBw).var 6 (by decide)
  simp only [errG] at V0
  have V := Lib.hid V0
  clear V0
  go_enter Tryz.func56, Tryz.ntmps56
  go_wp2_with fail
  refine (listCheck_any E B _ l _ (hE.sub (by decide)) hT hM hl hs).mono ?_
  rintro e w2 ⟨ev, rfl, hev, hb2⟩
  by_cases hck : listCheck l = .nil
  case neg =>
    have HA := Lib.hid (removeE_bad (p := p) hck)
    have HL : Hid (removeL l p = []) := Lib.hid (removeL_bad (by rw [HA.out]; exact hck))
    obtain ⟨u, x, rfl⟩ := hev.iface hck
    have He := Lib.hid hev; clear hev hck
    go_wp2_with fail
    go_ret2
    exact ⟨_, _, rfl, by rw [HL.out]; exact At.nil _ _ _, by rw [HA.out]; exact He.out, hb2⟩
  rw [hck] at hev
  obtain rfl : ev = .nilIface := hev
  have HC := Lib.hid hck; clear hck
  have hl2 := hl.below hb2
  go_wp2_with fail
  refine (listFind_any _ l p _ hl2).mono ?_
  rintro e w3 ⟨rfl, hb3⟩
  have hb3' := hb2.trans (hb3.mono hb2.size)
  cases hfi : findF l p with
  | none =>
    have HA := Lib.hid (removeE_none HC.out hfi)
    have HL : Hid (removeL l p = []) := Lib.hid (removeL_bad (by rw [HA.out]; exact fun h => by cases h))
    rw [findV_none hfi]
    clear hfi
    have v6 := V.out w3 hb3'
    go_wp2_with fail
    go_quiet (fail)
    go_wp2_with fail
    go_ret2
    exact ⟨_, _, rfl, by rw [HL.out]; exact At.nil _ _ _, by rw [HA.out]; exact ⟨by decide, rfl⟩, Bdn hb3' _⟩
  | some k =>
    have HA := Lib.hid (removeE_nil HC.out hfi)
    obtain ⟨x, hxk, hxp⟩ := findF_some hfi
    have HR := Lib.hid ((right_iff l).1 HC.out)
    have HL : Hid (removeL l p = l.take k ++ l.drop (k + 1)) := Lib.hid (by unfold removeL; rw [if_pos HA.out, ← hxp, dropF_at HR.out.ris hxk])
    rw [findV_some hfi]
    obtain ⟨hk, -⟩ := List.getElem?_eq_some_iff.1 hxk
    have h60 := HR.out.len
    clear hfi hxk hxp
    have hl3 := hl.below hb3'
    have hkn : ((k : Int) < 0) = False := by simp
    go_wp2_with fail
    refine (cloneF_any _ l _ hl3 (by omega)).mono ?_
    rintro e w4 ⟨v4, rfl, hown, hb4⟩
    have hb4' := hb3'.trans (hb4.mono hb3'.size)
    obtain ⟨a4, c4, rfl, -, -⟩ := (hown.at encF_enc).form'
    have hwk : IntKind.i64.wrap ((k : Int) + 1) = (k : Int) + 1 := by rw [IntKind.wrap_i64]; omega
    have hD := deleteF_any w3.heap.size _ l k w4 hown hk (by omega) hb4.size
    have HD := Lib.hid hD; clear hD
    go_wp2_with fail
    refine HD.out.mono ?_
    rintro e w5 ⟨v5, rfl, hown5, hb5⟩
    have Ho := Lib.hid (hown5.at encF_enc)
    go_wp2_with fail
    go_ret2
    exact ⟨_, _, rfl, by rw [HL.out]; exact Ho.out, by rw [HA.out]; rfl, hb4'.trans (hb5.mono hb3'.size)⟩
end Go.Proofs.YtpiflhhppigdfaaGreatDoor
namespace Go.Proofs.YtpiflhhppigdfaaGreatDoor

/-- How far the list is, and what it holds by then. -/
def DelRel {α : Type} (p : α → Bool) (l : List α) (i j : Nat) (ys : List α) : Prop :=
  i < j ∧ j ≤ l.length ∧ ys.length = l.length ∧ ys.take i = (l.take j).filter (fun x => !p x) ∧ ys.drop j = l.drop j

theorem filter_take_none {α : Type} {p : α → Bool} {l : List α} {k : Nat} (h : ∀ (j : Nat) (y : α), j < k → l[j]? = some y → p y = false) : (l.take k).filter (fun x => !p x) = l.take k := by
  refine List.filter_eq_self.2 fun x hx => ?_
  obtain ⟨j, hj, he⟩ := List.getElem_of_mem hx
  rw [List.length_take] at hj
  have : l[j]? = some x := by rw [List.getElem_take] at he; simp [he, show j < l.length by omega]
  simp [h j x (by omega) this]
theorem DelRel.start {α : Type} {p : α → Bool} {l : List α} {k : Nat} {x : α} (hk : l[k]? = some x) (hp : p x = true) (h : ∀ (j : Nat) (y : α), j < k → l[j]? = some y → p y = false) : DelRel p l k (k + 1) l := by
  have hlt : k < l.length := by
    rcases Nat.lt_or_ge k l.length with h' | h'
    · exact h'
    · rw [List.getElem?_eq_none h'] at hk; cases hk
  refine ⟨by omega, by omega, rfl, ?_, rfl⟩
  rw [List.take_add_one, hk, List.filter_append, filter_take_none h]
  simp [hp]
theorem DelRel.skip {α : Type} {p : α → Bool} {l ys : List α} {i j : Nat} {x : α} (h : DelRel p l i j ys) (hx : l[j]? = some x) (hp : p x = true) : DelRel p l i (j + 1) ys := by
  obtain ⟨h1, h2, h3, h4, h5⟩ := h
  have hlt : j < l.length := by
    rcases Nat.lt_or_ge j l.length with h' | h'
    · exact h'
    · rw [List.getElem?_eq_none h'] at hx; cases hx
  refine ⟨by omega, by omega, h3, ?_, ?_⟩
  · rw [h4, List.take_add_one, hx, List.filter_append]; simp [hp]
  · rw [← List.drop_drop, h5, List.drop_drop]
theorem DelRel.keep {α : Type} {p : α → Bool} {l ys : List α} {i j : Nat} {x : α} (h : DelRel p l i j ys) (hx : l[j]? = some x) (hp : p x = false) : DelRel p l (i + 1) (j + 1) (ys.set i x) := by
  obtain ⟨h1, h2, h3, h4, h5⟩ := h
  have hlt : j < l.length := by
    rcases Nat.lt_or_ge j l.length with h' | h'
    · exact h'
    · rw [List.getElem?_eq_none h'] at hx; cases hx
  refine ⟨by omega, by omega, by simpa using h3, ?_, ?_⟩
  · rw [List.take_add_one (l := l), hx, List.filter_append, ← h4, List.take_add_one, List.take_set_of_le (Nat.le_refl _), List.getElem?_set_self (by omega)]
    simp [hp]
  · rw [List.drop_set_of_lt (by omega), ← List.drop_drop, h5, List.drop_drop]
theorem DelRel.next {α : Type} {p : α → Bool} {l ys : List α} {i j : Nat} {x : α} (h : DelRel p l i j ys) (hx : l[j]? = some x) : ys[j]? = some x := by
  have : (ys.drop j)[0]? = (l.drop j)[0]? := by rw [h.2.2.2.2]
  simpa [hx] using this
theorem DelRel.done {α : Type} {p : α → Bool} {l ys : List α} {i : Nat} (h : DelRel p l i l.length ys) : ys.take i = l.filter (fun x => !p x) := by
  have := h.2.2.2.1; rwa [List.take_length] at this

end Go.Proofs.YtpiflhhppigdfaaGreatDoor
