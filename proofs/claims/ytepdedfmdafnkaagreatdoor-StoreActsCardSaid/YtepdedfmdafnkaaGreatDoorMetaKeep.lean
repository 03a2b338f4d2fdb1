/- meta.Keep, meta.Push: the walks. -/
import Derived.Test.YtepdedfmdafnkaaGreatDoorCloneI
import Derived.Test.YtepdedfmdafnkaaGreatDoorBare
import Derived.Test.YtepdedfmdafnkaaGreatDoorMetaCheck
namespace Go.Proofs.YtepdedfmdafnkaaGreatDoor
open Go.RowKit

theorem At.form {α : Type} {enc : α → List Value} {sz : Nat} {w : World} {v : Value} {l : List α} (h : At enc sz w v l) : ∃ p n c, v = .slice p n c := by
  obtain ⟨a, c, b, o, hv, _⟩ := h
  exact ⟨_, _, _, hv⟩

/-- Is an ID left out? -/
def dropID (ids sm : List Int) (n : Int) : Bool := decide (n ≠ metaNow ids) && !decide (n ∈ sm)
def metaKept (ids sm : List Int) : List Int := if metaCheck ids = .nil then ids.filter (fun n => !dropID ids sm n) else []

theorem keep1_any (n : Int) (a1 a2 : Addr) (v1 v2 : Value) (ids sm : List Int) (w : World) (h1 : w.cell? a1 = Option.some v1) (h2 : w.cell? a2 = Option.some v2) (hi : IntsAt w v1 ids) (hs : IntsAt w v2 sm) (hn : sm.length ≤ 100000) :
    Calls Tryz.prog 71 #[.int .i64 n, .pointer (Option.some a1), .pointer (Option.some a2)] w fun e w' => e = .returned (.bool (dropID ids sm n)) ∧ w = w' := by
  have Hi := Lib.hid hi; have Hs := Lib.hid hs; clear hi hs
  by_cases hA : n = metaNow ids
  · have g1 : (n != metaNow ids) = false := by simp [hA]
    have hsp : dropID ids sm n = false := by simp [dropID, hA]
    have Hsp := Lib.hid hsp; clear hsp hA
    go_enter Tryz.func71, Tryz.ntmps71
    go_wp2_with (go_at_call 37; refine (metaNow_any _ ids _ Hi.out).mono ?_; rintro e w' ⟨rfl, rfl⟩)
    go_ret
    exact ⟨ret_bool (by rw [Hsp.out]), rfl⟩
  · have g1 : (n != metaNow ids) = true := by simpa using hA
    have hsp : dropID ids sm n = !decide (n ∈ sm) := by simp [dropID, hA]
    have Hsp := Lib.hid hsp; clear hsp hA
    go_enter Tryz.func71, Tryz.ntmps71
    go_wp2_with (first | (go_at_call 37; refine (metaNow_any _ ids _ Hi.out).mono ?_; rintro e w' ⟨rfl, rfl⟩) | (go_at_call 72; refine (containsI_any _ sm n _ Hs.out hn).mono ?_; rintro e w' ⟨rfl, rfl⟩))
    go_ret
    exact ⟨ret_bool (by rw [Hsp.out]), rfl⟩

theorem clo_keep1 : Clo Tryz.prog 71 := fun _ _ => by kernel_rfl

set_option maxRecDepth 20000 in
theorem metaKeep_any (E : Nat → Addr) (B : Nat) (v1 v2 : Value) (ids sm : List Int) (w : World) (hE : Errs [2, 6, 8, 9] E B w) (hi : IntsAt w v1 ids) (hs : IntsAt w v2 sm) (hn1 : ids.length ≤ 100000) (hn2 : sm.length ≤ 100000) :
    Calls Tryz.prog 40 #[v1, v2] w fun e w' => ∃ v ev, e = .returned (.tuple #[v, ev]) ∧ IntsAt w' v (metaKept ids sm) ∧ ErV E w' ev (metaCheck ids) ∧ Below w.heap.size w w' := by
  have hif := isIfaceE
  obtain ⟨p1, n1, c1, rfl⟩ := hi.form
  obtain ⟨p2, n2, c2, rfl⟩ := hs.form
  have Hi := Lib.hid hi; have Hs := Lib.hid hs; clear hi hs
  by_cases hc : metaCheck ids = .nil
  · have hsp : metaKept ids sm = ids.filter (fun n => !dropID ids sm n) := if_pos hc
    have Hsp := Lib.hid hsp; clear hsp
    have Hc := Lib.hid hc; clear hc
    go_enter Tryz.func40, Tryz.ntmps40
    go_wp2_with fail
    have hba : Below w.heap.size w ((w.alloc (.cells #[.slice p1 n1 c1] 55)).alloc (.cells #[.slice p2 n2 c2] 55)) := ((Below.refl _ _).alloc (Nat.le_refl _) _).alloc (by simp) _
    have hE1 := hE.below' hba hE.le
    refine (metaCheck_any E B _ ids _ hE1 (Hi.out.below hba)).mono ?_
    rintro e w1 ⟨ev, rfl, hev, hb1⟩
    have hb1' : Below w.heap.size w w1 := hba.trans (hb1.mono hba.size)
    have c1 : w1.cell? ⟨w.heap.size, 0, none⟩ = Option.some (.slice p1 n1 c1) := (hb1.cell (p := ⟨w.heap.size, 0, none⟩) (by simp; omega)).trans (by simp)
    have c2 : w1.cell? ⟨w.heap.size + 1, 0, none⟩ = Option.some (.slice p2 n2 c2) := (hb1.cell (p := ⟨w.heap.size + 1, 0, none⟩) (by simp)).trans (by rw [World.cell?_alloc_at _ _ _ _ (by simp)]; rfl)
    rw [Hc.out] at hev
    obtain rfl : ev = .nilIface := hev
    go_wp2_with fail
    refine (cloneI_any _ ids _ (Hi.out.below hb1') hn1).mono ?_
    rintro e w2 ⟨v, rfl, hown, hb2⟩
    have hb2' := hb1'.trans (hb2.mono hb1'.size)
    go_wp2_with fail
    refine (deleteFuncI_any _ _ (dropID ids sm) w1.heap.size w1 v ids _ clo_keep1 ?_ hown hb2 hb2.size).mono ?_
    · intro W x hx hbW hle
      have hbW' : Below w.heap.size w W := hb1'.trans (hbW.mono hb1'.size)
      have d1 := (hbW.cell (p := ⟨w.heap.size, 0, none⟩) (World.block_lt_of_cell? w1 _ c1)).trans c1
      have d2 := (hbW.cell (p := ⟨w.heap.size + 1, 0, none⟩) (World.block_lt_of_cell? w1 _ c2)).trans c2
      exact (keep1_any x _ _ _ _ ids sm W d1 d2 (Hi.out.below hbW') (Hs.out.below hbW') hn2).mono fun e w' ⟨h1, h2⟩ => ⟨h1, h2 ▸ Below.refl _ _⟩
    · rintro e w3 ⟨v', rfl, hown3, hb3⟩
      go_wp2_with fail
      go_ret2
      refine ⟨v', .nilIface, rfl, ?_, by rw [Hc.out]; rfl, hb2'.trans (hb3.mono hb1'.size)⟩
      rw [Hsp.out]; exact hown3.at encI_enc
  · have hsp : metaKept ids sm = [] := if_neg hc
    have Hsp := Lib.hid hsp; clear hsp
    go_enter Tryz.func40, Tryz.ntmps40
    go_wp2_with fail
    have hba : Below w.heap.size w ((w.alloc (.cells #[.slice p1 n1 c1] 55)).alloc (.cells #[.slice p2 n2 c2] 55)) := ((Below.refl _ _).alloc (Nat.le_refl _) _).alloc (by simp) _
    have hE1 := hE.below' hba hE.le
    refine (metaCheck_any E B _ ids _ hE1 (Hi.out.below hba)).mono ?_
    rintro e w1 ⟨ev, rfl, hev, hb1⟩
    obtain ⟨u, x, rfl⟩ := hev.iface hc
    have He := Lib.hid hev; clear hev hc
    go_wp2_with fail
    go_ret2
    exact ⟨_, .iface u x, rfl, by rw [Hsp.out]; exact At.nil _ _ _, He.out, hba.trans (hb1.mono hba.size)⟩

/-- What is pushed, and its error. -/
def metaPush (ids : List Int) (id : Int) : List Int × Er :=
  if metaCheck ids ≠ .nil then ([], metaCheck ids) else if metaCheck (ids ++ [id]) ≠ .nil then ([], (metaCheck (ids ++ [id])).noPlace) else (ids ++ [id], .nil)

theorem Own.base {α : Type} {enc : α → List Value} {e : TypeId} {sz B B' : Nat} {w : World} {v : Value} {l : List α} (h : Own enc e sz B' w v l) (hB : B ≤ B') : Own enc e sz B w v l := by
  obtain ⟨h1, h2⟩ := h
  refine ⟨h1, ?_⟩
  rcases h2 with h2 | ⟨g, cap, cur, a, b, c⟩
  · exact .inl h2
  · exact .inr ⟨g, cap, cur, a, Nat.le_trans hB b, c⟩
theorem metaPush_own (E : Nat → Addr) (B : Nat) (v : Value) (ids : List Int) (id : Int) (w : World) (hE : Errs [2, 6, 8, 9] E B w) (hi : IntsAt w v ids) (hn1 : ids.length ≤ 100000) :
    Calls Tryz.prog 38 #[v, .int .i64 id] w fun e w' => ∃ v' ev, e = .returned (.tuple #[v', ev]) ∧ Own encI 3 1 w.heap.size w' v' (metaPush ids id).1 ∧ ErV E w' ev (metaPush ids id).2 ∧ Below w.heap.size w w' := by
  have hif := isIfaceE
  have Hi := Lib.hid hi; clear hi
  by_cases hc : metaCheck ids = .nil
  · have Hc := Lib.hid hc; clear hc
    go_enter Tryz.func38, Tryz.ntmps38
    go_wp2_with fail
    refine (metaCheck_any E B _ ids _ hE Hi.out).mono ?_
    rintro e w1 ⟨ev, rfl, hev, hb1⟩
    rw [Hc.out] at hev
    obtain rfl : ev = .nilIface := hev
    go_wp2_with fail
    refine (cloneI_any _ ids _ (Hi.out.below hb1) hn1).mono ?_
    rintro e w2 ⟨v2, rfl, hown, hb2⟩
    have hb2' := hb1.trans (hb2.mono hb1.size)
    go_wp2_with (at_builtin; refine wpList_app rfl _ _ _ rfl w1.heap.size elInt v2 ids.length _ rfl (hown.alloc _) (.slice (Option.some ⟨w2.heap.size, 0, none⟩) 1 1) 1 (encI id) rfl (src_one rfl rfl (by simp [Value.oneCell'])) (by unfold maxLen; omega) (by omega) (by have := hb2.size; simp; omega) ?_; intro v3 w3 hown3 hg3 _)
    have hb3 : Below w.heap.size w w3 := Bapp (hb2'.alloc hb2'.size _) (hown.alloc _) hg3 hb1.size (by have := hb2'.size; simp; omega)
    have hat3 : IntsAt w3 v3 (ids ++ [id]) := (Own.snoc hown3).at encI_enc
    refine (metaCheck_any E B _ (ids ++ [id]) _ (hE.below' hb3 hE.le) hat3).mono ?_
    rintro e w4 ⟨ev, rfl, hev, hb4⟩
    have hb4' := hb3.trans (hb4.mono hb3.size)
    by_cases hc2 : metaCheck (ids ++ [id]) = .nil
    · have hsp : metaPush ids id = (ids ++ [id], .nil) := by unfold metaPush; rw [if_neg (by simp [Hc.out]), if_neg (by simp [hc2])]
      rw [hc2] at hev
      obtain rfl : ev = .nilIface := hev
      have Hsp := Lib.hid hsp; clear hsp hc2
      have Hat := Lib.hid (Own.base (Own.snoc hown3) hb1.size); clear hat3
      go_wp2_with fail
      go_ret2
      exact ⟨v3, .nilIface, rfl, by rw [Hsp.out]; exact Hat.out.below hb4, by rw [Hsp.out]; rfl, hb4'⟩
    · have hsp : metaPush ids id = ([], (metaCheck (ids ++ [id])).noPlace) := by unfold metaPush; rw [if_neg (by simp [Hc.out]), if_pos (by simpa using hc2)]
      have hev0 := hev
      obtain ⟨u, x, rfl⟩ := hev.iface hc2
      have Hsp := Lib.hid hsp; clear hsp hc2
      have He := Lib.hid hev; clear hev hev0 hat3
      go_wp2_with fail
      refine (fileBare_any E _ _ _ He.out).mono ?_
      rintro e w5 ⟨ev', rfl, hev', rfl⟩
      have He' := Lib.hid hev'; clear hev'
      go_wp2_with fail
      go_ret2
      exact ⟨_, ev', rfl, by rw [Hsp.out]; exact Own.nil _ _ _ _ _, by rw [Hsp.out]; exact He'.out, hb4'⟩
  · have hsp : metaPush ids id = ([], metaCheck ids) := by unfold metaPush; rw [if_pos hc]
    have Hsp := Lib.hid hsp; clear hsp
    go_enter Tryz.func38, Tryz.ntmps38
    go_wp2_with fail
    refine (metaCheck_any E B _ ids _ hE Hi.out).mono ?_
    rintro e w1 ⟨ev, rfl, hev, hb1⟩
    obtain ⟨u, x, rfl⟩ := hev.iface hc
    have He := Lib.hid hev; clear hev hc
    go_wp2_with fail
    go_ret2
    exact ⟨_, .iface u x, rfl, by rw [Hsp.out]; exact Own.nil _ _ _ _ _, by rw [Hsp.out]; exact He.out, hb1⟩
theorem metaPush_any (E : Nat → Addr) (B : Nat) (v : Value) (ids : List Int) (id : Int) (w : World) (hE : Errs [2, 6, 8, 9] E B w) (hi : IntsAt w v ids) (hn1 : ids.length ≤ 100000) :
    Calls Tryz.prog 38 #[v, .int .i64 id] w fun e w' => ∃ v' ev, e = .returned (.tuple #[v', ev]) ∧ IntsAt w' v' (metaPush ids id).1 ∧ ErV E w' ev (metaPush ids id).2 ∧ Below w.heap.size w w' :=
  (metaPush_own E B v ids id w hE hi hn1).mono fun _ _ ⟨v', ev, he, ho, hr⟩ => ⟨v', ev, he, ho.at encI_enc, hr⟩
end Go.Proofs.YtepdedfmdafnkaaGreatDoor
