/- meta.Read: the walk. -/
import Derived.Test.YtepdedfmdafnkaaGreatDoorSplit
import Derived.Test.YtepdedfmdafnkaaGreatDoorMetaText
namespace Go.Proofs.YtepdedfmdafnkaaGreatDoor
open Go.RowKit

def metaWords (s : Str) : List Str := cutAt 32 (Lib.trimSuffix s [10])
def metaRead (s : Str) : List Int × Er :=
  if Lib.hasSuffix s [10] = false ∨ (metaWords s).head? ≠ some [109, 101, 116, 97] then ([], .bare 1)
  else match numsOf ((metaWords s).drop 1) with
    | none => ([], .bare 1)
    | some ids => if metaCheck ids = .nil then (ids, .nil) else ([], metaCheck ids)

def MetaReadPost (E : Nat → Addr) (w : World) (s : Str) (e : Ending) (w' : World) : Prop :=
  ∃ v ev, e = .returned (.tuple #[v, ev]) ∧ IntsAt w' v (metaRead s).1 ∧ ErV E w' ev (metaRead s).2 ∧ Below w.heap.size w w'

theorem metaRead_bad (E : Nat → Addr) (w w' : World) (s : Str) (hr : metaRead s = ([], .bare 1)) (hb : Below w.heap.size w w') :
    MetaReadPost E w s (.returned (.tuple #[.slice none 0 0, .iface 229 (.pointer (some (E 1)))])) w' :=
  ⟨_, _, rfl, by rw [hr]; exact At.nil _ _ _, by rw [hr]; exact ⟨by decide, rfl⟩, hb⟩

theorem cutSuffix_any (s p : Str) (w : World) (hs : s.length ≤ 100000) : Calls Tryz.prog 63 #[S s, .string ⟨p.toArray⟩] w fun e w' => e = .returned (.tuple #[S (Lib.trimSuffix s p), .bool (Lib.hasSuffix s p)]) ∧ w = w' :=
  (Tryz.strings_CutSuffix ⟨s.toArray⟩ ⟨p.toArray⟩ w (by show s.toArray.size ≤ _; simp; omega)).mono fun e w' ⟨he, hw⟩ => ⟨by simpa using he, hw.symm⟩
theorem trimSuffix_len (s p : Str) : (Lib.trimSuffix s p).length ≤ s.length := by
  unfold Lib.trimSuffix; split <;> simp

theorem metaRead_any (E : Nat → Addr) (B : Nat) (s : Str) (w : World) (hE : Errs [1, 2, 6, 8, 9] E B w) (hT : LNum B w) (hM : LMax B w) (hs : s.length ≤ 10000) :
    Calls Tryz.prog 34 #[S s] w (MetaReadPost E w s) := by
  have hif := isIfaceE
  have hne := cutAt_ne 32 (Lib.trimSuffix s [10])
  have hlen : 0 < (metaWords s).length := List.length_pos_iff.2 hne
  have hts := trimSuffix_len s [10]
  have hwl : (metaWords s).length ≤ 10001 := by
    have := cutAt_length 32 (Lib.trimSuffix s [10])
    have h2 : (Lib.trimSuffix s [10]).count 32 ≤ (Lib.trimSuffix s [10]).length := List.count_le_length
    unfold metaWords; omega
  have hws : ∀ p ∈ metaWords s, p.length ≤ 100000 := fun p hp => by
    have := cutAt_mem_len (c := 32) hp; omega
  have hcs := cutSuffix_any s [10] w (by omega)
  have Hcs := Lib.hid hcs; clear hcs
  have Hts := Lib.hid hts; clear hts
  have Hws := Lib.hid hws; clear hws
  have hcut : cutAt 32 (Lib.trimSuffix s [10]) = metaWords s := rfl
  have hE1 := fun (W : World) (hb : Below w.heap.size w W) => (hE.below' hb hE.le).var 1 (by decide)
  simp only [errG] at hE1
  have HE1 := Lib.hid hE1; clear hE1
  cases hsuf : Lib.hasSuffix s [10] with
  | false =>
    have hr : metaRead s = ([], .bare 1) := by unfold metaRead; rw [if_pos (.inl hsuf)]
    have Hr := Lib.hid hr; have Hsuf := Lib.hid hsuf; clear hr hsuf
    go_enter Tryz.func34, Tryz.ntmps34
    go_wp2_with fail
    refine Hcs.out.mono ?_
    rintro e w' ⟨rfl, rfl⟩
    rw [Hsuf.out]
    go_wp2_with fail
    refine (split1_any B _ 32 _ hM (by have := Hts.out; omega)).mono ?_
    rintro e w2 ⟨rfl, hown, hb2⟩
    rw [hcut]
    have v1 := HE1.out _ hb2
    go_wp2_with fail
    go_quiet (fail)
    go_wp2_with fail
    go_ret2
    exact metaRead_bad E w _ s Hr.out (Bdn hb2 _)
  | true =>
    obtain ⟨h0, t0, hcons⟩ : ∃ h t, metaWords s = h :: t := List.exists_cons_of_ne_nil hne
    have hget : (metaWords s)[0]? = some h0 := by rw [hcons]; rfl
    have hdrop : (metaWords s).drop 1 = t0 := by rw [hcons]; rfl
    by_cases hmeta : h0 = [109, 101, 116, 97]
    · subst hmeta
      have Hsuf := Lib.hid hsuf; clear hsuf
      have Hget := Lib.hid hget; clear hget
      have Hdrop := Lib.hid hdrop; clear hdrop
      have hspec : metaRead s = match numsOf t0 with | none => ([], .bare 1) | some ids => if metaCheck ids = .nil then (ids, .nil) else ([], metaCheck ids) := by
        unfold metaRead
        rw [if_neg (by rw [Hsuf.out, hcons]; simp), Hdrop.out]
      have Hspec := Lib.hid hspec; clear hspec hcons
      have hpos : (0 : Int) < ((metaWords s).length : Int) := by omega
      have hone : (1 : Int) ≤ ((metaWords s).length : Int) := by omega
      have htl : t0.length = (metaWords s).length - 1 := by rw [← Hdrop.out, List.length_drop]
      have htm : ∀ p ∈ t0, p.length ≤ 100000 := fun p hp => Hws.out p (by rw [← Hdrop.out] at hp; exact List.mem_of_mem_drop hp)
      have Htl := Lib.hid htl; clear htl
      have Htm := Lib.hid htm; clear htm
      go_enter Tryz.func34, Tryz.ntmps34
      go_wp2_with fail
      refine Hcs.out.mono ?_
      rintro e w' ⟨rfl, rfl⟩
      rw [Hsuf.out]
      go_wp2_with fail
      refine (split1_any B _ 32 _ hM (by have := Hts.out; omega)).mono ?_
      rintro e w2 ⟨rfl, hown, hb2⟩
      rw [hcut] at hown ⊢
      have v1 := HE1.out _ hb2
      obtain ⟨a', c', b', o', hv', ha', hc', hcm', hx'⟩ := hown.at encS_enc
      obtain ⟨rfl, rfl⟩ : a' = some ⟨w.heap.size, 0, none⟩ ∧ c' = (metaWords s).length := by cases hv'; exact ⟨rfl, rfl⟩
      obtain ⟨rfl, rfl⟩ : b' = w.heap.size ∧ o' = 0 := by have := ha' hlen; cases this; exact ⟨rfl, rfl⟩
      have c1 := hx' 0 _ Hget.out 0 _ rfl
      simp only [Nat.zero_mul, Nat.add_zero] at c1
      obtain ⟨b3, o3, c3, hrun, hat3⟩ := slice_from (enc := encS) (sz := 1) Tryz.underlying41 szStr ha' hc' hcm' hx' 1 (by omega) hlen
      have e1 : ((1 : Nat) : Int) = 1 := rfl
      rw [e1] at hrun
      rw [Hdrop.out] at hat3
      rw [← Htl.out] at hrun hat3
      clear hv' ha' hx' hown hcm' hc' e1
      go_wp2_with fail
      refine (numbers_any B _ t0 _ (hT.below' hb2 hT.le) hat3 (by have := Htl.out; omega) Htm.out).mono ?_
      rintro e w3 ⟨v', rfl, hv1, hv2, hb3⟩
      have hb3' := hb2.trans (hb3.mono hb2.size)
      have v1' := HE1.out _ hb3'
      clear v1 c1 hrun hat3
      cases hn : numsOf t0 with
      | none =>
        rw [hn] at hv2
        obtain rfl := hv2 rfl
        have hr : metaRead s = ([], .bare 1) := by rw [Hspec.out, hn]
        have Hr := Lib.hid hr; clear hr hn hv1
        simp only [Option.isSome_none]
        go_wp2_with fail
        go_quiet (fail)
        go_wp2_with fail
        go_ret2
        exact metaRead_bad E _ _ s Hr.out (Bdn hb3' _)
      | some ids =>
        have hids := (hv1 ids hn).at encI_enc
        have hr : metaRead s = if metaCheck ids = .nil then (ids, .nil) else ([], metaCheck ids) := by rw [Hspec.out, hn]
        have Hr := Lib.hid hr; clear hr hn hv1 hv2
        simp only [Option.isSome_some]
        go_wp2_with fail
        refine (metaCheck_any E B _ ids _ ((hE.below' hb3' hE.le).sub (by decide)) hids).mono ?_
        rintro e w4 ⟨ev, rfl, hev, hb4⟩
        have hb4' := hb3'.trans (hb4.mono hb3'.size)
        by_cases hk : metaCheck ids = .nil
        · rw [hk] at hev
          obtain rfl : ev = .nilIface := hev
          have Hk := Lib.hid hk; clear hk
          have Hids := Lib.hid hids; clear hids
          go_wp2_with fail
          go_ret2
          exact ⟨v', .nilIface, rfl, by rw [Hr.out, if_pos Hk.out]; exact Hids.out.below hb4, by rw [Hr.out, if_pos Hk.out]; rfl, hb4'⟩
        · obtain ⟨u, x, rfl⟩ := hev.iface hk
          have Hk := Lib.hid hk; clear hk
          have He := Lib.hid hev; clear hev hids
          go_wp2_with fail
          go_ret2
          exact ⟨.slice none 0 0, .iface u x, rfl, by rw [Hr.out, if_neg Hk.out]; exact At.nil _ _ _, by rw [Hr.out, if_neg Hk.out]; exact He.out, hb4'⟩
    · have hr : metaRead s = ([], .bare 1) := by unfold metaRead; rw [if_pos (.inr (by rw [hcons]; simpa using hmeta))]
      have hne' : (h0 == [109, 101, 116, 97]) = false := by simpa using hmeta
      have Hr := Lib.hid hr; have Hsuf := Lib.hid hsuf; clear hr hsuf hmeta
      have Hget := Lib.hid hget; clear hget hcons hdrop
      have hpos : (0 : Int) < ((metaWords s).length : Int) := by omega
      go_enter Tryz.func34, Tryz.ntmps34
      go_wp2_with fail
      refine Hcs.out.mono ?_
      rintro e w' ⟨rfl, rfl⟩
      rw [Hsuf.out]
      go_wp2_with fail
      refine (split1_any B _ 32 _ hM (by have := Hts.out; omega)).mono ?_
      rintro e w2 ⟨rfl, hown, hb2⟩
      rw [hcut] at hown ⊢
      have v1 := HE1.out _ hb2
      obtain ⟨a', c', b', o', hv', ha', _, _, hx'⟩ := hown.at encS_enc
      obtain ⟨rfl, rfl⟩ : a' = some ⟨w.heap.size, 0, none⟩ ∧ c' = (metaWords s).length := by cases hv'; exact ⟨rfl, rfl⟩
      obtain ⟨rfl, rfl⟩ : b' = w.heap.size ∧ o' = 0 := by have := ha' hlen; cases this; exact ⟨rfl, rfl⟩
      have c1 := hx' 0 h0 Hget.out 0 _ rfl
      simp only [Nat.zero_mul, Nat.add_zero] at c1
      clear hv' ha' hx' hown
      go_wp2_with fail
      go_quiet (fail)
      go_wp2_with fail
      go_ret2
      exact metaRead_bad E _ _ s Hr.out (Bdn hb2 _)
end Go.Proofs.YtepdedfmdafnkaaGreatDoor
