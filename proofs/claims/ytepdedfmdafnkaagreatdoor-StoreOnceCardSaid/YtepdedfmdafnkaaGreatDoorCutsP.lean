/- The plain law of StoreCuts: what is put, and swapped, until power fails. -/
import Derived.Test.YtepdedfmdafnkaaGreatDoorStorePut
namespace Go.Proofs.YtepdedfmdafnkaaGreatDoor
open Go.RowKit Go.Maps

structure Cuts (st : St) (hv th : List Str) (head : Str) : Prop where
  len : hv.length = th.length
  got : ∀ (k : Nat) (n t : Str), hv[k]? = some n → th[k]? = some t → (getO st.objs n).map (·.text) = some t
  nod : hv.Nodup
  hd : st.head = head
  cnt : st.off = false → st.objs.length = hv.length
  cnt1 : hv.length ≤ st.objs.length
  cnt2 : st.objs.length ≤ hv.length + 1
  nam : ∀ o ∈ st.objs, nameOk o.name = true

theorem aft_head (s : St) (k : Nat) : (aft s k).head = s.head := by unfold aft; split <;> (try split) <;> rfl
theorem cuts_new (c : Int) : Cuts { St.new with cut := c } [] [] [] :=
  { len := rfl, got := fun k n t h => by simp at h, nod := List.nodup_nil, hd := rfl, cnt := fun _ => rfl, cnt1 := Nat.zero_le _, cnt2 := Nat.zero_le _, nam := fun o h => by cases h }
theorem wrote_all {s : St} {k : Nat} (_ : s.off = false) (h : (aft s k).off = false) : wrote s k = k := by
  unfold aft at h; unfold wrote
  split at h
  · rw [if_pos (by assumption)]
  · rename_i h1
    rw [if_neg h1]
    split at h
    · cases h
    · rename_i h2; rw [if_neg h2]

theorem put_nil {st : St} {n t : Str} (h : putE st n t = .nil) : nameOk n = true ∧ t.length ≤ 20000 ∧ st.off = false ∧ getO st.objs n = none ∧ st.objs.length < 200 ∧ (aft st t.length).off = false ∧ putS st n t = { aft st t.length with objs := putO ⟨n, t.take (wrote st t.length), st.day⟩ st.objs } := by
  unfold putE at h
  by_cases h1 : nameOk n = false
  · rw [if_pos h1] at h; cases h
  rw [if_neg h1] at h
  by_cases h2 : 20000 < t.length
  · rw [if_pos h2] at h; cases h
  rw [if_neg h2] at h
  by_cases h3 : st.off = true
  · rw [if_pos h3] at h; cases h
  rw [if_neg h3] at h
  by_cases h4 : (getO st.objs n).isSome = true
  · rw [if_pos h4] at h; cases h
  rw [if_neg h4] at h
  by_cases h5 : 200 ≤ st.objs.length ∨ 262144 < total st.objs + t.length
  · rw [if_pos h5] at h; cases h
  rw [if_neg h5] at h
  by_cases h6 : (aft st t.length).off = true
  · rw [if_pos h6] at h; cases h
  have h7 : ¬ (nameOk n = false ∨ 20000 < t.length ∨ st.off = true ∨ (getO st.objs n).isSome = true ∨ 200 ≤ st.objs.length ∨ 262144 < total st.objs + t.length) := by
    rintro (h | h | h | h | h)
    · exact h1 h
    · exact h2 h
    · exact h3 h
    · exact h4 h
    · exact h5 h
  refine ⟨by simpa using h1, by omega, by simpa using h3, by simpa using h4, by omega, by simpa using h6, ?_⟩
  unfold putS; rw [if_neg h7]
theorem put_bad {st : St} {n t : Str} (h : putE st n t ≠ .nil) : putS st n t = st ∨ (nameOk n = true ∧ getO st.objs n = none ∧ (aft st t.length).off = true ∧ putS st n t = { aft st t.length with objs := putO ⟨n, t.take (wrote st t.length), st.day⟩ st.objs }) := by
  by_cases h7 : nameOk n = false ∨ 20000 < t.length ∨ st.off = true ∨ (getO st.objs n).isSome = true ∨ 200 ≤ st.objs.length ∨ 262144 < total st.objs + t.length
  · left; unfold putS; rw [if_pos h7]
  · right
    simp only [not_or] at h7
    obtain ⟨h1, h2, h3, h4, h5, h6⟩ := h7
    unfold putE at h
    rw [if_neg h1, if_neg h2, if_neg h3, if_neg h4, if_neg (by simp only [not_or]; exact ⟨h5, h6⟩)] at h
    refine ⟨by simpa using h1, by simpa using h4, ?_, ?_⟩
    · by_cases h8 : (aft st t.length).off = true
      · exact h8
      · rw [if_neg h8] at h; exact absurd rfl h
    · unfold putS; rw [if_neg (by simp only [not_or]; exact ⟨h1, h2, h3, h4, h5, h6⟩)]

section
variable {st : St} {hv th : List Str} {head n t : Str}
theorem Cuts.fresh (h : Cuts st hv th head) (hg : getO st.objs n = none) : n ∉ hv := by
  intro hm
  obtain ⟨k, hk⟩ := List.getElem?_of_mem hm
  have hlt := (List.getElem?_eq_some_iff.1 hk).1
  obtain ⟨x, hx⟩ := get_ex (l := th) (k := k) (by rw [← h.len]; exact hlt)
  have := h.got k n x hk hx
  rw [hg] at this; cases this
theorem Cuts.put (h : Cuts st hv th head) (hr : Rising st.objs) (h0 : st.off = false) (he : putE st n t = .nil) : Cuts (putS st n t) (hv ++ [n]) (th ++ [t]) head ∧ (putS st n t).off = false := by
  obtain ⟨h1, _, _, hg, _, ha, hs⟩ := put_nil he
  have hf := h.fresh hg
  rw [hs, wrote_all h0 ha, List.take_length]
  refine ⟨{ len := by simp [h.len], got := ?_, nod := ?_, hd := (aft_head st _).trans h.hd, cnt := fun _ => by simp [putO_length, h.cnt h0], cnt1 := by simp [putO_length, h.cnt h0], cnt2 := by simp [putO_length, h.cnt h0], nam := ?_ }, ha⟩
  · intro k m x hk hx
    by_cases hlt : k < hv.length
    · rw [List.getElem?_append_left hlt] at hk
      rw [List.getElem?_append_left (by rw [← h.len]; exact hlt)] at hx
      have hne : m ≠ n := fun e => hf (e ▸ List.mem_of_getElem? hk)
      rw [getO_put_other (x := ⟨n, t, st.day⟩) hr hg hne]
      exact h.got k m x hk hx
    · have hk' := (List.getElem?_eq_some_iff.1 hk).1
      rw [List.length_append, List.length_singleton] at hk'
      obtain rfl : k = hv.length := by omega
      rw [List.getElem?_append_right (Nat.le_refl _), Nat.sub_self] at hk
      rw [h.len, List.getElem?_append_right (Nat.le_refl _), Nat.sub_self] at hx
      simp at hk hx
      subst hk hx
      rw [getO_put_same (x := ⟨n, t, st.day⟩) hr hg]; rfl
  · rw [List.nodup_append]
    exact ⟨h.nod, by simp, fun a ha b hb e => by simp at hb; subst hb e; exact hf ha⟩
  · intro o ho
    rcases mem_putO.1 ho with rfl | ho
    · exact h1
    · exact h.nam o ho
theorem Cuts.putBad (h : Cuts st hv th head) (hr : Rising st.objs) (h0 : st.off = false) (he : putE st n t ≠ .nil) : Cuts (putS st n t) hv th head := by
  rcases put_bad he with hs | ⟨h1, hg, ha, hs⟩
  · rw [hs]; exact h
  · have hf := h.fresh hg
    rw [hs]
    refine { len := h.len, got := fun k m x hk hx => ?_, nod := h.nod, hd := (aft_head st _).trans h.hd, cnt := fun hc => ?_, cnt1 := by simp [putO_length, h.cnt h0], cnt2 := by simp [putO_length, h.cnt h0], nam := fun o ho => ?_ }
    · have hne : m ≠ n := fun e => hf (e ▸ List.mem_of_getElem? hk)
      rw [getO_put_other (x := ⟨n, _, st.day⟩) hr hg hne]
      exact h.got k m x hk hx
    · have hc : (aft st t.length).off = false := hc
      rw [ha] at hc; cases hc
    · rcases mem_putO.1 ho with rfl | ho
      · exact h1
      · exact h.nam o ho

theorem swapS_objs (s : St) (o x : Str) : (swapS s o x).objs = s.objs := by unfold swapS; split <;> (try split) <;> simp [aft_objs]
theorem Cuts.swap (h : Cuts st hv th head) (h0 : st.off = false) (he : swapE st head n = .nil) : Cuts (swapS st head n) hv th n := by
  have hh : (swapS st head n).head = n := by
    unfold swapE at he; unfold swapS
    by_cases h1 : 20000 < n.length
    · rw [if_pos h1] at he; cases he
    rw [if_neg h1, if_neg (by rw [h0]; decide), if_neg (by simp [h.hd])] at he
    by_cases h2 : wrote st n.length < n.length
    · rw [if_pos h2] at he; cases he
    rw [if_neg (by simp [h1, h0, h.hd]), if_neg h2]
  exact { len := h.len, got := fun k m x hk hx => by rw [swapS_objs]; exact h.got k m x hk hx, nod := h.nod, hd := hh, cnt := fun _ => by rw [swapS_objs]; exact h.cnt h0, cnt1 := by rw [swapS_objs]; exact h.cnt1, cnt2 := by rw [swapS_objs]; exact h.cnt2, nam := fun o ho => by rw [swapS_objs] at ho; exact h.nam o ho }
theorem Cuts.swapBad (h : Cuts st hv th head) (h0 : st.off = false) (he : swapE st head n ≠ .nil) : Cuts (swapS st head n) hv th head := by
  have hh : (swapS st head n).head = head := by
    unfold swapE at he; unfold swapS
    by_cases h1 : 20000 < n.length
    · rw [if_pos (.inl h1)]; exact h.hd
    rw [if_neg h1, if_neg (by rw [h0]; decide), if_neg (by simp [h.hd])] at he
    rw [if_neg (by simp [h1, h0, h.hd])]
    by_cases h2 : wrote st n.length < n.length
    · rw [if_pos h2, aft_head]; exact h.hd
    · rw [if_neg h2] at he; exact absurd rfl he
  exact { len := h.len, got := fun k m x hk hx => by rw [swapS_objs]; exact h.got k m x hk hx, nod := h.nod, hd := hh, cnt := fun _ => by rw [swapS_objs]; exact h.cnt h0, cnt1 := by rw [swapS_objs]; exact h.cnt1, cnt2 := by rw [swapS_objs]; exact h.cnt2, nam := fun o ho => by rw [swapS_objs] at ho; exact h.nam o ho }
end

/-- What is still there when the first i have been dropped, or power is off. -/
structure Left (st : St) (hv th : List Str) (i : Nat) : Prop where
  got : ∀ (k : Nat) (n t : Str), i ≤ k → hv[k]? = some n → th[k]? = some t → (getO st.objs n).map (·.text) = some t
  nam : ∀ o ∈ st.objs, nameOk o.name = true
theorem Cuts.left {st : St} {hv th : List Str} {head : Str} (h : Cuts st hv th head) : Left st hv th 0 := ⟨fun k n t _ hk ht => h.got k n t hk ht, h.nam⟩
theorem Left.drop {st : St} {hv th : List Str} {i : Nat} {n : Str} (h : Left st hv th i) (hr : Rising st.objs) (hn : hv.Nodup) (hi : hv[i]? = some n) : Left (dropS st n) hv th (i + 1) := by
  unfold dropS
  split
  · exact ⟨fun k m t hk => h.got k m t (by omega), h.nam⟩
  · refine ⟨fun k m t hk hm ht => ?_, fun o ho => h.nam o (List.mem_filter.1 ho).1⟩
    have hne : m ≠ n := by
      rintro rfl
      obtain ⟨h1, e1⟩ := List.getElem?_eq_some_iff.1 hm
      obtain ⟨h2, e2⟩ := List.getElem?_eq_some_iff.1 hi
      have := (List.getElem_inj hn).1 (e1.trans e2.symm)
      omega
    show (getO (dropO st.objs n) m).map (·.text) = some t
    rw [getO_drop_other hr hne]
    exact h.got k m t (by omega) hm ht
theorem Left.noEmpty {st : St} {hv th : List Str} {i : Nat} (h : Left st hv th i) : ([] : Str) ∉ st.objs.map (·.name) := by
  intro hm
  obtain ⟨o, ho, he⟩ := List.mem_map.1 hm
  have := h.nam o ho
  rw [he] at this
  simp [nameOk] at this
end Go.Proofs.YtepdedfmdafnkaaGreatDoor
