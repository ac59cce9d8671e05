/- Leases: what a renewal and a drop make of right leases. -/
import Derived.Test.YtdkebkalcelgpaaLq
namespace Go.Proofs.Ytdkebkalcelgpaa.Lease
open Go.RowKit
set_option linter.unusedSimpArgs false
set_option linter.unusedVariables false

/-- A lease that may be. -/
def Fit (x : Le) : Prop := 0 ≤ x.c ∧ x.c < 4 ∧ 0 ≤ x.u ∧ x.u ≤ 9007199254740991
theorem right_fit {l : List Le} (h : rightB l = true) {x : Le} (hx : x ∈ l) : Fit x := by
  obtain ⟨k, hk, e⟩ := List.mem_iff_getElem.1 hx
  obtain ⟨h1, h2, h3, h4, _⟩ := right_at h (k := k) (x := x) (List.getElem?_eq_some_iff.2 ⟨hk, e⟩)
  exact ⟨h1, h2, h3, h4⟩
theorem right_of {l : List Le} (hr : Rises l) (hf : ∀ x ∈ l, Fit x) : rightB l = true := by
  rw [rightB, List.all_eq_true]
  intro k hk
  rw [List.mem_range] at hk
  have hx : l[k]? = some l[k] := by simp [hk]
  obtain ⟨h1, h2, h3, h4⟩ := hf l[k] (List.getElem_mem hk)
  rw [okAt, hx]
  simp only [Bool.and_eq_true, decide_eq_true_eq]
  refine ⟨⟨⟨⟨h1, h2⟩, h3⟩, h4⟩, ?_⟩
  cases k with
  | zero => rfl
  | succ j =>
    have hy : l[j]? = some l[j] := by simp [show j < l.length by omega]
    have := rises_get hr hy hx (Nat.lt_succ_self j)
    simp only [hy]
    exact decide_eq_true this
theorem find_mem {l : List Le} (hr : Rises l) {x : Le} (hx : x ∈ l) : l.find? (fun y => y.c == x.c) = some x := by
  cases hf : l.find? (fun y => y.c == x.c) with
  | none => exact absurd (List.find?_eq_none.1 hf x hx) (by simp)
  | some y =>
    have hy := List.mem_of_find?_eq_some hf
    have hc : y.c = x.c := by have := List.find?_some hf; simpa using this
    obtain ⟨i, hi, ei⟩ := List.mem_iff_getElem.1 hx
    obtain ⟨j, hj, ej⟩ := List.mem_iff_getElem.1 hy
    have hi' : l[i]? = some x := List.getElem?_eq_some_iff.2 ⟨hi, ei⟩
    have hj' : l[j]? = some y := List.getElem?_eq_some_iff.2 ⟨hj, ej⟩
    rcases Nat.lt_trichotomy i j with h | h | h
    · have := rises_get hr hi' hj' h; omega
    · subst h; rw [ei] at ej; rw [ej]
    · have := rises_get hr hj' hi' h; omega
theorem until_mem {l : List Le} (h : rightB l = true) {x : Le} (hx : x ∈ l) : untilU x.c l = x.u ∧ untilB x.c l = true := until_hit h (find_mem (right_rises h) hx)
theorem others_rises {c : Int} {l : List Le} (h : Rises l) : Rises (others c l) := List.Pairwise.filter _ h
theorem others_mem {c : Int} {l : List Le} {x : Le} : x ∈ others c l ↔ x ∈ l ∧ x.c ≠ c := by simp [others, List.mem_filter]
theorem others_right {c : Int} {l : List Le} (h : rightB l = true) : rightB (others c l) = true :=
  right_of (others_rises (right_rises h)) fun x hx => right_fit h (others_mem.1 hx).1
theorem others_gone {c : Int} {l : List Le} : untilB c (others c l) = false := by
  refine (until_miss ?_).2
  rw [List.find?_eq_none]
  intro x hx
  simpa using (others_mem.1 hx).2

section
variable {c now : Int} {l : List Le}
theorem ren_parts : renQ c now l = (others c l).take (idxL c (others c l)) ++ ⟨c, max (untilU c l) (now + 10)⟩ :: (others c l).drop (idxL c (others c l)) :=
  insertIdx_parts _ _ _ (idx_le _ _)
theorem ren_mem {x : Le} : x ∈ renQ c now l ↔ x = ⟨c, max (untilU c l) (now + 10)⟩ ∨ (x ∈ l ∧ x.c ≠ c) := by
  have key : x ∈ others c l ↔ x ∈ (others c l).take (idxL c (others c l)) ∨ x ∈ (others c l).drop (idxL c (others c l)) := by
    rw [← List.mem_append, List.take_append_drop]
  rw [ren_parts, ← others_mem, key]
  simp only [List.mem_append, List.mem_cons]
  constructor
  · rintro (h | h | h)
    · exact .inr (.inl h)
    · exact .inl h
    · exact .inr (.inr h)
  · rintro (h | h | h)
    · exact .inr (.inl h)
    · exact .inl h
    · exact .inr (.inr h)
theorem ren_rises (h : Rises l) : Rises (renQ c now l) := by
  have hr := others_rises (c := c) h
  have h1 : ∀ y ∈ (others c l).take (idxL c (others c l)), y.c < c := fun y hy => by
    obtain ⟨k, hk, e⟩ := List.mem_iff_getElem.1 hy
    rw [List.length_take] at hk
    rw [List.getElem_take] at e
    exact others_lt (k := k) (List.getElem?_eq_some_iff.2 ⟨by omega, e⟩) (by omega)
  have h2 : ∀ y ∈ (others c l).drop (idxL c (others c l)), c < y.c := fun y hy => by
    obtain ⟨k, hk, e⟩ := List.mem_iff_getElem.1 hy
    rw [List.length_drop] at hk
    rw [List.getElem_drop] at e
    have hlt : idxL c (others c l) < (others c l).length := by omega
    have hx : (others c l)[idxL c (others c l)]? = some (others c l)[idxL c (others c l)] := by simp [hlt]
    have h0 := others_gt hx
    cases k with
    | zero => simp only [Nat.add_zero] at e; rw [← e]; exact h0
    | succ k => have := rises_get hr hx (List.getElem?_eq_some_iff.2 ⟨_, e⟩) (by omega); omega
  rw [ren_parts]
  refine List.pairwise_append.2 ⟨List.Pairwise.sublist (List.take_sublist _ _) hr, List.pairwise_cons.2 ⟨fun y hy => h2 y hy, List.Pairwise.sublist (List.drop_sublist _ _) hr⟩, fun y hy z hz => ?_⟩
  rcases List.mem_cons.1 hz with rfl | hz
  · exact h1 y hy
  · exact Int.lt_trans (h1 y hy) (h2 z hz)
theorem until_fit (h : rightB l = true) : 0 ≤ untilU c l ∧ untilU c l ≤ 9007199254740991 := by
  cases hf : l.find? (fun x => x.c == c) with
  | none => rw [(until_miss hf).1]; omega
  | some x =>
    obtain ⟨_, _, h3, h4⟩ := right_fit h (List.mem_of_find?_eq_some hf)
    rw [(until_hit h hf).1]; exact ⟨h3, h4⟩
theorem ren_right (h : renOk c now l = true) : rightB (renQ c now l) = true := by
  obtain ⟨hR, g1, g2, g3, g4⟩ := renOk_iff.1 h
  refine right_of (ren_rises (right_rises hR)) fun x hx => ?_
  rcases ren_mem.1 hx with rfl | ⟨hx, _⟩
  · have := until_fit (c := c) hR
    exact ⟨g1, g2, by show 0 ≤ max _ _; omega, by show max _ _ ≤ _; omega⟩
  · exact right_fit hR hx
theorem ren_until (h : renOk c now l = true) : untilU c (renQ c now l) = max (untilU c l) (now + 10) ∧ untilB c (renQ c now l) = true :=
  until_mem (ren_right h) (x := ⟨c, max (untilU c l) (now + 10)⟩) (ren_mem.2 (.inl rfl))
theorem ren_len : (renQ c now l).length = (others c l).length + 1 := by
  rw [renQ, List.length_insertIdx, if_pos (idx_le _ _)]
theorem others_ren : others c (renQ c now l) = others c l := by
  have ho : others c (others c l) = others c l := by simp [others, List.filter_filter]
  have hsplit := ho
  rw [← List.take_append_drop (idxL c (others c l)) (others c l)] at hsplit
  rw [others, List.filter_append] at hsplit
  rw [ren_parts, others, List.filter_append, List.filter_cons, if_neg (by simp)]
  rw [List.take_append_drop] at hsplit
  exact hsplit
/-- Whoever else renews theirs: one's own lasts as long. -/
theorem ren_other {o t : Int} (h : renOk o t l = true) (hb : untilB c l = true) : untilU c l ≤ untilU c (renQ o t l) ∧ untilB c (renQ o t l) = true := by
  have hR := (renOk_iff.1 h).1
  by_cases ho : o = c
  · subst ho
    have := ren_until h
    rw [this.1, this.2]
    exact ⟨by omega, rfl⟩
  · cases hf : l.find? (fun x => x.c == c) with
    | none => rw [(until_miss hf).2] at hb; cases hb
    | some x =>
      have hx := List.mem_of_find?_eq_some hf
      have hc : x.c = c := by have := List.find?_some hf; simpa using this
      have h2 := until_mem (ren_right h) (x := x) (ren_mem.2 (.inr ⟨hx, fun e => ho (by rw [← e, hc])⟩))
      rw [hc] at h2
      rw [(until_hit hR hf).1, h2.1, h2.2]
      exact ⟨Int.le_refl _, rfl⟩
theorem ren_not_late (h : renOk c now l = true) : ∀ y ∈ lateL (now + 10) (renQ c now l), y ≠ c := by
  intro y hy e
  simp only [lateL, List.mem_map, List.mem_filter, decide_eq_true_eq] at hy
  obtain ⟨x, ⟨hx, hu⟩, rfl⟩ := hy
  have h1 := until_mem (ren_right h) hx
  rw [e, (ren_until h).1] at h1
  have := h1.1
  omega
end
end Go.Proofs.Ytdkebkalcelgpaa.Lease
