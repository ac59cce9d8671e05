/- Leases: lease.Renew. -/
import Derived.Test.YtdkebkalcelgpaaLl
namespace Go.Proofs.Ytdkebkalcelgpaa.Lease
open Go.RowKit
set_option linter.unusedSimpArgs false

/-- May it be renewed? -/
def renOk (c now : Int) (l : List Le) : Bool := rightB l && decide (0 ≤ c) && decide (c < 4) && decide (0 ≤ now) && decide (now ≤ 9007199254740981)
/-- The leases behind a renewal. -/
def renQ (c now : Int) (l : List Le) : List Le := (others c l).insertIdx (idxL c (others c l)) ⟨c, max (untilU c l) (now + 10)⟩
def renR (c now : Int) (l : List Le) : List Le := if renOk c now l = true then renQ c now l else []

theorem renOk_iff {c now : Int} {l : List Le} : renOk c now l = true ↔ rightB l = true ∧ 0 ≤ c ∧ c < 4 ∧ 0 ≤ now ∧ now ≤ 9007199254740981 := by
  simp only [renOk, Bool.and_eq_true, decide_eq_true_eq, and_assoc]
theorem ren_no {c now : Int} {l : List Le} (h : renOk c now l = false) : rightB l = false ∨ (rightB l = true ∧ (c < 0 ∨ (¬ c < 0 ∧ (4 ≤ c ∨ (¬ 4 ≤ c ∧ (now < 0 ∨ (¬ now < 0 ∧ 9007199254740981 < now))))))) := by
  cases hR : rightB l
  · exact .inl rfl
  · refine .inr ⟨rfl, ?_⟩
    have : ¬ (0 ≤ c ∧ c < 4 ∧ 0 ≤ now ∧ now ≤ 9007199254740981) := fun hh => by
      have := renOk_iff.2 ⟨hR, hh⟩
      rw [h] at this; cases this
    omega

theorem others_id {c : Int} {l : List Le} (h : hasL c l = false) : others c l = l := by
  rw [others, List.filter_eq_self]
  intro x hx
  have := List.any_eq_false.1 h x hx
  simpa using this
theorem idx_le (c : Int) (l : List Le) : idxL c l ≤ l.length := List.findIdx_le_length
/-- A client with none: one more. -/
theorem ren_new {c now : Int} {l : List Le} (h : hasL c l = false) : (l.insertIdx (idxL c l) ⟨c, 0⟩).set (idxL c l) ⟨c, max 0 (now + 10)⟩ = renQ c now l := by
  have hf : l.find? (fun x => x.c == c) = none := by rw [has_find] at h; simpa using h
  rw [renQ, others_id h, (until_miss hf).1, insertIdx_parts _ _ _ (idx_le c l), insertIdx_parts _ _ _ (idx_le c l), List.set_append_right _ _ (by rw [List.length_take]; omega), List.length_take, Nat.min_eq_left (idx_le c l), Nat.sub_self, List.set_cons_zero]
/-- A client with one: its lease is set. -/
theorem ren_old {c now : Int} {l : List Le} (hR : rightB l = true) {x : Le} (hx : l[idxL c l]? = some x) (hc : x.c = c) (hf : l.find? (fun x => x.c == c) = some x) : l.set (idxL c l) ⟨x.c, max x.u (now + 10)⟩ = renQ c now l := by
  have hi := (List.getElem?_eq_some_iff.1 hx).1
  have hr := right_rises hR
  generalize hk : idxL c l = i at *
  have hl : l = l.take i ++ x :: l.drop (i + 1) := by
    have := (List.getElem?_eq_some_iff.1 hx).2
    rw [← this, ← List.drop_eq_getElem_cons hi, List.take_append_drop]
  have h1 : ∀ p y, p < i → l[p]? = some y → y.c < c := fun p y hp hy => by have := rises_get hr hy hx hp; omega
  have h2 : ∀ p y, i < p → l[p]? = some y → c < y.c := fun p y hp hy => by have := rises_get hr hx hy hp; omega
  have ht : others c (l.take i) = l.take i := by
    rw [others, List.filter_eq_self]
    intro y hy
    obtain ⟨p, hp, e⟩ := List.mem_iff_getElem.1 hy
    rw [List.length_take] at hp
    have := h1 p y (by omega) (by rw [List.getElem_take] at e; rw [List.getElem?_eq_some_iff]; exact ⟨by omega, e⟩)
    simp; omega
  have hd : others c (l.drop (i + 1)) = l.drop (i + 1) := by
    rw [others, List.filter_eq_self]
    intro y hy
    obtain ⟨p, hp, e⟩ := List.mem_iff_getElem.1 hy
    rw [List.length_drop] at hp
    have := h2 (i + 1 + p) y (by omega) (by rw [List.getElem_drop] at e; rw [List.getElem?_eq_some_iff]; exact ⟨by omega, e⟩)
    simp; omega
  have ho : others c l = l.take i ++ l.drop (i + 1) := by
    rw [hl, others, List.filter_append, List.filter_cons, if_neg (by simp [hc])]
    have e1 := ht; have e2 := hd
    rw [others] at e1 e2
    rw [e1, e2, ← hl]
  have hidx : idxL c (others c l) = i := by
    rw [ho]
    refine idx_at (by rw [List.length_append, List.length_take]; omega) (fun p y hp hy => ?_) (fun p y hp hy => ?_)
    · rw [List.getElem?_append_left (by rw [List.length_take]; omega), List.getElem?_take, if_pos hp] at hy
      exact h1 p y hp hy
    · rw [List.getElem?_append_right (by rw [List.length_take]; omega), List.length_take, List.getElem?_drop] at hy
      exact Int.le_of_lt (h2 _ y (by omega) hy)
  rw [renQ, hidx, (until_hit hR hf).1, insertIdx_parts _ _ _ (by rw [ho, List.length_append, List.length_take]; omega), ho, List.take_left' (by rw [List.length_take]; omega), List.drop_left' (by rw [List.length_take]; omega), hc]
  conv => lhs; rw [hl]
  rw [List.set_append_right _ _ (by rw [List.length_take]; omega), List.length_take, Nat.min_eq_left (Nat.le_of_lt hi), Nat.sub_self, List.set_cons_zero]

theorem set_same {α : Type} {l : List α} {k : Nat} {v : α} (h : l[k]? = some v) : l.set k v = l := by
  obtain ⟨hk, rfl⟩ := List.getElem?_eq_some_iff.1 h
  exact List.set_getElem_self hk
theorem own_until {w : World} {g n cap : Nat} {m : List Le} (h : w.ownsRow 0 55 2 (.slice (some ⟨g, 0, none⟩) n cap) n (flatL m)) {i : Nat} {x : Le} (hx : m[i]? = some x) (u : Int) :
    (w.setCell ⟨g, i * 2 + 1, none⟩ (.int .i64 u)).ownsRow 0 55 2 (.slice (some ⟨g, 0, none⟩) n cap) n (flatL (m.set i ⟨x.c, u⟩)) := by
  have h1 := (h.stored (i * 2 + 1) (.int .i64 u)).1
  rw [← flatL_set, set_same (l := flatL m) (k := i * 2) (v := .int .i64 x.c) (flat_get encL 2 encL_len m i 0 _ hx (by decide))]
  exact h1
theorem own_at {w : World} {g n cap : Nat} {m : List Le} (h : w.ownsRow 0 55 2 (.slice (some ⟨g, 0, none⟩) n cap) n (flatL m)) {i : Nat} {x : Le} (hx : m[i]? = some x) :
    w.cell? ⟨g, i * 2 + 1, none⟩ = some (.int .i64 x.u) ∧ w.frozen? ⟨g, i * 2 + 1, none⟩ = false := by
  have hi := (List.getElem?_eq_some_iff.1 hx).1
  have hl := h.1
  rw [flatL_len] at hl
  have hn : n = m.length := by omega
  refine ⟨?_, ?_⟩
  · rw [h.cellAt _ (by omega)]
    exact flat_get encL 2 encL_len m i 1 _ hx (by decide)
  · rcases h.2 with ⟨_, h0⟩ | ⟨g', cap', cur, hv, _, hg, _⟩
    · omega
    · simp only [Value.slice.injEq, Option.some.injEq, Addr.mk.injEq, and_true, true_and] at hv
      obtain ⟨rfl, rfl⟩ := hv
      exact free_of_blk hg
end Go.Proofs.Ytdkebkalcelgpaa.Lease
