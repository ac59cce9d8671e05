/- slices.IndexFunc at aged messages, under the mail's own choice. -/
import Derived.Test.YtdkebkalcelgpaaMa
namespace Go.Proofs.Ytdkebkalcelgpaa.Mail
open Go.RowKit

def lateB (ticks : Int) (x : Ag) : Bool := decide (ticks < 1) || decide (x.age ≥ ticks)

theorem choice_calls (w : World) (bt : Nat) (ticks : Int) (x : Ag) (hc : w.heap[bt]? = some (.cells #[.int .i64 ticks] 3 (0, 0))) :
    Calls Try.prog 42 #[.agg #[.int .i64 x.to, .string x.data, .int .i64 x.age], .pointer (some ⟨bt, 0, none⟩)] w fun e w' => e = .returned (.bool (lateB ticks x)) ∧ Below w.heap.size w w' := by
  have hcc := cell_of_one hc
  have hbl := lt_of_block hc
  by_cases h1 : ticks < 1
  · go_enter Try.func42, Try.ntmps42
    go_wp2
    go_ret
    exact ⟨by simp [lateB, h1], (Below.refl _ _).alloc (Nat.le_refl _) _⟩
  · go_enter Try.func42, Try.ntmps42
    go_wp2
    go_ret
    exact ⟨by have e : decide (ticks < 1) = false := by simp; omega
              simp only [lateB, e, Bool.false_or]; simp, (Below.refl _ _).alloc (Nat.le_refl _) _⟩

/-- The cells of element k of an owned row. -/
theorem own_cells {w : World} {g cap : Nat} {l : List Ag} (h : w.ownsRow 0 79 3 (.slice (some ⟨g, 0, none⟩) l.length cap) l.length (flatA l)) {k : Nat} {x : Ag} (hx : l[k]? = some x) :
    w.cell? ⟨g, k * 3, none⟩ = some (.int .i64 x.to) ∧ w.cell? ⟨g, k * 3 + 1, none⟩ = some (.string x.data) ∧ w.cell? ⟨g, k * 3 + 2, none⟩ = some (.int .i64 x.age) := by
  have hk := (List.getElem?_eq_some_iff.1 hx).1
  have e0 := flat_get encA 3 encA_len l k 0 x hx (by decide)
  have e1 := flat_get encA 3 encA_len l k 1 x hx (by decide)
  have e2 := flat_get encA 3 encA_len l k 2 x hx (by decide)
  refine ⟨?_, ?_, ?_⟩
  · rw [h.cellAt _ (by omega)]; exact e0
  · rw [h.cellAt _ (by omega)]; exact e1
  · rw [h.cellAt _ (by omega)]; exact e2

def idxA (p : Ag → Bool) (l : List Ag) : Int := if l.any p then (l.findIdx p : Int) else -1

theorem take_any_succ {p : Ag → Bool} {l : List Ag} {k : Nat} {x : Ag} (hx : l[k]? = some x) (h : (l.take k).any p = false) (hp : p x = false) : (l.take (k + 1)).any p = false := by
  rw [List.take_add_one, hx]
  simp only [Option.toList_some, List.any_append, h, List.any_cons, hp, List.any_nil, Bool.or_self]
theorem idxA_none {p : Ag → Bool} {l : List Ag} {k : Nat} (hk : l.length ≤ k) (h : (l.take k).any p = false) : idxA p l = -1 := by
  rw [List.take_of_length_le hk] at h
  simp [idxA, h]
theorem idxA_hit {p : Ag → Bool} {l : List Ag} {k : Nat} {x : Ag} (hx : l[k]? = some x) (h : (l.take k).any p = false) (hp : p x = true) : idxA p l = k := by
  have hk := (List.getElem?_eq_some_iff.1 hx).1
  have ha : l.any p = true := List.any_eq_true.2 ⟨x, List.mem_of_getElem? hx, hp⟩
  have hf : l.findIdx p = k := by
    rw [List.findIdx_eq hk]
    refine ⟨by rw [(List.getElem?_eq_some_iff.1 hx).2]; exact hp, fun j hj => ?_⟩
    have := List.any_eq_false.1 h (l[j]) (by rw [List.mem_take_iff_getElem]; exact ⟨j, by omega, rfl⟩)
    simpa using this
  simp [idxA, ha, hf]

theorem index_calls (w : World) (bt : Nat) (ticks : Int) (hc : w.heap[bt]? = some (.cells #[.int .i64 ticks] 3 (0, 0))) (l : List Ag) (v : Value) (hown : w.ownsRow 0 79 3 v l.length (flatA l)) (hn : l.length ≤ 1000000) :
    Calls Try.prog 51 #[v, .func (.func 42) #[] #[.pointer (some ⟨bt, 0, none⟩)]] w fun e w' => e = .returned (.int .i64 (idxA (lateB ticks) l)) ∧ Below w.heap.size w w' := by
  have hbl := lt_of_block hc
  obtain ⟨ao, cap, rfl, hcells⟩ : ∃ ao cap, v = .slice ao l.length cap ∧ ∀ W, Below w.heap.size w W → ∀ k x, l[k]? = some x → ∃ g, ao = some ⟨g, 0, none⟩ ∧ W.cell? ⟨g, k * 3, none⟩ = some (.int .i64 x.to) ∧ W.cell? ⟨g, k * 3 + 1, none⟩ = some (.string x.data) ∧ W.cell? ⟨g, k * 3 + 2, none⟩ = some (.int .i64 x.age) := by
    rcases hown.2 with ⟨rfl, h0⟩ | ⟨g, cap, cur, rfl, _, hg, _⟩
    · refine ⟨none, 0, by rw [h0], fun W _ k x hx => ?_⟩
      have := (List.getElem?_eq_some_iff.1 hx).1
      omega
    · refine ⟨_, cap, rfl, fun W hW k x hx => ⟨g, rfl, ?_⟩⟩
      have := own_cells (below_ownsRow hW hown (fun g' h => by simp [Value.ownBlock] at h; subst h; exact lt_of_block hg)) hx
      exact this
  go_enter Try.func51, Try.ntmps51
  go_wp2
  go_loopw [8] (fun i wr => ∃ k : Nat, k ≤ l.length ∧ i = .int .i64 k ∧ Below w.heap.size w wr ∧ (l.take k).any (lateB ticks) = false) (fun i _ => l.length - (intOf i).toNat)
  case atStart => exact ⟨0, Nat.zero_le _, rfl, Below.refl _ _, rfl⟩
  case round =>
    obtain ⟨k, hk, rfl, hbel, hnone⟩ := hrel
    have Hnone := Lib.hid hnone; clear hnone
    by_cases hlt : k < l.length
    · obtain ⟨x, hx⟩ : ∃ x, l[k]? = some x := ⟨l[k], by simp [hlt]⟩
      obtain ⟨g, rfl, h0, h1, h2⟩ := hcells wr hbel k x hx
      have hct : wr.heap[bt]? = some (.cells #[.int .i64 ticks] 3 (0, 0)) := (hbel.block bt hbl).trans hc
      clear hcells hc
      have Hx := Lib.hid hx; clear hx
      have Hct := Lib.hid hct; clear hct
      go_wp2_with (go_at_call 42; refine (choice_calls _ bt ticks x Hct.out).mono ?_; rintro e w1 ⟨rfl, hb1⟩)
      · go_ret
        have hp : lateB ticks x = true := by assumption
        exact ⟨ret_int (idxA_hit Hx.out Hnone.out hp).symm, hbel.trans (hb1.mono hbel.size)⟩
      · have hp : lateB ticks x = false := by assumption
        go_roundw
        case rel => exact ⟨k + 1, by omega, by go_num, hbel.trans (hb1.mono hbel.size), take_any_succ Hx.out Hnone.out hp⟩
        case measure => simp [intOf]; omega
    · go_wp2
      go_ret
      exact ⟨ret_int (idxA_none (by omega) Hnone.out).symm, hbel⟩
end Go.Proofs.Ytdkebkalcelgpaa.Mail
