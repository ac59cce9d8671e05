/- Paths, in plain words: a path with a name more. -/
import Derived.Test.YtpghaghmejgjbaaGreatDoorGa
namespace Go.Proofs.YtpghaghmejgjbaaGreatDoor.Path
open Go.RowKit
set_option linter.unusedSimpArgs false
set_option linter.unusedVariables false

theorem none_facts {w : World} {a : Option Addr} {c : Nat} {l : List ByteArray} (h : RdS w (.slice a l.length c) l) : (a = none → l.length = 0 ∧ c = 0) ∧ ∀ ad, a = some ad → ∀ W, Below w.heap.size w W → ∀ j u, (flatS l)[j]? = some u → W.cell? (ad.add j) = some u := by
  refine ⟨fun e => ?_, fun ad e => rd_flatS h.rd (by rw [e])⟩
  obtain ⟨ao, cap, hv, _, _, hc⟩ := rd_cellsS h.rd
  simp only [Value.slice.injEq, true_and] at hv
  obtain ⟨rfl, rfl⟩ := hv
  refine ⟨?_, h.z l.length c (by rw [e])⟩
  cases hl : l with
  | nil => rfl
  | cons x t => obtain ⟨b, off, e', _⟩ := hc w (Below.refl _ _) 0 x (by rw [hl]; rfl); rw [e] at e'; cases e'

theorem map_one (L : List Bs) (x : ByteArray) : (L.map mk ++ [x]).map bs = L ++ [bs x] := by
  have := map_back L [bs x]
  rwa [List.map_cons, List.map_nil, mk_bs] at this
/-- With a name more. -/
theorem more_ways {p n : Bs} (hE : splitE p = 0) :
    (nameL n = false ∧ joinE (splitL p ++ [n]) = 1) ∨ (nameL n = true ∧ joinE (splitL p ++ [n]) = 4) ∨
    (nameL n = true ∧ joinE (splitL p ++ [n]) = 0 ∧ underL p (joinS (splitL p ++ [n])) = true ∧ underL (joinS (splitL p ++ [n])) p = false ∧ n.length < (joinS (splitL p ++ [n])).length) := by
  obtain ⟨g1, g2⟩ := split_ok hE
  obtain ⟨v1, v2, v3⟩ := joinE_ok.1 g1
  have hall : (splitL p ++ [n]).all nameL = nameL n := by
    rw [List.all_append, List.all_eq_true.2 v1]; simp
  cases hn : nameL n
  · exact .inl ⟨rfl, by rw [joinE, if_neg (by rw [hall, hn]; simp)]⟩
  · rcases join_ways (splitL p ++ [n]) with ⟨e, _⟩ | ⟨_, _, e⟩ | ⟨_, _, _, e⟩ | ⟨_, _, _, e⟩
    · rw [hall, hn] at e; cases e
    · exact .inr (.inl ⟨rfl, e⟩)
    · exact .inr (.inl ⟨rfl, e⟩)
    · have hS : joinS (splitL p ++ [n]) = joinP (splitL p ++ [n]) := if_pos e
      obtain ⟨e1, e2⟩ := join_ok e
      refine .inr (.inr ⟨rfl, e, ?_, ?_, ?_⟩)
      · rw [hS]; exact under_iff.2 ⟨hE, e1, by rw [e2]; exact List.prefix_append _ _⟩
      · rw [hS, Bool.eq_false_iff]
        intro hu
        have := (under_iff.1 hu).2.2.length_le
        rw [e2] at this
        simp at this
        omega
      · rw [hS]
        by_cases h0 : splitL p = []
        · rw [h0, List.nil_append, joinP, inter_one, List.length_cons]; omega
        · rw [join_snoc _ _ h0, List.length_append, List.length_cons]; omega

end Go.Proofs.YtpghaghmejgjbaaGreatDoor.Path
