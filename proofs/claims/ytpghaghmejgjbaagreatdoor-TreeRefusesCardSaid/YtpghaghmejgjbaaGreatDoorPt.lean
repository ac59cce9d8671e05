/- Paths, in plain words: what is under what. -/
import Derived.Test.YtpghaghmejgjbaaGreatDoorPq
namespace Go.Proofs.YtpghaghmejgjbaaGreatDoor.Path
open Go.RowKit
set_option linter.unusedSimpArgs false
set_option linter.unusedVariables false

theorem under_iff {a b : Bs} : underL a b = true ↔ splitE a = 0 ∧ splitE b = 0 ∧ splitL a <+: splitL b := by
  simp only [underL, Bool.and_eq_true, decide_eq_true_eq, List.isPrefixOf_iff_prefix, and_assoc]
theorem under_trans {a b c : Bs} (h1 : underL a b = true) (h2 : underL b c = true) : underL a c = true := by
  obtain ⟨x1, x2, x3⟩ := under_iff.1 h1
  obtain ⟨y1, y2, y3⟩ := under_iff.1 h2
  exact under_iff.2 ⟨x1, y2, x3.trans y3⟩
theorem under_anti {a b : Bs} (h1 : underL a b = true) (h2 : underL b a = true) : a = b := by
  obtain ⟨x1, x2, x3⟩ := under_iff.1 h1
  obtain ⟨y1, y2, y3⟩ := under_iff.1 h2
  exact split_inj x1 x2 (x3.eq_of_length (Nat.le_antisymm x3.length_le y3.length_le))
theorem inter_pre {ns : List Bs} {k : Nat} : (joinP (ns.take k)).length ≤ (joinP ns).length := by
  induction ns generalizing k with
  | nil => simp
  | cons x r ih =>
    cases k with
    | zero => simp [joinP, inter_nil]
    | succ k =>
      rw [List.take_succ_cons]
      have h := ih (k := k)
      cases r with
      | nil => simp
      | cons y r =>
        cases k with
        | zero => simp only [List.take_zero]; rw [joinP, joinP, inter_one, inter_cons]; simp
        | succ k =>
          rw [List.take_succ_cons] at h ⊢
          rw [joinP, joinP, inter_cons, inter_cons]
          rw [joinP, joinP] at h
          simp only [List.length_cons, List.length_append] at h ⊢
          omega
structure ParMore (p : Bs) (init : List Bs) (n : Bs) : Prop where
  E : joinE init = 0
  dE : splitE (joinP init) = 0
  dL : splitL (joinP init) = init
  up : underL (joinP init) p = true
  self : underL p p = true
  down : underL p (joinP init) = false
  name : nameL n = true
  root : underL [47] p = true
theorem par_more {p n pre : Bs} {init : List Bs} (hE : splitE p = 0) (h : Par p init n pre) : ParMore p init n := by
  obtain ⟨g1, g2⟩ := split_ok hE
  rw [h.L] at g1 g2
  obtain ⟨v1, v2, v3⟩ := joinE_ok.1 g1
  have hI : joinE init = 0 := by
    refine joinE_ok.2 ⟨fun x hx => v1 x (by simp [hx]), by simp at v2; omega, ?_⟩
    have := inter_pre (ns := init ++ [n]) (k := init.length)
    rw [List.take_left' rfl] at this
    omega
  obtain ⟨e1, e2⟩ := join_ok hI
  refine ⟨hI, e1, e2, under_iff.2 ⟨e1, hE, by rw [e2, h.L]; exact List.prefix_append _ _⟩, under_iff.2 ⟨hE, hE, List.prefix_refl _⟩, ?_, v1 n (by simp), under_iff.2 ⟨by decide, hE, by rw [show splitL [47] = [] by decide]; exact List.nil_prefix⟩⟩
  rw [Bool.eq_false_iff]
  intro hu
  have := (under_iff.1 hu).2.2.length_le
  rw [h.L, e2] at this
  simp at this
  omega

end Go.Proofs.YtpghaghmejgjbaaGreatDoor.Path
