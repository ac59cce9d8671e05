/- Spaces: space.Right, walked. -/
import Derived.Test.YtgpddngbccecfaaDoorVb
namespace Go.Proofs.YtgpddngbccecfaaDoor.Space
open Go.RowKit
open Path (Bs bs mk bs_mk mk_bs tl_bs MaxC OwnS)
open Tree
open Quota (overL)
set_option linter.unusedSimpArgs false
set_option linter.unusedVariables false
set_option maxHeartbeats 4000000 in
theorem in_calls (w : World) (n lo hi : Int) : Calls Tryd.prog 22 #[.int .i64 n, .int .i64 lo, .int .i64 hi] w fun e w' => e = .returned (.bool (inB n lo hi)) ∧ w' = w := by
  go_enter Tryd.func22, Tryd.ntmps22
  by_cases h1 : lo ≤ n
  · go_wp2_with (fail)
    go_ret
    exact ⟨by rw [inB, decide_eq_true h1]; rfl, rfl⟩
  · go_wp2_with (fail)
    go_ret
    exact ⟨by rw [inB, decide_eq_false (by omega)]; rfl, rfl⟩
set_option maxRecDepth 8000 in
set_option maxHeartbeats 8000000 in
theorem right_no (w : World) (s : Sp) (hf : numsB s = false) : Calls Tryd.prog 9 #[.agg (spC s)] w fun e w' => e = .returned (.bool (spaceB s)) ∧ Below w.heap.size w w' := by
  have hin := fun W n lo hi => in_calls W n lo hi
  have hb0 := (Below.refl w.heap.size w).alloc (Nat.le_refl _) (.cells (spC s) 25 (0, 0))
  rw [spaceB, hf, Bool.false_and]
  have hways : inB s.txid 0 300 = false ∨ inB s.txid 0 300 = true ∧ inB s.nb 1 9007199254740991 = false ∨ inB s.txid 0 300 = true ∧ inB s.nb 1 9007199254740991 = true ∧ inB s.ng 1 9007199254740991 = false ∨
      inB s.txid 0 300 = true ∧ inB s.nb 1 9007199254740991 = true ∧ inB s.ng 1 9007199254740991 = true ∧ inB s.now 0 9007199254740981 = false := by
    revert hf
    rw [numsB]
    cases inB s.txid 0 300 <;> cases inB s.nb 1 9007199254740991 <;> cases inB s.ng 1 9007199254740991 <;> simp
  go_enter Tryd.func9, Tryd.ntmps9
  rw [spC] at *
  clear hf
  rcases hways with c1 | ⟨c1, c2⟩ | ⟨c1, c2, c3⟩ | ⟨c1, c2, c3, c4⟩
  · go_wp2_with (fail)
    refine (hin _ _ _ _).mono ?_; rintro e w1 ⟨rfl, rfl⟩; go_wp2_with (fail)
    go_ret
    exact ⟨rfl, hb0⟩
  · go_wp2_with (fail)
    refine (hin _ _ _ _).mono ?_; rintro e w1 ⟨rfl, rfl⟩; go_wp2_with (fail)
    refine (hin _ _ _ _).mono ?_; rintro e w1 ⟨rfl, rfl⟩; go_wp2_with (fail)
    go_ret
    exact ⟨rfl, hb0⟩
  · go_wp2_with (fail)
    refine (hin _ _ _ _).mono ?_; rintro e w1 ⟨rfl, rfl⟩; go_wp2_with (fail)
    refine (hin _ _ _ _).mono ?_; rintro e w1 ⟨rfl, rfl⟩; go_wp2_with (fail)
    refine (hin _ _ _ _).mono ?_; rintro e w1 ⟨rfl, rfl⟩; go_wp2_with (fail)
    go_ret
    exact ⟨rfl, hb0⟩
  · go_wp2_with (fail)
    refine (hin _ _ _ _).mono ?_; rintro e w1 ⟨rfl, rfl⟩; go_wp2_with (fail)
    refine (hin _ _ _ _).mono ?_; rintro e w1 ⟨rfl, rfl⟩; go_wp2_with (fail)
    refine (hin _ _ _ _).mono ?_; rintro e w1 ⟨rfl, rfl⟩; go_wp2_with (fail)
    refine (hin _ _ _ _).mono ?_; rintro e w1 ⟨rfl, rfl⟩; go_wp2_with (fail)
    go_ret
    exact ⟨rfl, hb0⟩
end Go.Proofs.YtgpddngbccecfaaDoor.Space
