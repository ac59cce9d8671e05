/- Leases: two lists compared; cmp.Compare; the client of a lease; how it is compared. -/
import Derived.Test.YtgpddngbccecfaaDoorLc
namespace Go.Proofs.YtgpddngbccecfaaDoor.Lease
open Go.RowKit

theorem rd_cellsI {w : World} {v : Value} {l : List Int} (h : Rd w 1 encI v l) : ∃ ao cap, v = .slice ao l.length cap ∧ l.length ≤ cap ∧ ∀ W, Below w.heap.size w W → ∀ k x, l[k]? = some x →
    ∃ b off, ao = some ⟨b, off, none⟩ ∧ b < w.heap.size ∧ W.cell? ⟨b, off + k, none⟩ = some (.int .i64 x) := by
  obtain ⟨ao, cap, hv, hc, hcm, hcell⟩ := h
  refine ⟨ao, cap, hv, hc, fun W hW k x hx => ?_⟩
  obtain ⟨b, off, hb, hlt, hcl⟩ := hcell k x hx
  refine ⟨b, off, hb, hlt, ?_⟩
  have := hcl 0 _ rfl
  rw [Nat.mul_one] at this
  rw [hW.cell (p := ⟨b, off + k, none⟩) hlt]; exact this
theorem below_drewN (w : World) (n : Nat) : Below w.heap.size w (w.drewN n) := ⟨rfl, rfl, rfl, Nat.le_refl _, fun _ _ => rfl⟩

def sameI (a b : List Int) : Bool := decide (a = b)
def sameLe (a b : List Le) : Bool := decide (a = b)

/-- The two are the same. -/
def leEq (x y : Le) : Bool := x.c == y.c && x.u == y.u
theorem leEq_iff {x y : Le} : leEq x y = true ↔ x = y := by
  cases x; cases y
  simp [leEq]
theorem eqLe (w : World) (x y : Le) : (Op.equalIn 10000 55 (.agg #[.int .i64 x.c, .int .i64 x.u]) (.agg #[.int .i64 y.c, .int .i64 y.u])).run Tryd.prog w = .ok (leEq x y) w := by
  have hS : Tryd.prog.underlying 55 = some (.struct (Tryd.prog.fieldsOf 55)) := by kernel_rfl
  have hp : Tryd.prog.stoodInHeld 55 = false := by kernel_rfl
  rw [show (10000 : Nat) = 9999 + 1 from rfl, run_equalIn_agg w 9999 55 _ _ hS hp]
  simp only [Program.fieldsOf, Tryd.underlying55]
  go_simp
  by_cases h1 : x.c = y.c <;> by_cases h2 : x.u = y.u <;> simp [h1, h2, leEq]

def cmpI (a b : Int) : Int := if a < b then -1 else if b < a then 1 else 0
theorem nan_calls (w : World) (a : Int) : Calls Tryd.prog 78 #[.int .i64 a] w fun e w' => e = .returned (.bool false) ∧ w = w' := by
  have h : (a != a) = false := by simp
  go_enter Tryd.func78, Tryd.ntmps78
  go_wp2
  go_ret
  exact ⟨rfl, rfl⟩
theorem cmp_calls (w : World) (a b : Int) : Calls Tryd.prog 65 #[.int .i64 a, .int .i64 b] w fun e w' => e = .returned (.int .i64 (cmpI a b)) ∧ w = w' := by
  unfold cmpI
  by_cases h1 : a < b
  · rw [if_pos h1]
    go_enter Tryd.func65, Tryd.ntmps65
    go_wp2_with (go_at_call 78; refine (nan_calls _ _).mono ?_; rintro e w1 ⟨rfl, rfl⟩)
    go_ret
    exact ⟨rfl, rfl⟩
  · by_cases h2 : b < a
    · rw [if_neg h1, if_pos h2]
      go_enter Tryd.func65, Tryd.ntmps65
      go_wp2_with (go_at_call 78; refine (nan_calls _ _).mono ?_; rintro e w1 ⟨rfl, rfl⟩)
      go_ret
      exact ⟨rfl, rfl⟩
    · rw [if_neg h1, if_neg h2]
      go_enter Tryd.func65, Tryd.ntmps65
      go_wp2_with (go_at_call 78; refine (nan_calls _ _).mono ?_; rintro e w1 ⟨rfl, rfl⟩)
      go_ret
      exact ⟨rfl, rfl⟩
theorem client_calls (w : World) (x : Le) : Calls Tryd.prog 47 #[.agg #[.int .i64 x.c, .int .i64 x.u]] w fun e w' => e = .returned (.int .i64 x.c) ∧ Below w.heap.size w w' := by
  go_enter Tryd.func47, Tryd.ntmps47
  go_wp2
  go_ret
  exact ⟨rfl, (Below.refl _ _).alloc (Nat.le_refl _) _⟩
end Go.Proofs.YtgpddngbccecfaaDoor.Lease
