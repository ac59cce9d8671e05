/- Leases: two lists compared; cmp.Compare; the client of a lease; how it is compared. -/
import Derived.Test.YtdkebkalcelgpaaLc
namespace Go.Proofs.Ytdkebkalcelgpaa.Lease
open Go.RowKit

theorem rd_cellsI {w : World} {v : Value} {l : List Int} (h : Rd w 1 encI v l) : ∃ ao cap, v = .slice ao l.length cap ∧ l.length ≤ cap ∧ ∀ W, Below w.heap.size w W → ∀ k x, l[k]? = some x →
    ∃ b off, ao = some ⟨b, off, none⟩ ∧ b < w.heap.size ∧ W.cell? ⟨b, off + k, none⟩ = some (.int .i64 x) := by
  obtain ⟨ao, cap, hv, hc, hcm, hcell⟩ := h
  refine ⟨ao, cap, hv, hc, fun W hW k x hx => ?_⟩
  obtain ⟨b, off, hb, hlt, hcl⟩ := hcell k x hx
  refine ⟨b, off, hb, hlt, ?_⟩
  have := hcl 0 _ rfl
  rw [Nat.mul_one] at this
  rw [hW.cell (p := ⟨b, off + k, none⟩) hlt]; exact this
theorem below_drewN (w : World) (n : Nat) : Below w.heap.size w (w.drewN n) := ⟨rfl, rfl, rfl, Nat.le_refl _, fun _ _ => rfl⟩

def sameI (a b : List Int) : Bool := decide (a = b)
def sameLe (a b : List Le) : Bool := decide (a = b)

set_option maxHeartbeats 2000000 in
theorem numbers_calls (w : World) (u v : Value) (a b : List Int) (ha : Rd w 1 encI u a) (hb : Rd w 1 encI v b) (hn : a.length ≤ 17592186044416) :
    Calls Try.prog 31 #[u, v] w fun e w' => e = .returned (.bool (sameI a b)) ∧ ∃ n, w' = w.drewN n := by
  obtain ⟨ao, ca, rfl, _, hca⟩ := rd_cellsI ha
  obtain ⟨bo, cb, rfl, _, hcb⟩ := rd_cellsI hb
  clear ha hb
  by_cases hl : a.length = b.length
  · have hll : ((a.length : Int) != (b.length : Int)) = false := by simp [hl]
    have hlb : ((b.length : Int)) = (a.length : Int) := by omega
    have Hl := Lib.hid hl
    clear hl
    have Hca := Lib.hid hca; have Hcb := Lib.hid hcb; clear hca hcb
    go_enter Try.func31, Try.ntmps31
    go_wp2
    go_loopw [5] (fun vk wr => ∃ k : Nat, k ≤ a.length ∧ vk = .int .i64 k ∧ (∃ n, wr = w.drewN n) ∧ a.take k = b.take k) (fun vk _ => a.length - (intOf vk).toNat)
    case atStart => exact ⟨0, Nat.zero_le _, rfl, ⟨0, rfl⟩, rfl⟩
    case round =>
      obtain ⟨k, hk, rfl, ⟨n, rfl⟩, heq⟩ := hrel
      have Heq := Lib.hid heq; clear heq
      by_cases hlt : k < a.length
      · have hltb : k < b.length := by have := Hl.out; omega
        obtain ⟨x, hx⟩ : ∃ x, a[k]? = some x := ⟨a[k], by simp [hlt]⟩
        obtain ⟨y, hy⟩ : ∃ y, b[k]? = some y := ⟨b[k], by simp [hltb]⟩
        obtain ⟨bx, ox, rfl, _, c0⟩ := Hca.out w (Below.refl _ _) k x hx
        obtain ⟨by', oy, rfl, _, d0⟩ := Hcb.out w (Below.refl _ _) k y hy
        have Hx := Lib.hid hx; clear hx
        have Hy := Lib.hid hy; clear hy
        by_cases hxy : x = y
        · have hb1 : (x != y) = false := by simp [hxy]
          have Hxy := Lib.hid hxy; clear hxy
          go_wp2_with (fail)
          go_quiet (fail)
          go_wp2
          go_roundw
          case rel => exact ⟨k + 1, by omega, by go_num, ⟨_, rfl⟩, by rw [List.take_add_one, List.take_add_one, Heq.out, Hx.out, Hy.out, Hxy.out]⟩
          case measure => simp [intOf]; omega
        · have hb1 : (x != y) = true := by simp [hxy]
          have Hxy := Lib.hid hxy; clear hxy
          go_wp2_with (fail)
          go_quiet (fail)
          go_wp2
          go_ret
          refine ⟨ret_bool ?_, _, World.drewN_drewN _ _ _⟩
          refine (decide_eq_false fun h => Hxy.out ?_).symm
          subst h
          have := Hx.out.symm.trans Hy.out
          simpa using this
      · go_wp2
        go_ret
        refine ⟨ret_bool (decide_eq_true ?_).symm, n, rfl⟩
        have h := Heq.out
        rw [List.take_of_length_le (by omega), List.take_of_length_le (by have := Hl.out; omega)] at h
        exact h
  · go_enter Try.func31, Try.ntmps31
    have hll : ((a.length : Int) != (b.length : Int)) = true := by simp; omega
    clear hca hcb
    go_wp2
    go_ret
    exact ⟨ret_bool (decide_eq_false fun h => hl (by rw [h])).symm, 0, rfl⟩

/-- The two are the same. -/
def leEq (x y : Le) : Bool := x.c == y.c && x.u == y.u
theorem leEq_iff {x y : Le} : leEq x y = true ↔ x = y := by
  cases x; cases y
  simp [leEq]
theorem eqLe (w : World) (x y : Le) : (Op.equalIn 10000 55 (.agg #[.int .i64 x.c, .int .i64 x.u]) (.agg #[.int .i64 y.c, .int .i64 y.u])).run Try.prog w = .ok (leEq x y) w := by
  have hS : Try.prog.underlying 55 = some (.struct (Try.prog.fieldsOf 55)) := by kernel_rfl
  have hp : Try.prog.stoodInHeld 55 = false := by kernel_rfl
  rw [show (10000 : Nat) = 9999 + 1 from rfl, run_equalIn_agg w 9999 55 _ _ hS hp]
  simp only [Program.fieldsOf, Try.underlying55]
  go_simp
  by_cases h1 : x.c = y.c <;> by_cases h2 : x.u = y.u <;> simp [h1, h2, leEq]

set_option maxHeartbeats 2000000 in
theorem leases_calls (w : World) (u v : Value) (a b : List Le) (ha : Rd w 2 encL u a) (hb : Rd w 2 encL v b) (hn : a.length ≤ 17592186044416) :
    Calls Try.prog 35 #[u, v] w fun e w' => e = .returned (.bool (sameLe a b)) ∧ ∃ n, w' = w.drewN n := by
  obtain ⟨ao, ca, rfl, _, _, hca⟩ := rd_cells ha
  obtain ⟨bo, cb, rfl, _, _, hcb⟩ := rd_cells hb
  clear ha hb
  by_cases hl : a.length = b.length
  · have hll : ((a.length : Int) != (b.length : Int)) = false := by simp [hl]
    have hlb : ((b.length : Int)) = (a.length : Int) := by omega
    have Hl := Lib.hid hl
    clear hl
    have Hca := Lib.hid hca; have Hcb := Lib.hid hcb; clear hca hcb
    go_enter Try.func35, Try.ntmps35
    go_wp2
    go_loopw [5] (fun vk wr => ∃ k : Nat, k ≤ a.length ∧ vk = .int .i64 k ∧ (∃ n, wr = w.drewN n) ∧ a.take k = b.take k) (fun vk _ => a.length - (intOf vk).toNat)
    case atStart => exact ⟨0, Nat.zero_le _, rfl, ⟨0, rfl⟩, rfl⟩
    case round =>
      obtain ⟨k, hk, rfl, ⟨n, rfl⟩, heq⟩ := hrel
      have Heq := Lib.hid heq; clear heq
      by_cases hlt : k < a.length
      · have hltb : k < b.length := by have := Hl.out; omega
        obtain ⟨x, hx⟩ : ∃ x, a[k]? = some x := ⟨a[k], by simp [hlt]⟩
        obtain ⟨y, hy⟩ : ∃ y, b[k]? = some y := ⟨b[k], by simp [hltb]⟩
        obtain ⟨bx, ox, rfl, _, c0, c1⟩ := Hca.out w (Below.refl _ _) k x hx
        obtain ⟨by', oy, rfl, _, d0, d1⟩ := Hcb.out w (Below.refl _ _) k y hy
        have Hx := Lib.hid hx; clear hx
        have Hy := Lib.hid hy; clear hy
        have g1 : Try.prog.eqGuardType Try.prog.depth 55 = false := by kernel_rfl
        have g2 := fun W => eqLe W x y
        go_wp2
        go_quiet (fail)
        clear g1 g2
        go_wp2
        · have hxy' : leEq x y = false := by have h : (!leEq x y) = true := by assumption
                                             simpa using h
          go_ret
          refine ⟨ret_bool ?_, _, World.drewN_drewN _ _ _⟩
          refine (decide_eq_false fun h => ?_).symm
          subst h
          have := Hx.out.symm.trans Hy.out
          simp only [Option.some.injEq] at this
          rw [leEq_iff.2 this] at hxy'
          cases hxy'
        · have hxy : leEq x y = true := by have h : (!leEq x y) = false := by assumption
                                           simpa using h
          go_roundw
          case rel => exact ⟨k + 1, by omega, by go_num, ⟨_, rfl⟩, by rw [List.take_add_one, List.take_add_one, Heq.out, Hx.out, Hy.out, leEq_iff.1 hxy]⟩
          case measure => simp [intOf]; omega
      · go_wp2
        go_ret
        refine ⟨ret_bool (decide_eq_true ?_).symm, n, rfl⟩
        have h := Heq.out
        rw [List.take_of_length_le (by omega), List.take_of_length_le (by have := Hl.out; omega)] at h
        exact h
  · go_enter Try.func35, Try.ntmps35
    have hll : ((a.length : Int) != (b.length : Int)) = true := by simp; omega
    clear hca hcb
    go_wp2
    go_ret
    exact ⟨ret_bool (decide_eq_false fun h => hl (by rw [h])).symm, 0, rfl⟩

def cmpI (a b : Int) : Int := if a < b then -1 else if b < a then 1 else 0
theorem nan_calls (w : World) (a : Int) : Calls Try.prog 58 #[.int .i64 a] w fun e w' => e = .returned (.bool false) ∧ w = w' := by
  have h : (a != a) = false := by simp
  go_enter Try.func58, Try.ntmps58
  go_wp2
  go_ret
  exact ⟨rfl, rfl⟩
theorem cmp_calls (w : World) (a b : Int) : Calls Try.prog 54 #[.int .i64 a, .int .i64 b] w fun e w' => e = .returned (.int .i64 (cmpI a b)) ∧ w = w' := by
  unfold cmpI
  by_cases h1 : a < b
  · rw [if_pos h1]
    go_enter Try.func54, Try.ntmps54
    go_wp2_with (go_at_call 58; refine (nan_calls _ _).mono ?_; rintro e w1 ⟨rfl, rfl⟩)
    go_ret
    exact ⟨rfl, rfl⟩
  · by_cases h2 : b < a
    · rw [if_neg h1, if_pos h2]
      go_enter Try.func54, Try.ntmps54
      go_wp2_with (go_at_call 58; refine (nan_calls _ _).mono ?_; rintro e w1 ⟨rfl, rfl⟩)
      go_ret
      exact ⟨rfl, rfl⟩
    · rw [if_neg h1, if_neg h2]
      go_enter Try.func54, Try.ntmps54
      go_wp2_with (go_at_call 58; refine (nan_calls _ _).mono ?_; rintro e w1 ⟨rfl, rfl⟩)
      go_ret
      exact ⟨rfl, rfl⟩
theorem client_calls (w : World) (x : Le) : Calls Try.prog 44 #[.agg #[.int .i64 x.c, .int .i64 x.u]] w fun e w' => e = .returned (.int .i64 x.c) ∧ Below w.heap.size w w' := by
  go_enter Try.func44, Try.ntmps44
  go_wp2
  go_ret
  exact ⟨rfl, (Below.refl _ _).alloc (Nat.le_refl _) _⟩
end Go.Proofs.Ytdkebkalcelgpaa.Lease
