/- Leases: the document's Right. -/
import Derived.Test.YtgpddngbccecfaaDoorLa
namespace Go.Proofs.YtgpddngbccecfaaDoor.Lease
open Go.RowKit

set_option maxHeartbeats 4000000 in
theorem rright_calls (w : World) (v : Value) (l : List Le) (h : Rd w 2 encL v l) (hn : l.length ≤ 8796093022208) :
    Calls Tryd.prog 31 #[v] w fun e w' => e = .returned (.bool (rightB l)) ∧ Below w.heap.size w w' := by
  obtain ⟨ao, cap, rfl, hcap, _, hcell⟩ := rd_cells h
  have Hcell := Lib.hid hcell; clear hcell h
  go_enter Tryd.func31, Tryd.ntmps31
  go_wp2
  go_loopw [3] (fun vk wr => ∃ k : Nat, vk = .int .i64 k ∧ k ≤ l.length ∧ (List.range k).all (okAt l) = true ∧ Below w.heap.size w wr) (fun vk _ => l.length - (intOf vk).toNat)
  case atStart => exact ⟨0, rfl, Nat.zero_le _, rfl, Below.refl _ _⟩
  case round =>
    obtain ⟨k, rfl, hk, hall, hb⟩ := hrel
    have Hall := Lib.hid hall; clear hall
    have hsz := hb.size
    by_cases hlt : k < l.length
    · obtain ⟨x, hx⟩ : ∃ x, l[k]? = some x := ⟨l[k], by simp [hlt]⟩
      obtain ⟨b, off, rfl, hbl, c0, c1⟩ := Hcell.out wr hb k x hx
      have hbr : b < wr.heap.size := by omega
      have hprev : ∀ j y, k = j + 1 → l[j]? = some y → wr.cell? ⟨b, off + j * 2, none⟩ = some (.int .i64 y.c) := fun j y _ hy => by
        obtain ⟨b', off', e, _, d0, _⟩ := Hcell.out _ hb j y hy
        simp only [Option.some.injEq, Addr.mk.injEq, and_true] at e
        obtain ⟨rfl, rfl⟩ := e
        exact d0
      have Hprev := Lib.hid hprev; clear hprev
      have Hb := Lib.hid hb; clear hb
      have Hx := Lib.hid hx; clear hx
      by_cases h1 : x.c < 0
      · have hno : Hid (okAt l (k) = false) := by show okAt l (k) = false; simp [okAt, Hx.out]; omega
        go_wp2_with (fail)
        go_quiet (fail)
        go_wp2
        go_ret
        exact ⟨ret_bool (right_false hlt hno.out).symm, Hb.out.trans ⟨rfl, rfl, rfl, Nat.le_refl _, fun _ _ => rfl⟩⟩
      have b1 : decide (x.c < 0) = false := decide_eq_false h1
      by_cases h2 : 4 ≤ x.c
      · have hno : Hid (okAt l (k) = false) := by show okAt l (k) = false; simp [okAt, Hx.out]; omega
        go_wp2_with (fail)
        go_quiet (fail)
        go_wp2
        go_ret
        exact ⟨ret_bool (right_false hlt hno.out).symm, Hb.out.trans ⟨rfl, rfl, rfl, Nat.le_refl _, fun _ _ => rfl⟩⟩
      have b2 : decide (4 ≤ x.c) = false := decide_eq_false h2
      cases k with
      | zero =>
        simp only [Nat.zero_mul, Nat.add_zero] at c0 c1
        by_cases h3 : x.u < 0
        · have hno : Hid (okAt l (0) = false) := by show okAt l (0) = false; simp [okAt, Hx.out]; omega
          go_wp2_with (fail)
          go_quiet (fail)
          go_wp2
          go_ret
          exact ⟨ret_bool (right_false hlt hno.out).symm, Hb.out.trans ⟨rfl, rfl, rfl, Nat.le_refl _, fun _ _ => rfl⟩⟩
        have b3 : decide (x.u < 0) = false := decide_eq_false h3
        by_cases h4 : 9007199254740991 < x.u
        · have hno : Hid (okAt l (0) = false) := by show okAt l (0) = false; simp [okAt, Hx.out]; omega
          go_wp2_with (fail)
          go_quiet (fail)
          go_wp2
          go_ret
          exact ⟨ret_bool (right_false hlt hno.out).symm, Hb.out.trans ⟨rfl, rfl, rfl, Nat.le_refl _, fun _ _ => rfl⟩⟩
        have b4 : decide (9007199254740991 < x.u) = false := decide_eq_false h4
        have hno : Hid (okAt l (0) = true) := by show okAt l (0) = true; simp [okAt, Hx.out]; omega
        go_wp2_with (fail)
        go_quiet (fail)
        go_wp2
        go_roundw
        case rel => exact ⟨1, by go_num, by omega, right_next Hall.out hno.out, Hb.out.trans ⟨rfl, rfl, rfl, Nat.le_refl _, fun _ _ => rfl⟩⟩
        case measure => simp [intOf]; omega
      | succ j =>
        obtain ⟨y, hy⟩ : ∃ y, l[j]? = some y := ⟨l[j], by simp [show j < l.length by omega]⟩
        have d0 := Hprev.out j y rfl hy
        have hj1 : ((j : Int) + 1 - 1) = j := by omega
        have Hy := Lib.hid hy; clear hy
        by_cases h5 : x.c ≤ y.c
        · have hno : Hid (okAt l (j + 1) = false) := by show okAt l (j + 1) = false; simp [okAt, Hx.out, Hy.out]; omega
          go_wp2_with (fail)
          go_quiet (fail)
          go_wp2
          go_ret
          exact ⟨ret_bool (right_false hlt hno.out).symm, Hb.out.trans ⟨rfl, rfl, rfl, Nat.le_refl _, fun _ _ => rfl⟩⟩
        have b5 : decide (x.c ≤ y.c) = false := decide_eq_false h5
        by_cases h3 : x.u < 0
        · have hno : Hid (okAt l (j + 1) = false) := by show okAt l (j + 1) = false; simp [okAt, Hx.out, Hy.out]; omega
          go_wp2_with (fail)
          go_quiet (fail)
          go_wp2
          go_ret
          exact ⟨ret_bool (right_false hlt hno.out).symm, Hb.out.trans ⟨rfl, rfl, rfl, Nat.le_refl _, fun _ _ => rfl⟩⟩
        have b3 : decide (x.u < 0) = false := decide_eq_false h3
        by_cases h4 : 9007199254740991 < x.u
        · have hno : Hid (okAt l (j + 1) = false) := by show okAt l (j + 1) = false; simp [okAt, Hx.out, Hy.out]; omega
          go_wp2_with (fail)
          go_quiet (fail)
          go_wp2
          go_ret
          exact ⟨ret_bool (right_false hlt hno.out).symm, Hb.out.trans ⟨rfl, rfl, rfl, Nat.le_refl _, fun _ _ => rfl⟩⟩
        have b4 : decide (9007199254740991 < x.u) = false := decide_eq_false h4
        have hno : Hid (okAt l (j + 1) = true) := by show okAt l (j + 1) = true; simp [okAt, Hx.out, Hy.out]; omega
        go_wp2_with (fail)
        go_quiet (fail)
        go_wp2
        go_roundw
        case rel => exact ⟨j + 1 + 1, by go_num, by omega, right_next Hall.out hno.out, Hb.out.trans ⟨rfl, rfl, rfl, Nat.le_refl _, fun _ _ => rfl⟩⟩
        case measure => simp [intOf]; omega
    · obtain rfl : k = l.length := by omega
      go_wp2
      go_ret
      exact ⟨ret_bool Hall.out.symm, hb⟩
end Go.Proofs.YtgpddngbccecfaaDoor.Lease
