/- Leases: what a slice of them reads as; which are right; who is late. -/
import Derived.Test.YtgpddngbccecfaaDoorGa
namespace Go.Proofs.YtgpddngbccecfaaDoor.Lease
open Go.RowKit

structure Le where
  c : Int
  u : Int
  deriving DecidableEq
def encL (x : Le) : List Value := [.int .i64 x.c, .int .i64 x.u]
def flatL (l : List Le) : List Value := l.flatMap encL
theorem encL_len (x : Le) : (encL x).length = 2 := rfl
theorem flatL_len (l : List Le) : (flatL l).length = l.length * 2 := flat_length encL 2 encL_len l
theorem flatL_snoc (l : List Le) (x : Le) : flatL (l ++ [x]) = flatL l ++ encL x := by simp [flatL]
def flatI (l : List Int) : List Value := l.flatMap encI
theorem encI_len (x : Int) : (encI x).length = 1 := rfl
theorem flatI_len (l : List Int) : (flatI l).length = l.length := by rw [flatI, flat_length encI 1 encI_len, Nat.mul_one]
theorem flatI_snoc (l : List Int) (x : Int) : flatI (l ++ [x]) = flatI l ++ [.int .i64 x] := by simp [flatI, encI]
theorem infoLe : (Tryd.prog.info? 55).map (fun i => (i.zero, i.size, i.bytes)) = some (some (.agg #[.int .i64 0, .int .i64 0]), 2, 16) := by kernel_rfl
theorem etLe : ET Tryd.prog 23 55 2 16 := ET.of Tryd.underlying23 infoLe rfl (by decide) (by simp [Value.cells, Value.oneCell'])
theorem infoI : (Tryd.prog.info? 3).map (fun i => (i.zero, i.size, i.bytes)) = some (some (.int .i64 0), 1, 8) := by kernel_rfl
theorem etI : ET Tryd.prog 40 3 1 8 := ET.of Tryd.underlying40 infoI rfl (by decide) (by simp [Value.cells, Value.oneCell'])

/-- What an element reads as, in any world that is no older. -/
theorem rd_cells {w : World} {v : Value} {l : List Le} (h : Rd w 2 encL v l) : ∃ ao cap, v = .slice ao l.length cap ∧ l.length ≤ cap ∧ cap ≤ maxLen ∧ ∀ W, Below w.heap.size w W → ∀ k x, l[k]? = some x →
    ∃ b off, ao = some ⟨b, off, none⟩ ∧ b < w.heap.size ∧ W.cell? ⟨b, off + k * 2, none⟩ = some (.int .i64 x.c) ∧ W.cell? ⟨b, off + k * 2 + 1, none⟩ = some (.int .i64 x.u) := by
  obtain ⟨ao, cap, hv, hc, hcm, hcell⟩ := h
  refine ⟨ao, cap, hv, hc, hcm, fun W hW k x hx => ?_⟩
  obtain ⟨b, off, hb, hlt, hcl⟩ := hcell k x hx
  refine ⟨b, off, hb, hlt, ?_, ?_⟩
  · have := hcl 0 _ rfl
    rw [hW.cell (p := ⟨b, off + k * 2, none⟩) hlt]; exact this
  · have := hcl 1 _ rfl
    rw [hW.cell (p := ⟨b, off + k * 2 + 1, none⟩) hlt]; exact this

/-- Is the lease at k right beside the one ahead of it? -/
def okAt (l : List Le) (k : Nat) : Bool := match l[k]? with
  | none => true
  | some x => decide (0 ≤ x.c) && decide (x.c < 4) && decide (0 ≤ x.u) && decide (x.u ≤ 9007199254740991) && match k with
    | 0 => true
    | j + 1 => match l[j]? with | none => true | some y => decide (y.c < x.c)
def rightB (l : List Le) : Bool := (List.range l.length).all (okAt l)
theorem right_false {l : List Le} {k : Nat} (hk : k < l.length) (h : okAt l k = false) : rightB l = false := by
  rw [rightB, List.all_eq_false]
  exact ⟨k, List.mem_range.2 hk, by simp [h]⟩
theorem right_next {l : List Le} {k : Nat} (h : (List.range k).all (okAt l) = true) (hk : okAt l k = true) : (List.range (k + 1)).all (okAt l) = true := by
  rw [List.range_succ, List.all_append, h]; simp [hk]

set_option maxHeartbeats 2000000 in
theorem right_calls (w : World) (v : Value) (l : List Le) (h : Rd w 2 encL v l) (hn : l.length ≤ 8796093022208) :
    Calls Tryd.prog 24 #[v] w fun e w' => e = .returned (.bool (rightB l)) ∧ Below w.heap.size w w' := by
  obtain ⟨ao, cap, rfl, hcap, _, hcell⟩ := rd_cells h
  have Hcell := Lib.hid hcell; clear hcell h
  go_enter Tryd.func24, Tryd.ntmps24
  go_wp2
  go_loopw [7] (fun vk wr => ∃ k : Nat, vk = .int .i64 k ∧ k ≤ l.length ∧ (List.range k).all (okAt l) = true ∧ Below w.heap.size w wr) (fun vk _ => l.length - (intOf vk).toNat)
  case atStart => exact ⟨0, rfl, Nat.zero_le _, rfl, Below.refl _ _⟩
  case round =>
    obtain ⟨k, rfl, hk, hall, hb⟩ := hrel
    have Hall := Lib.hid hall; clear hall
    have hsz := hb.size
    by_cases hlt : k < l.length
    · obtain ⟨x, hx⟩ : ∃ x, l[k]? = some x := ⟨l[k], by simp [hlt]⟩
      obtain ⟨b, off, rfl, hbl, c0, c1⟩ := Hcell.out wr hb k x hx
      have hbr : b < wr.heap.size := by omega
      have hend : Below w.heap.size w ((wr.alloc (.cells #[.int .i64 x.c, .int .i64 x.u] 55))) := hb.alloc hsz _
      have Hend := Lib.hid hend; clear hend
      have e0 : (wr.alloc (.cells #[.int .i64 x.c, .int .i64 x.u] 55)).cell? ⟨wr.heap.size, 0, none⟩ = some (.int .i64 x.c) := cell_of_blk (j := 0) (heap_alloc_new wr _)
      have e1 : (wr.alloc (.cells #[.int .i64 x.c, .int .i64 x.u] 55)).cell? ⟨wr.heap.size, 1, none⟩ = some (.int .i64 x.u) := cell_of_blk (j := 1) (heap_alloc_new wr _)
      have hprev : ∀ j y, k = j + 1 → l[j]? = some y → (wr.alloc (.cells #[.int .i64 x.c, .int .i64 x.u] 55)).cell? ⟨b, off + j * 2, none⟩ = some (.int .i64 y.c) := fun j y _ hy => by
        obtain ⟨b', off', e, _, d0, _⟩ := Hcell.out _ Hend.out j y hy
        simp only [Option.some.injEq, Addr.mk.injEq, and_true] at e
        obtain ⟨rfl, rfl⟩ := e
        exact d0
      have Hprev := Lib.hid hprev; clear hprev
      have Hb := Lib.hid hb; clear hb
      have Hx := Lib.hid hx; clear hx
      by_cases h1 : x.c < 0
      · have hno : Hid (okAt l k = false) := by show okAt l k = false; simp [okAt, Hx.out]; omega
        go_wp2_with (fail)
        generalize wr.alloc (.cells #[.int .i64 x.c, .int .i64 x.u] 55) = wA at *
        go_quiet (fail)
        go_wp2
        go_ret
        exact ⟨ret_bool (right_false hlt hno.out).symm, Hend.out.trans ⟨rfl, rfl, rfl, Nat.le_refl _, fun _ _ => rfl⟩⟩
      have b1 : decide (x.c < 0) = false := decide_eq_false h1
      by_cases h2 : 4 ≤ x.c
      · have hno : Hid (okAt l k = false) := by show okAt l k = false; simp [okAt, Hx.out]; omega
        go_wp2_with (fail)
        generalize wr.alloc (.cells #[.int .i64 x.c, .int .i64 x.u] 55) = wA at *
        go_quiet (fail)
        go_wp2
        go_ret
        exact ⟨ret_bool (right_false hlt hno.out).symm, Hend.out.trans ⟨rfl, rfl, rfl, Nat.le_refl _, fun _ _ => rfl⟩⟩
      have b2 : decide (4 ≤ x.c) = false := decide_eq_false h2
      by_cases h3 : x.u < 0
      · have hno : Hid (okAt l k = false) := by show okAt l k = false; simp [okAt, Hx.out]; omega
        go_wp2_with (fail)
        generalize wr.alloc (.cells #[.int .i64 x.c, .int .i64 x.u] 55) = wA at *
        go_quiet (fail)
        go_wp2
        go_ret
        exact ⟨ret_bool (right_false hlt hno.out).symm, Hend.out.trans ⟨rfl, rfl, rfl, Nat.le_refl _, fun _ _ => rfl⟩⟩
      have b3 : decide (x.u < 0) = false := decide_eq_false h3
      by_cases h4 : 9007199254740991 < x.u
      · have hno : Hid (okAt l k = false) := by show okAt l k = false; simp [okAt, Hx.out]; omega
        go_wp2_with (fail)
        generalize wr.alloc (.cells #[.int .i64 x.c, .int .i64 x.u] 55) = wA at *
        go_quiet (fail)
        go_wp2
        go_ret
        exact ⟨ret_bool (right_false hlt hno.out).symm, Hend.out.trans ⟨rfl, rfl, rfl, Nat.le_refl _, fun _ _ => rfl⟩⟩
      have b4 : decide (9007199254740991 < x.u) = false := decide_eq_false h4
      cases k with
      | zero =>
        simp only [Nat.zero_mul, Nat.add_zero] at c0 c1
        · have hno : Hid (okAt l 0 = true) := by show okAt l 0 = true; simp [okAt, Hx.out]; omega
          go_wp2_with (fail)
          generalize wr.alloc (.cells #[.int .i64 x.c, .int .i64 x.u] 55) = wA at *
          go_quiet (fail)
          go_wp2
          go_roundw
          case rel => exact ⟨1, by go_num, by omega, right_next Hall.out hno.out, Hend.out.trans ⟨rfl, rfl, rfl, Nat.le_refl _, fun _ _ => rfl⟩⟩
          case measure => simp [intOf]; omega
      | succ j =>
        obtain ⟨y, hy⟩ : ∃ y, l[j]? = some y := ⟨l[j], by simp [show j < l.length by omega]⟩
        have d0 := Hprev.out j y rfl hy
        have hj1 : ((j : Int) + 1 - 1) = j := by omega
        have Hy := Lib.hid hy; clear hy
        by_cases h5 : x.c ≤ y.c
        · have hno : Hid (okAt l (j + 1) = false) := by show okAt l (j + 1) = false; simp [okAt, Hx.out, Hy.out]; omega
          go_wp2_with (fail)
          generalize wr.alloc (.cells #[.int .i64 x.c, .int .i64 x.u] 55) = wA at *
          go_quiet (fail)
          go_wp2
          go_ret
          exact ⟨ret_bool (right_false hlt hno.out).symm, Hend.out.trans ⟨rfl, rfl, rfl, Nat.le_refl _, fun _ _ => rfl⟩⟩
        · have hno : Hid (okAt l (j + 1) = true) := by show okAt l (j + 1) = true; simp [okAt, Hx.out, Hy.out]; omega
          have b5 : decide (x.c ≤ y.c) = false := decide_eq_false h5
          go_wp2_with (fail)
          generalize wr.alloc (.cells #[.int .i64 x.c, .int .i64 x.u] 55) = wA at *
          go_quiet (fail)
          go_wp2
          go_roundw
          case rel => exact ⟨j + 1 + 1, by go_num, by omega, right_next Hall.out hno.out, Hend.out.trans ⟨rfl, rfl, rfl, Nat.le_refl _, fun _ _ => rfl⟩⟩
          case measure => simp [intOf]; omega
    · obtain rfl : k = l.length := by omega
      go_wp2
      go_ret
      exact ⟨ret_bool Hall.out.symm, hb⟩
end Go.Proofs.YtgpddngbccecfaaDoor.Lease
