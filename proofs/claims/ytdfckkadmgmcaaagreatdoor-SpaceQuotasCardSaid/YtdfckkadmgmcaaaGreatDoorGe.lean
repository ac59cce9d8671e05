/- Parts of the proof, one behind the other: La, Lb, Lc, Ld, Le, Lf, Lg, Lh, Li, Lj, Lk, Ll, Lm, Ln, Lo, Lp, Lq, Lu. -/
import Derived.Test.YtdfckkadmgmcaaaGreatDoorGa
import Derived.Lib.Overlaps
import Derived.Lib.SliceRun
import Derived.Laws.Externs
import Derived.Deep.Strs
/- Leases: what a slice of them reads as; which are right; who is late. -/
namespace Go.Proofs.YtdfckkadmgmcaaaGreatDoor.Lease
open Go.RowKit

structure Le where
  c : Int
  u : Int
  deriving DecidableEq
def encL (x : Le) : List Value := [.int .i64 x.c, .int .i64 x.u]
def flatL (l : List Le) : List Value := l.flatMap encL
theorem encL_len (x : Le) : (encL x).length = 2 := rfl
theorem flatL_len (l : List Le) : (flatL l).length = l.length * 2 := flat_length encL 2 encL_len l
theorem flatL_snoc (l : List Le) (x : Le) : flatL (l ++ [x]) = flatL l ++ encL x := by simp [flatL]
def flatI (l : List Int) : List Value := l.flatMap encI
theorem encI_len (x : Int) : (encI x).length = 1 := rfl
theorem flatI_len (l : List Int) : (flatI l).length = l.length := by rw [flatI, flat_length encI 1 encI_len, Nat.mul_one]
theorem flatI_snoc (l : List Int) (x : Int) : flatI (l ++ [x]) = flatI l ++ [.int .i64 x] := by simp [flatI, encI]
theorem infoLe : (Tryz.prog.info? 49).map (fun i => (i.zero, i.size, i.bytes)) = some (some (.agg #[.int .i64 0, .int .i64 0]), 2, 16) := by kernel_rfl
theorem etLe : ET Tryz.prog 25 49 2 16 := ET.of Tryz.underlying25 infoLe rfl (by decide) (by simp [Value.cells, Value.oneCell'])
theorem infoI : (Tryz.prog.info? 3).map (fun i => (i.zero, i.size, i.bytes)) = some (some (.int .i64 0), 1, 8) := by kernel_rfl
theorem etI : ET Tryz.prog 40 3 1 8 := ET.of Tryz.underlying40 infoI rfl (by decide) (by simp [Value.cells, Value.oneCell'])

/-- What an element reads as, in any world that is no older. -/
theorem rd_cells {w : World} {v : Value} {l : List Le} (h : Rd w 2 encL v l) : ∃ ao cap, v = .slice ao l.length cap ∧ l.length ≤ cap ∧ cap ≤ maxLen ∧ ∀ W, Below w.heap.size w W → ∀ k x, l[k]? = some x →
    ∃ b off, ao = some ⟨b, off, none⟩ ∧ b < w.heap.size ∧ W.cell? ⟨b, off + k * 2, none⟩ = some (.int .i64 x.c) ∧ W.cell? ⟨b, off + k * 2 + 1, none⟩ = some (.int .i64 x.u) := by
  obtain ⟨ao, cap, hv, hc, hcm, hcell⟩ := h
  refine ⟨ao, cap, hv, hc, hcm, fun W hW k x hx => ?_⟩
  obtain ⟨b, off, hb, hlt, hcl⟩ := hcell k x hx
  refine ⟨b, off, hb, hlt, ?_, ?_⟩
  · have := hcl 0 _ rfl
    rw [hW.cell (p := ⟨b, off + k * 2, none⟩) hlt]; exact this
  · have := hcl 1 _ rfl
    rw [hW.cell (p := ⟨b, off + k * 2 + 1, none⟩) hlt]; exact this

/-- Is the lease at k right beside the one ahead of it? -/
def okAt (l : List Le) (k : Nat) : Bool := match l[k]? with
  | none => true
  | some x => decide (0 ≤ x.c) && decide (x.c < 4) && decide (0 ≤ x.u) && decide (x.u ≤ 9007199254740991) && match k with
    | 0 => true
    | j + 1 => match l[j]? with | none => true | some y => decide (y.c < x.c)
def rightB (l : List Le) : Bool := (List.range l.length).all (okAt l)
theorem right_false {l : List Le} {k : Nat} (hk : k < l.length) (h : okAt l k = false) : rightB l = false := by
  rw [rightB, List.all_eq_false]
  exact ⟨k, List.mem_range.2 hk, by simp [h]⟩
theorem right_next {l : List Le} {k : Nat} (h : (List.range k).all (okAt l) = true) (hk : okAt l k = true) : (List.range (k + 1)).all (okAt l) = true := by
  rw [List.range_succ, List.all_append, h]; simp [hk]

set_option maxHeartbeats 2000000 in
theorem right_calls (w : World) (v : Value) (l : List Le) (h : Rd w 2 encL v l) (hn : l.length ≤ 8796093022208) :
    Calls Tryz.prog 58 #[v] w fun e w' => e = .returned (.bool (rightB l)) ∧ Below w.heap.size w w' := by
  obtain ⟨ao, cap, rfl, hcap, _, hcell⟩ := rd_cells h
  have Hcell := Lib.hid hcell; clear hcell h
  go_enter Tryz.func58, Tryz.ntmps58
  go_wp2
  go_loopw [7] (fun vk wr => ∃ k : Nat, vk = .int .i64 k ∧ k ≤ l.length ∧ (List.range k).all (okAt l) = true ∧ Below w.heap.size w wr) (fun vk _ => l.length - (intOf vk).toNat)
  case atStart => exact ⟨0, rfl, Nat.zero_le _, rfl, Below.refl _ _⟩
  case round =>
    obtain ⟨k, rfl, hk, hall, hb⟩ := hrel
    have Hall := Lib.hid hall; clear hall
    have hsz := hb.size
    by_cases hlt : k < l.length
    · obtain ⟨x, hx⟩ : ∃ x, l[k]? = some x := ⟨l[k], by simp [hlt]⟩
      obtain ⟨b, off, rfl, hbl, c0, c1⟩ := Hcell.out wr hb k x hx
      have hbr : b < wr.heap.size := by omega
      have hend : Below w.heap.size w ((wr.alloc (.cells #[.int .i64 x.c, .int .i64 x.u] 49))) := hb.alloc hsz _
      have Hend := Lib.hid hend; clear hend
      have e0 : (wr.alloc (.cells #[.int .i64 x.c, .int .i64 x.u] 49)).cell? ⟨wr.heap.size, 0, none⟩ = some (.int .i64 x.c) := cell_of_blk (j := 0) (heap_alloc_new wr _)
      have e1 : (wr.alloc (.cells #[.int .i64 x.c, .int .i64 x.u] 49)).cell? ⟨wr.heap.size, 1, none⟩ = some (.int .i64 x.u) := cell_of_blk (j := 1) (heap_alloc_new wr _)
      have hprev : ∀ j y, k = j + 1 → l[j]? = some y → (wr.alloc (.cells #[.int .i64 x.c, .int .i64 x.u] 49)).cell? ⟨b, off + j * 2, none⟩ = some (.int .i64 y.c) := fun j y _ hy => by
        obtain ⟨b', off', e, _, d0, _⟩ := Hcell.out _ Hend.out j y hy
        simp only [Option.some.injEq, Addr.mk.injEq, and_true] at e
        obtain ⟨rfl, rfl⟩ := e
        exact d0
      have Hprev := Lib.hid hprev; clear hprev
      have Hb := Lib.hid hb; clear hb
      have Hx := Lib.hid hx; clear hx
      by_cases h1 : x.c < 0
      · have hno : Hid (okAt l k = false) := by show okAt l k = false; simp [okAt, Hx.out]; omega
        go_wp2_with (fail)
        generalize wr.alloc (.cells #[.int .i64 x.c, .int .i64 x.u] 49) = wA at *
        go_quiet (fail)
        go_wp2
        go_ret
        exact ⟨ret_bool (right_false hlt hno.out).symm, Hend.out.trans ⟨rfl, rfl, rfl, Nat.le_refl _, fun _ _ => rfl⟩⟩
      have b1 : decide (x.c < 0) = false := decide_eq_false h1
      by_cases h2 : 4 ≤ x.c
      · have hno : Hid (okAt l k = false) := by show okAt l k = false; simp [okAt, Hx.out]; omega
        go_wp2_with (fail)
        generalize wr.alloc (.cells #[.int .i64 x.c, .int .i64 x.u] 49) = wA at *
        go_quiet (fail)
        go_wp2
        go_ret
        exact ⟨ret_bool (right_false hlt hno.out).symm, Hend.out.trans ⟨rfl, rfl, rfl, Nat.le_refl _, fun _ _ => rfl⟩⟩
      have b2 : decide (4 ≤ x.c) = false := decide_eq_false h2
      by_cases h3 : x.u < 0
      · have hno : Hid (okAt l k = false) := by show okAt l k = false; simp [okAt, Hx.out]; omega
        go_wp2_with (fail)
        generalize wr.alloc (.cells #[.int .i64 x.c, .int .i64 x.u] 49) = wA at *
        go_quiet (fail)
        go_wp2
        go_ret
        exact ⟨ret_bool (right_false hlt hno.out).symm, Hend.out.trans ⟨rfl, rfl, rfl, Nat.le_refl _, fun _ _ => rfl⟩⟩
      have b3 : decide (x.u < 0) = false := decide_eq_false h3
      by_cases h4 : 9007199254740991 < x.u
      · have hno : Hid (okAt l k = false) := by show okAt l k = false; simp [okAt, Hx.out]; omega
        go_wp2_with (fail)
        generalize wr.alloc (.cells #[.int .i64 x.c, .int .i64 x.u] 49) = wA at *
        go_quiet (fail)
        go_wp2
        go_ret
        exact ⟨ret_bool (right_false hlt hno.out).symm, Hend.out.trans ⟨rfl, rfl, rfl, Nat.le_refl _, fun _ _ => rfl⟩⟩
      have b4 : decide (9007199254740991 < x.u) = false := decide_eq_false h4
      cases k with
      | zero =>
        simp only [Nat.zero_mul, Nat.add_zero] at c0 c1
        · have hno : Hid (okAt l 0 = true) := by show okAt l 0 = true; simp [okAt, Hx.out]; omega
          go_wp2_with (fail)
          generalize wr.alloc (.cells #[.int .i64 x.c, .int .i64 x.u] 49) = wA at *
          go_quiet (fail)
          go_wp2
          go_roundw
          case rel => exact ⟨1, by go_num, by omega, right_next Hall.out hno.out, Hend.out.trans ⟨rfl, rfl, rfl, Nat.le_refl _, fun _ _ => rfl⟩⟩
          case measure => simp [intOf]; omega
      | succ j =>
        obtain ⟨y, hy⟩ : ∃ y, l[j]? = some y := ⟨l[j], by simp [show j < l.length by omega]⟩
        have d0 := Hprev.out j y rfl hy
        have hj1 : ((j : Int) + 1 - 1) = j := by omega
        have Hy := Lib.hid hy; clear hy
        by_cases h5 : x.c ≤ y.c
        · have hno : Hid (okAt l (j + 1) = false) := by show okAt l (j + 1) = false; simp [okAt, Hx.out, Hy.out]; omega
          go_wp2_with (fail)
          generalize wr.alloc (.cells #[.int .i64 x.c, .int .i64 x.u] 49) = wA at *
          go_quiet (fail)
          go_wp2
          go_ret
          exact ⟨ret_bool (right_false hlt hno.out).symm, Hend.out.trans ⟨rfl, rfl, rfl, Nat.le_refl _, fun _ _ => rfl⟩⟩
        · have hno : Hid (okAt l (j + 1) = true) := by show okAt l (j + 1) = true; simp [okAt, Hx.out, Hy.out]; omega
          have b5 : decide (x.c ≤ y.c) = false := decide_eq_false h5
          go_wp2_with (fail)
          generalize wr.alloc (.cells #[.int .i64 x.c, .int .i64 x.u] 49) = wA at *
          go_quiet (fail)
          go_wp2
          go_roundw
          case rel => exact ⟨j + 1 + 1, by go_num, by omega, right_next Hall.out hno.out, Hend.out.trans ⟨rfl, rfl, rfl, Nat.le_refl _, fun _ _ => rfl⟩⟩
          case measure => simp [intOf]; omega
    · obtain rfl : k = l.length := by omega
      go_wp2
      go_ret
      exact ⟨ret_bool Hall.out.symm, hb⟩
end Go.Proofs.YtdfckkadmgmcaaaGreatDoor.Lease

/- Leases: the document's Right. -/
namespace Go.Proofs.YtdfckkadmgmcaaaGreatDoor.Lease
open Go.RowKit

set_option maxHeartbeats 4000000 in
theorem rright_calls (w : World) (v : Value) (l : List Le) (h : Rd w 2 encL v l) (hn : l.length ≤ 8796093022208) :
    Calls Tryz.prog 60 #[v] w fun e w' => e = .returned (.bool (rightB l)) ∧ Below w.heap.size w w' := by
  obtain ⟨ao, cap, rfl, hcap, _, hcell⟩ := rd_cells h
  have Hcell := Lib.hid hcell; clear hcell h
  go_enter Tryz.func60, Tryz.ntmps60
  go_wp2
  go_loopw [3] (fun vk wr => ∃ k : Nat, vk = .int .i64 k ∧ k ≤ l.length ∧ (List.range k).all (okAt l) = true ∧ Below w.heap.size w wr) (fun vk _ => l.length - (intOf vk).toNat)
  case atStart => exact ⟨0, rfl, Nat.zero_le _, rfl, Below.refl _ _⟩
  case round =>
    obtain ⟨k, rfl, hk, hall, hb⟩ := hrel
    have Hall := Lib.hid hall; clear hall
    have hsz := hb.size
    by_cases hlt : k < l.length
    · obtain ⟨x, hx⟩ : ∃ x, l[k]? = some x := ⟨l[k], by simp [hlt]⟩
      obtain ⟨b, off, rfl, hbl, c0, c1⟩ := Hcell.out wr hb k x hx
      have hbr : b < wr.heap.size := by omega
      have hprev : ∀ j y, k = j + 1 → l[j]? = some y → wr.cell? ⟨b, off + j * 2, none⟩ = some (.int .i64 y.c) := fun j y _ hy => by
        obtain ⟨b', off', e, _, d0, _⟩ := Hcell.out _ hb j y hy
        simp only [Option.some.injEq, Addr.mk.injEq, and_true] at e
        obtain ⟨rfl, rfl⟩ := e
        exact d0
      have Hprev := Lib.hid hprev; clear hprev
      have Hb := Lib.hid hb; clear hb
      have Hx := Lib.hid hx; clear hx
      by_cases h1 : x.c < 0
      · have hno : Hid (okAt l (k) = false) := by show okAt l (k) = false; simp [okAt, Hx.out]; omega
        go_wp2_with (fail)
        go_quiet (fail)
        go_wp2
        go_ret
        exact ⟨ret_bool (right_false hlt hno.out).symm, Hb.out.trans ⟨rfl, rfl, rfl, Nat.le_refl _, fun _ _ => rfl⟩⟩
      have b1 : decide (x.c < 0) = false := decide_eq_false h1
      by_cases h2 : 4 ≤ x.c
      · have hno : Hid (okAt l (k) = false) := by show okAt l (k) = false; simp [okAt, Hx.out]; omega
        go_wp2_with (fail)
        go_quiet (fail)
        go_wp2
        go_ret
        exact ⟨ret_bool (right_false hlt hno.out).symm, Hb.out.trans ⟨rfl, rfl, rfl, Nat.le_refl _, fun _ _ => rfl⟩⟩
      have b2 : decide (4 ≤ x.c) = false := decide_eq_false h2
      cases k with
      | zero =>
        simp only [Nat.zero_mul, Nat.add_zero] at c0 c1
        by_cases h3 : x.u < 0
        · have hno : Hid (okAt l (0) = false) := by show okAt l (0) = false; simp [okAt, Hx.out]; omega
          go_wp2_with (fail)
          go_quiet (fail)
          go_wp2
          go_ret
          exact ⟨ret_bool (right_false hlt hno.out).symm, Hb.out.trans ⟨rfl, rfl, rfl, Nat.le_refl _, fun _ _ => rfl⟩⟩
        have b3 : decide (x.u < 0) = false := decide_eq_false h3
        by_cases h4 : 9007199254740991 < x.u
        · have hno : Hid (okAt l (0) = false) := by show okAt l (0) = false; simp [okAt, Hx.out]; omega
          go_wp2_with (fail)
          go_quiet (fail)
          go_wp2
          go_ret
          exact ⟨ret_bool (right_false hlt hno.out).symm, Hb.out.trans ⟨rfl, rfl, rfl, Nat.le_refl _, fun _ _ => rfl⟩⟩
        have b4 : decide (9007199254740991 < x.u) = false := decide_eq_false h4
        have hno : Hid (okAt l (0) = true) := by show okAt l (0) = true; simp [okAt, Hx.out]; omega
        go_wp2_with (fail)
        go_quiet (fail)
        go_wp2
        go_roundw
        case rel => exact ⟨1, by go_num, by omega, right_next Hall.out hno.out, Hb.out.trans ⟨rfl, rfl, rfl, Nat.le_refl _, fun _ _ => rfl⟩⟩
        case measure => simp [intOf]; omega
      | succ j =>
        obtain ⟨y, hy⟩ : ∃ y, l[j]? = some y := ⟨l[j], by simp [show j < l.length by omega]⟩
        have d0 := Hprev.out j y rfl hy
        have hj1 : ((j : Int) + 1 - 1) = j := by omega
        have Hy := Lib.hid hy; clear hy
        by_cases h5 : x.c ≤ y.c
        · have hno : Hid (okAt l (j + 1) = false) := by show okAt l (j + 1) = false; simp [okAt, Hx.out, Hy.out]; omega
          go_wp2_with (fail)
          go_quiet (fail)
          go_wp2
          go_ret
          exact ⟨ret_bool (right_false hlt hno.out).symm, Hb.out.trans ⟨rfl, rfl, rfl, Nat.le_refl _, fun _ _ => rfl⟩⟩
        have b5 : decide (x.c ≤ y.c) = false := decide_eq_false h5
        by_cases h3 : x.u < 0
        · have hno : Hid (okAt l (j + 1) = false) := by show okAt l (j + 1) = false; simp [okAt, Hx.out, Hy.out]; omega
          go_wp2_with (fail)
          go_quiet (fail)
          go_wp2
          go_ret
          exact ⟨ret_bool (right_false hlt hno.out).symm, Hb.out.trans ⟨rfl, rfl, rfl, Nat.le_refl _, fun _ _ => rfl⟩⟩
        have b3 : decide (x.u < 0) = false := decide_eq_false h3
        by_cases h4 : 9007199254740991 < x.u
        · have hno : Hid (okAt l (j + 1) = false) := by show okAt l (j + 1) = false; simp [okAt, Hx.out, Hy.out]; omega
          go_wp2_with (fail)
          go_quiet (fail)
          go_wp2
          go_ret
          exact ⟨ret_bool (right_false hlt hno.out).symm, Hb.out.trans ⟨rfl, rfl, rfl, Nat.le_refl _, fun _ _ => rfl⟩⟩
        have b4 : decide (9007199254740991 < x.u) = false := decide_eq_false h4
        have hno : Hid (okAt l (j + 1) = true) := by show okAt l (j + 1) = true; simp [okAt, Hx.out, Hy.out]; omega
        go_wp2_with (fail)
        go_quiet (fail)
        go_wp2
        go_roundw
        case rel => exact ⟨j + 1 + 1, by go_num, by omega, right_next Hall.out hno.out, Hb.out.trans ⟨rfl, rfl, rfl, Nat.le_refl _, fun _ _ => rfl⟩⟩
        case measure => simp [intOf]; omega
    · obtain rfl : k = l.length := by omega
      go_wp2
      go_ret
      exact ⟨ret_bool Hall.out.symm, hb⟩
end Go.Proofs.YtdfckkadmgmcaaaGreatDoor.Lease

/- Leases: who is late, by the program and by the document. -/
namespace Go.Proofs.YtdfckkadmgmcaaaGreatDoor.Lease
open Go.RowKit

def lateL (now : Int) (l : List Le) : List Int := (l.filter fun x => decide (x.u < now)).map Le.c
def lateR (now : Int) (l : List Le) : List Int := if rightB l = true then lateL now l else []
theorem late_len (now : Int) (l : List Le) : (lateL now l).length ≤ l.length := by simp [lateL, List.length_filter_le]
theorem late_next {now : Int} {l : List Le} {k : Nat} {x : Le} (hx : l[k]? = some x) : lateL now (l.take (k + 1)) = if x.u < now then lateL now (l.take k) ++ [x.c] else lateL now (l.take k) := by
  rw [lateL, List.take_add_one, hx, lateL]
  by_cases h : x.u < now <;> simp [h]
/-- A slice of numbers of the call's own. -/
structure OwnI (w w' : World) (v : Value) (q : List Int) : Prop where
  own : w'.ownsRow 0 3 1 v q.length (flatI q)
  new : ∀ g, v.ownBlock = some g → w.heap.size ≤ g

/-- How long a client has. -/
def untilU (c : Int) (l : List Le) : Int := if rightB l = true then match l.find? (fun x => x.c == c) with | some x => x.u | none => 0 else 0
def untilB (c : Int) (l : List Le) : Bool := rightB l && (l.find? (fun x => x.c == c)).isSome
theorem find_next {c : Int} {l : List Le} {k : Nat} {x : Le} (hx : l[k]? = some x) (h : (l.take k).find? (fun x => x.c == c) = none) (hc : x.c ≠ c) : (l.take (k + 1)).find? (fun x => x.c == c) = none := by
  rw [List.take_add_one, hx, List.find?_append, h]; simp [hc]
theorem find_here {c : Int} {l : List Le} {k : Nat} {x : Le} (hx : l[k]? = some x) (h : (l.take k).find? (fun x => x.c == c) = none) (hc : x.c = c) : l.find? (fun x => x.c == c) = some x := by
  have hk := (List.getElem?_eq_some_iff.1 hx).1
  have e : l = l.take (k + 1) ++ l.drop (k + 1) := (List.take_append_drop _ _).symm
  rw [e, List.find?_append, List.take_add_one, hx, List.find?_append, h]; simp [hc]

theorem until_hit {c : Int} {l : List Le} {x : Le} (hR : rightB l = true) (h : l.find? (fun x => x.c == c) = some x) : untilU c l = x.u ∧ untilB c l = true := by simp [untilU, untilB, hR, h]
theorem until_miss {c : Int} {l : List Le} (h : l.find? (fun x => x.c == c) = none) : untilU c l = 0 ∧ untilB c l = false := by
  by_cases hR : rightB l = true <;> simp [untilU, untilB, hR, h]
theorem until_bad {c : Int} {l : List Le} (h : rightB l = false) : untilU c l = 0 ∧ untilB c l = false := by simp [untilU, untilB, h]

set_option maxHeartbeats 2000000 in
theorem runtil_calls (w : World) (v : Value) (l : List Le) (c : Int) (h : Rd w 2 encL v l) (hn : l.length ≤ 8796093022208) :
    Calls Tryz.prog 62 #[v, .int .i64 c] w fun e w' => e = .returned (.tuple #[.int .i64 (untilU c l), .bool (untilB c l)]) ∧ Below w.heap.size w w' := by
  have hr := rright_calls w v l h hn
  obtain ⟨ao, cap, rfl, hcap, _, hcell⟩ := rd_cells h
  have Hcell := Lib.hid hcell; clear hcell h
  by_cases hR : rightB l = true
  · rw [hR] at hr
    have HR := Lib.hid hR; clear hR
    go_enter Tryz.func62, Tryz.ntmps62
    go_wp2_with (go_at_call 60; refine hr.mono ?_; rintro e w1 ⟨rfl, hb1⟩)
    clear hr
    go_loopw [7] (fun vk wr => ∃ k : Nat, vk = .int .i64 k ∧ k ≤ l.length ∧ (l.take k).find? (fun x => x.c == c) = none ∧ Below w.heap.size w wr) (fun vk _ => l.length - (intOf vk).toNat)
    case atStart => exact ⟨0, rfl, Nat.zero_le _, rfl, hb1⟩
    case round =>
      obtain ⟨k, rfl, hk, hf, hb⟩ := hrel
      have Hf := Lib.hid hf; clear hf
      by_cases hlt : k < l.length
      · obtain ⟨x, hx⟩ : ∃ x, l[k]? = some x := ⟨l[k], by simp [hlt]⟩
        obtain ⟨b, off, rfl, hbl, c0, c1⟩ := Hcell.out wr hb k x hx
        have Hb := Lib.hid hb; clear hb
        have Hx := Lib.hid hx; clear hx
        by_cases hc : x.c = c
        · have Hh := Lib.hid (find_here Hx.out Hf.out hc)
          have Hc := Lib.hid hc
          have hcc : (x.c == c) = true := by simp [hc]
          clear hc
          go_wp2
          go_ret2
          exact ⟨by rw [(until_hit HR.out Hh.out).1, (until_hit HR.out Hh.out).2]; rfl, Hb.out⟩
        · have hcc : (x.c == c) = false := by simp [hc]
          have Hc := Lib.hid hc; clear hc
          go_wp2
          go_roundw
          case rel => exact ⟨k + 1, by go_num, by omega, find_next Hx.out Hf.out Hc.out, Hb.out⟩
          case measure => simp [intOf]; omega
      · obtain rfl : k = l.length := by omega
        have Hl : Hid (l.find? (fun x => x.c == c) = none) := by have := Hf.out; rw [List.take_length] at this; exact this
        go_wp2
        go_ret2
        exact ⟨by rw [(until_miss Hl.out).1, (until_miss Hl.out).2]; rfl, hb⟩
  · rw [Bool.not_eq_true] at hR
    rw [(until_bad hR).1, (until_bad hR).2]
    rw [hR] at hr
    clear hR
    by_cases hl : 0 < l.length
    · go_enter Tryz.func62, Tryz.ntmps62
      go_wp2_with (go_at_call 60; refine hr.mono ?_; rintro e w1 ⟨rfl, hb1⟩)
      go_loopw [7] (fun vk wr => vk = .int .i64 0 ∧ Below w.heap.size w wr) (fun vk _ => 0)
      case atStart => exact ⟨rfl, hb1⟩
      case round =>
        obtain ⟨rfl, hb⟩ := hrel
        go_wp2
        go_ret2
        exact ⟨rfl, hb⟩
    · go_enter Tryz.func62, Tryz.ntmps62
      go_wp2_with (go_at_call 60; refine hr.mono ?_; rintro e w1 ⟨rfl, hb1⟩)
      go_loopw [7] (fun vk wr => vk = .int .i64 0 ∧ Below w.heap.size w wr) (fun vk _ => 0)
      case atStart => exact ⟨rfl, hb1⟩
      case round =>
        obtain ⟨rfl, hb⟩ := hrel
        go_wp2
        go_ret2
        exact ⟨rfl, hb⟩
end Go.Proofs.YtdfckkadmgmcaaaGreatDoor.Lease

/- Leases: two lists compared; cmp.Compare; the client of a lease; how it is compared. -/
namespace Go.Proofs.YtdfckkadmgmcaaaGreatDoor.Lease
open Go.RowKit

theorem rd_cellsI {w : World} {v : Value} {l : List Int} (h : Rd w 1 encI v l) : ∃ ao cap, v = .slice ao l.length cap ∧ l.length ≤ cap ∧ ∀ W, Below w.heap.size w W → ∀ k x, l[k]? = some x →
    ∃ b off, ao = some ⟨b, off, none⟩ ∧ b < w.heap.size ∧ W.cell? ⟨b, off + k, none⟩ = some (.int .i64 x) := by
  obtain ⟨ao, cap, hv, hc, hcm, hcell⟩ := h
  refine ⟨ao, cap, hv, hc, fun W hW k x hx => ?_⟩
  obtain ⟨b, off, hb, hlt, hcl⟩ := hcell k x hx
  refine ⟨b, off, hb, hlt, ?_⟩
  have := hcl 0 _ rfl
  rw [Nat.mul_one] at this
  rw [hW.cell (p := ⟨b, off + k, none⟩) hlt]; exact this
theorem below_drewN (w : World) (n : Nat) : Below w.heap.size w (w.drewN n) := ⟨rfl, rfl, rfl, Nat.le_refl _, fun _ _ => rfl⟩

def sameI (a b : List Int) : Bool := decide (a = b)
def sameLe (a b : List Le) : Bool := decide (a = b)

/-- The two are the same. -/
def leEq (x y : Le) : Bool := x.c == y.c && x.u == y.u
theorem leEq_iff {x y : Le} : leEq x y = true ↔ x = y := by
  cases x; cases y
  simp [leEq]
theorem eqLe (w : World) (x y : Le) : (Op.equalIn 10000 49 (.agg #[.int .i64 x.c, .int .i64 x.u]) (.agg #[.int .i64 y.c, .int .i64 y.u])).run Tryz.prog w = .ok (leEq x y) w := by
  have hS : Tryz.prog.underlying 49 = some (.struct (Tryz.prog.fieldsOf 49)) := by kernel_rfl
  have hp : Tryz.prog.stoodInHeld 49 = false := by kernel_rfl
  rw [show (10000 : Nat) = 9999 + 1 from rfl, run_equalIn_agg w 9999 49 _ _ hS hp]
  simp only [Program.fieldsOf, Tryz.underlying49]
  go_simp
  by_cases h1 : x.c = y.c <;> by_cases h2 : x.u = y.u <;> simp [h1, h2, leEq]

def cmpI (a b : Int) : Int := if a < b then -1 else if b < a then 1 else 0
theorem nan_calls (w : World) (a : Int) : Calls Tryz.prog 123 #[.int .i64 a] w fun e w' => e = .returned (.bool false) ∧ w = w' := by
  have h : (a != a) = false := by simp
  go_enter Tryz.func123, Tryz.ntmps123
  go_wp2
  go_ret
  exact ⟨rfl, rfl⟩
theorem cmp_calls (w : World) (a b : Int) : Calls Tryz.prog 75 #[.int .i64 a, .int .i64 b] w fun e w' => e = .returned (.int .i64 (cmpI a b)) ∧ w = w' := by
  unfold cmpI
  by_cases h1 : a < b
  · rw [if_pos h1]
    go_enter Tryz.func75, Tryz.ntmps75
    go_wp2_with (go_at_call 123; refine (nan_calls _ _).mono ?_; rintro e w1 ⟨rfl, rfl⟩)
    go_ret
    exact ⟨rfl, rfl⟩
  · by_cases h2 : b < a
    · rw [if_neg h1, if_pos h2]
      go_enter Tryz.func75, Tryz.ntmps75
      go_wp2_with (go_at_call 123; refine (nan_calls _ _).mono ?_; rintro e w1 ⟨rfl, rfl⟩)
      go_ret
      exact ⟨rfl, rfl⟩
    · rw [if_neg h1, if_neg h2]
      go_enter Tryz.func75, Tryz.ntmps75
      go_wp2_with (go_at_call 123; refine (nan_calls _ _).mono ?_; rintro e w1 ⟨rfl, rfl⟩)
      go_ret
      exact ⟨rfl, rfl⟩
theorem client_calls (w : World) (x : Le) : Calls Tryz.prog 71 #[.agg #[.int .i64 x.c, .int .i64 x.u]] w fun e w' => e = .returned (.int .i64 x.c) ∧ Below w.heap.size w w' := by
  go_enter Tryz.func71, Tryz.ntmps71
  go_wp2
  go_ret
  exact ⟨rfl, (Below.refl _ _).alloc (Nat.le_refl _) _⟩
end Go.Proofs.YtdfckkadmgmcaaaGreatDoor.Lease

/- Leases: where a client stands: slices.BinarySearchFunc, lease.at. -/
namespace Go.Proofs.YtdfckkadmgmcaaaGreatDoor.Lease
open Go.RowKit

theorem by_calls (w : World) (bt : Nat) (x : Le) (key : Int) (hc : w.heap[bt]? = some (.cells #[.func (.func 71) #[] #[]] 98 (0, 0))) :
    Calls Tryz.prog 116 #[.agg #[.int .i64 x.c, .int .i64 x.u], .int .i64 key, .pointer (some ⟨bt, 0, none⟩)] w fun e w' => e = .returned (.int .i64 (cmpI x.c key)) ∧ Below w.heap.size w w' := by
  have hcc := cell_of_one hc
  have hbl := lt_of_block hc
  go_enter Tryz.func116, Tryz.ntmps116
  go_wp2_with (first
    | (go_at_call 71; refine (client_calls _ x).mono ?_; rintro e w1 ⟨rfl, hb1⟩)
    | (go_at_call 75; refine (cmp_calls _ _ _).mono ?_; rintro e w2 ⟨rfl, rfl⟩))
  go_ret
  exact ⟨rfl, ((Below.refl w.heap.size w).alloc (Nat.le_refl _) _).trans (hb1.mono (by simp))⟩

/-- The clients rise. -/
def Rises (l : List Le) : Prop := l.Pairwise fun x y => x.c < y.c
def idxL (key : Int) (l : List Le) : Nat := l.findIdx fun x => decide (key ≤ x.c)
def hasL (key : Int) (l : List Le) : Bool := l.any fun x => x.c == key
theorem idx_at {key : Int} {l : List Le} {i : Nat} (hi : i ≤ l.length) (h1 : ∀ p x, p < i → l[p]? = some x → x.c < key) (h2 : ∀ p x, i ≤ p → l[p]? = some x → key ≤ x.c) : idxL key l = i := by
  by_cases hlt : i < l.length
  · rw [idxL, List.findIdx_eq hlt]
    refine ⟨decide_eq_true (h2 i l[i] (Nat.le_refl _) (by simp [hlt])), fun j hj => decide_eq_false fun h => ?_⟩
    have := h1 j l[j] hj (by simp)
    omega
  · have e : i = l.length := by omega
    subst e
    rw [idxL, List.findIdx_eq_length]
    intro x hx
    obtain ⟨p, hp, rfl⟩ := List.mem_iff_getElem.1 hx
    have := h1 p l[p] hp (by simp [hp])
    simp; omega
theorem rises_get {l : List Le} (h : Rises l) {p q : Nat} {x y : Le} (hp : l[p]? = some x) (hq : l[q]? = some y) (hlt : p < q) : x.c < y.c := by
  have hp' := (List.getElem?_eq_some_iff.1 hp)
  have hq' := (List.getElem?_eq_some_iff.1 hq)
  obtain ⟨hp1, rfl⟩ := hp'
  obtain ⟨hq1, rfl⟩ := hq'
  exact List.pairwise_iff_getElem.1 h p q hp1 hq1 hlt

set_option maxHeartbeats 2000000 in
theorem bin_calls (w : World) (bt : Nat) (v : Value) (l : List Le) (key : Int) (hc : w.heap[bt]? = some (.cells #[.func (.func 71) #[] #[]] 98 (0, 0))) (h : Rd w 2 encL v l) (hs : Rises l) (hn : l.length ≤ 8796093022208) :
    Calls Tryz.prog 115 #[v, .int .i64 key, .func (.func 116) #[] #[.pointer (some ⟨bt, 0, none⟩)]] w fun e w' => e = .returned (.tuple #[.int .i64 (idxL key l), .bool (hasL key l)]) ∧ Below w.heap.size w w' := by
  obtain ⟨ao, cap, rfl, hcap, _, hcell⟩ := rd_cells h
  have Hcell := Lib.hid hcell; clear hcell h
  have hbl := lt_of_block hc
  have Hc := Lib.hid hc; clear hc
  have Hs := Lib.hid hs; clear hs
  go_enter Tryz.func115, Tryz.ntmps115
  go_wp2
  go_loopw [9, 10] (fun vi vj wr => ∃ i j : Nat, vi = .int .i64 i ∧ vj = .int .i64 j ∧ i ≤ j ∧ j ≤ l.length ∧ (∀ p x, p < i → l[p]? = some x → x.c < key) ∧ (∀ p x, j ≤ p → l[p]? = some x → key ≤ x.c) ∧ Below w.heap.size w wr) (fun vi vj _ => (intOf vj - intOf vi).toNat)
  case atStart => exact ⟨0, l.length, rfl, rfl, Nat.zero_le _, Nat.le_refl _, fun p x hp => by omega, fun p x hp hx => by have := (List.getElem?_eq_some_iff.1 hx).1; omega, Below.refl _ _⟩
  case round =>
    obtain ⟨i, j, rfl, rfl, hij, hjl, h1, h2, hb⟩ := hrel
    have H1 := Lib.hid h1; have H2 := Lib.hid h2; clear h1 h2
    have hsz := hb.size
    by_cases hlt : i < j
    · have hbt : wr.heap[bt]? = some (.cells #[.func (.func 71) #[] #[]] 98 (0, 0)) := (hb.block bt hbl).trans Hc.out
      have Hbt := Lib.hid hbt; clear hbt
      obtain ⟨x, hx⟩ : ∃ x, l[(i + j) / 2]? = some x := ⟨l[(i + j) / 2]'(by omega), by simp [show (i + j) / 2 < l.length by omega]⟩
      obtain ⟨b, off, rfl, hbb, c0, c1⟩ := Hcell.out wr hb _ x hx
      have Hx := Lib.hid hx; have Hb := Lib.hid hb; clear hx hb
      have hm1 : (i + j) / 2 < l.length := by omega
      by_cases hk : x.c < key
      · have hcm : cmpI x.c key = -1 := if_pos hk
        have hby := by_calls wr bt x key Hbt.out
        rw [hcm] at hby
        clear hcm
        go_wp2_with (go_at_call 116; refine hby.mono ?_; rintro e w1 ⟨rfl, hb1⟩)
        go_roundw
        case rel =>
          refine ⟨(i + j) / 2 + 1, j, by rw [show ((i : Int) + (j : Int)) / 2 + 1 = (((i + j) / 2 + 1 : Nat) : Int) by omega], rfl, by omega, hjl, fun p y hp hy => ?_, H2.out, Hb.out.trans (hb1.mono hsz)⟩
          by_cases he : p = (i + j) / 2
          · subst he
            have := Hx.out.symm.trans hy
            simp only [Option.some.injEq] at this
            rw [← this]; exact hk
          · have := rises_get Hs.out hy Hx.out (by omega)
            omega
        case measure => simp [intOf]; omega
      · have hcm : 0 ≤ cmpI x.c key := by unfold cmpI; rw [if_neg hk]; split <;> omega
        have hby := by_calls wr bt x key Hbt.out
        have hcm' : ¬ cmpI x.c key < 0 := by omega
        generalize cmpI x.c key = cm at *
        go_wp2_with (go_at_call 116; refine hby.mono ?_; rintro e w1 ⟨rfl, hb1⟩)
        go_roundw
        case rel =>
          refine ⟨i, (i + j) / 2, rfl, by rw [show ((i : Int) + (j : Int)) / 2 = (((i + j) / 2 : Nat) : Int) by omega], by omega, by omega, H1.out, fun p y hp hy => ?_, Hb.out.trans (hb1.mono hsz)⟩
          by_cases he : p = (i + j) / 2
          · subst he
            have := Hx.out.symm.trans hy
            simp only [Option.some.injEq] at this
            rw [← this]; omega
          · have := rises_get Hs.out Hx.out hy (by omega)
            omega
        case measure => simp [intOf]; omega
    · obtain rfl : j = i := by omega
      have Hidx : Hid (idxL key l = j) := idx_at hjl H1.out H2.out
      by_cases hjn : j < l.length
      · obtain ⟨x, hx⟩ : ∃ x, l[j]? = some x := ⟨l[j], by simp [hjn]⟩
        obtain ⟨b, off, rfl, hbb, c0, c1⟩ := Hcell.out wr hb _ x hx
        have hbt : wr.heap[bt]? = some (.cells #[.func (.func 71) #[] #[]] 98 (0, 0)) := (hb.block bt hbl).trans Hc.out
        have Hx := Lib.hid hx; have Hb := Lib.hid hb; clear hx hb
        have hby := by_calls wr bt x key hbt
        have Hcm : Hid ((cmpI x.c key == 0) = hasL key l) := by
          have hge := H2.out j x (Nat.le_refl _) Hx.out
          by_cases he : x.c = key
          · have e1 : cmpI x.c key = 0 := by unfold cmpI; rw [if_neg (by omega), if_neg (by omega)]
            rw [e1, hasL]
            have : l.any (fun x => x.c == key) = true := List.any_eq_true.2 ⟨x, List.mem_of_getElem? Hx.out, by simp [he]⟩
            rw [this]; rfl
          · have e1 : cmpI x.c key = 1 := by unfold cmpI; rw [if_neg (by omega), if_pos (by omega)]
            rw [e1, hasL]
            have : l.any (fun x => x.c == key) = false := by
              rw [List.any_eq_false]
              intro y hy
              obtain ⟨p, hp, rfl⟩ := List.mem_iff_getElem.1 hy
              have hp' : l[p]? = some l[p] := by simp [hp]
              by_cases h1 : p < j
              · have := H1.out p _ h1 hp'
                simp; omega
              · by_cases h2 : p = j
                · subst h2
                  have := Hx.out.symm.trans hp'
                  simp only [Option.some.injEq] at this
                  rw [← this]; simp [he]
                · have := rises_get Hs.out Hx.out hp' (by omega)
                  simp; omega
            rw [this]; rfl
        clear hbt
        generalize cmpI x.c key = cm at *
        go_wp2_with (go_at_call 116; refine hby.mono ?_; rintro e w1 ⟨rfl, hb1⟩)
        go_ret2
        exact ⟨by rw [Hidx.out, ← Hcm.out]; rfl, Hb.out.trans (hb1.mono hsz)⟩
      · have Hno : Hid (hasL key l = false) := by
          show hasL key l = false
          rw [hasL, List.any_eq_false]
          intro y hy
          obtain ⟨p, hp, rfl⟩ := List.mem_iff_getElem.1 hy
          have := H1.out p l[p] (by omega) (by simp [hp])
          simp; omega
        go_wp2
        go_ret2
        exact ⟨by rw [Hidx.out, Hno.out]; rfl, hb⟩
end Go.Proofs.YtdfckkadmgmcaaaGreatDoor.Lease

/- Leases: lease.at, lease.Until; what is right rises. -/
namespace Go.Proofs.YtdfckkadmgmcaaaGreatDoor.Lease
open Go.RowKit

theorem right_at {l : List Le} (h : rightB l = true) {k : Nat} {x : Le} (hx : l[k]? = some x) : 0 ≤ x.c ∧ x.c < 4 ∧ 0 ≤ x.u ∧ x.u ≤ 9007199254740991 ∧ ∀ j y, k = j + 1 → l[j]? = some y → y.c < x.c := by
  have hk := (List.getElem?_eq_some_iff.1 hx).1
  have := List.all_eq_true.1 h k (List.mem_range.2 hk)
  rw [okAt, hx] at this
  simp only [Bool.and_eq_true, decide_eq_true_eq] at this
  obtain ⟨⟨⟨⟨h1, h2⟩, h3⟩, h4⟩, h5⟩ := this
  refine ⟨h1, h2, h3, h4, fun j y hj hy => ?_⟩
  subst hj
  simpa [hy] using h5
theorem right_rises {l : List Le} (h : rightB l = true) : Rises l := by
  refine List.pairwise_iff_getElem.2 fun i j hi hj hij => ?_
  have key : ∀ d, ∀ hj : i + 1 + d < l.length, l[i].c < (l[i + 1 + d]'hj).c := by
    intro d
    induction d with
    | zero =>
      intro hj
      exact (right_at h (k := i + 1) (x := l[i + 1]) (by simp [show i + 1 < l.length by omega])).2.2.2.2 i l[i] rfl (by simp [hi])
    | succ d ih =>
      intro hj
      have h1 := ih (by omega)
      have h2 := (right_at h (k := i + 1 + d + 1) (x := l[i + 1 + d + 1]) (by simp [show i + 1 + d + 1 < l.length by omega])).2.2.2.2 (i + 1 + d) (l[i + 1 + d]'(by omega)) rfl (by simp [show i + 1 + d < l.length by omega])
      exact Int.lt_trans h1 h2
  have := key (j - (i + 1)) (by omega)
  have e : i + 1 + (j - (i + 1)) = j := by omega
  simpa only [e] using this
theorem right_len {l : List Le} (h : rightB l = true) : l.length ≤ 4 := by
  have hr := right_rises h
  have key : ∀ d, ∀ hd : d < l.length, (d : Int) ≤ (l[d]'hd).c := by
    intro d
    induction d with
    | zero => intro hd; have := (right_at h (k := 0) (x := l[0]) (by simp [hd])).1; omega
    | succ d ih =>
      intro hd
      have h1 := ih (by omega)
      have h2 := rises_get hr (p := d) (q := d + 1) (x := l[d]) (y := l[d + 1]) (by simp [show d < l.length by omega]) (by simp [hd]) (by omega)
      omega
  by_cases hl : l.length ≤ 4
  · exact hl
  · have h1 := key 4 (by omega)
    have h2 := (right_at h (k := 4) (x := l[4]) (by simp [show 4 < l.length by omega])).2.1
    omega
theorem has_find (key : Int) (l : List Le) : hasL key l = (l.find? (fun x => x.c == key)).isSome := by
  rw [hasL, Bool.eq_iff_iff, List.any_eq_true, List.find?_isSome]
theorem idx_has {l : List Le} {key : Int} (hr : Rises l) (h : hasL key l = true) : ∃ x, l[idxL key l]? = some x ∧ x.c = key ∧ l.find? (fun x => x.c == key) = some x := by
  rw [has_find, Option.isSome_iff_exists] at h
  obtain ⟨x, hx⟩ := h
  have hc : x.c = key := by have := List.find?_some hx; simpa using this
  obtain ⟨p, hp, hpx⟩ := List.mem_iff_getElem.1 (List.mem_of_find?_eq_some hx)
  have hp' : l[p]? = some x := by simp [hp, hpx]
  refine ⟨x, ?_, hc, hx⟩
  rw [idx_at (i := p) (by omega) (fun q y hq hy => ?_) (fun q y hq hy => ?_)]
  · exact hp'
  · have := rises_get hr hy hp' hq; omega
  · by_cases e : q = p
    · subst e
      have := hp'.symm.trans hy
      simp only [Option.some.injEq] at this
      rw [← this]; omega
    · have := rises_get hr hp' hy (by omega); omega

theorem at_calls (w : World) (v : Value) (l : List Le) (key : Int) (h : Rd w 2 encL v l) (hs : Rises l) (hn : l.length ≤ 8796093022208) :
    Calls Tryz.prog 70 #[v, .int .i64 key, .func (.func 71) #[] #[]] w fun e w' => e = .returned (.tuple #[.int .i64 (idxL key l), .bool (hasL key l)]) ∧ Below w.heap.size w w' := by
  have hb : Below w.heap.size w (w.alloc (.cells #[.func (.func 71) #[] #[]] 98)) := (Below.refl _ _).alloc (Nat.le_refl _) _
  have hbin := bin_calls (w.alloc (.cells #[.func (.func 71) #[] #[]] 98)) w.heap.size v l key (heap_alloc_new w _) (h.below hb (Nat.le_refl _)) hs hn
  clear h
  go_enter Tryz.func70, Tryz.ntmps70
  go_wp2_with (go_at_call 115; refine hbin.mono ?_; rintro e w1 ⟨rfl, hb1⟩)
  go_ret2
  exact ⟨rfl, hb.trans (hb1.mono hb.size)⟩

set_option maxHeartbeats 2000000 in
theorem until_calls (w : World) (v : Value) (l : List Le) (c : Int) (h : Rd w 2 encL v l) (hn : l.length ≤ 8796093022208) :
    Calls Tryz.prog 29 #[v, .int .i64 c] w fun e w' => e = .returned (.tuple #[.int .i64 (untilU c l), .bool (untilB c l)]) ∧ Below w.heap.size w w' := by
  have hr := right_calls w v l h hn
  by_cases hR : rightB l = true
  · have hat := fun W (hW : Below w.heap.size w W) => at_calls W v l c (h.below hW (Nat.le_refl _)) (right_rises hR) hn
    obtain ⟨ao, cap, rfl, hcap, _, hcell⟩ := rd_cells h
    have Hcell := Lib.hid hcell; have Hat := Lib.hid hat; clear hcell h hat
    by_cases hh : hasL c l = true
    · obtain ⟨x, hx, _, hf⟩ := idx_has (right_rises hR) hh
      rw [(until_hit hR hf).1, (until_hit hR hf).2]
      have hi := (List.getElem?_eq_some_iff.1 hx).1
      rw [hR] at hr
      have HR := Lib.hid hR; clear hR
      have Hh := Lib.hid hh; clear hh hf
      have Hx := Lib.hid hx; clear hx
      go_enter Tryz.func29, Tryz.ntmps29
      go_wp2_with (first
        | (go_at_call 58; refine hr.mono ?_; rintro e w1 ⟨rfl, hb1⟩)
        | (go_at_call 70; refine (Hat.out _ hb1).mono ?_; (rw [Hh.out]); rintro e w2 ⟨rfl, hb2⟩; obtain ⟨bx, ox, rfl, hbx, d0, d1⟩ := Hcell.out w2 (hb1.trans (hb2.mono hb1.size)) _ x Hx.out; generalize idxL c l = ii at *))
      go_ret2
      exact ⟨rfl, hb1.trans (hb2.mono hb1.size)⟩
    · rw [Bool.not_eq_true] at hh
      have hf : l.find? (fun x => x.c == c) = none := by rw [has_find] at hh; simpa using hh
      rw [(until_miss hf).1, (until_miss hf).2]
      rw [hR] at hr
      have HR := Lib.hid hR; clear hR
      have Hh := Lib.hid hh; clear hh hf
      go_enter Tryz.func29, Tryz.ntmps29
      go_wp2_with (first
        | (go_at_call 58; refine hr.mono ?_; rintro e w1 ⟨rfl, hb1⟩)
        | (go_at_call 70; refine (Hat.out _ hb1).mono ?_; (rw [Hh.out]); rintro e w2 ⟨rfl, hb2⟩; generalize idxL c l = ii at *))
      go_ret2
      exact ⟨rfl, hb1.trans (hb2.mono hb1.size)⟩
  · rw [Bool.not_eq_true] at hR
    rw [(until_bad hR).1, (until_bad hR).2]
    rw [hR] at hr
    clear hR h
    go_enter Tryz.func29, Tryz.ntmps29
    go_wp2_with (go_at_call 58; refine hr.mono ?_; rintro e w1 ⟨rfl, hb1⟩)
    go_ret2
    exact ⟨rfl, hb1⟩
end Go.Proofs.YtdfckkadmgmcaaaGreatDoor.Lease

/- Leases: slices.Clone, slices.Insert. -/
namespace Go.Proofs.YtdfckkadmgmcaaaGreatDoor.Lease
open Go.RowKit
set_option linter.unusedSimpArgs false

theorem flatL_append (l m : List Le) : flatL (l ++ m) = flatL l ++ flatL m := by simp [flatL]
theorem flatL_one (l : List Le) : ∀ u ∈ flatL l, u.oneCell' = true := by
  intro u hu
  simp only [flatL, List.mem_flatMap] at hu
  obtain ⟨x, _, hx⟩ := hu
  simp only [encL, List.mem_cons, List.not_mem_nil, or_false] at hx
  rcases hx with rfl | rfl <;> rfl
theorem flatL_drop (l : List Le) (k : Nat) : (flatL l).drop (k * 2) = flatL (l.drop k) := by
  by_cases hk : k ≤ l.length
  · have hs : flatL l = flatL (l.take k) ++ flatL (l.drop k) := by rw [← flatL_append, List.take_append_drop]
    rw [hs, List.drop_append_of_le_length (by rw [flatL_len, List.length_take]; omega), List.drop_of_length_le (by rw [flatL_len, List.length_take]; omega), List.nil_append]
  · rw [List.drop_of_length_le (by rw [flatL_len]; omega), List.drop_of_length_le (by omega)]; rfl
theorem flatL_take (l : List Le) (k : Nat) : (flatL l).take (k * 2) = flatL (l.take k) := by
  by_cases hk : k ≤ l.length
  · have hs : flatL l = flatL (l.take k) ++ flatL (l.drop k) := by rw [← flatL_append, List.take_append_drop]
    rw [hs, List.take_append_of_le_length (by rw [flatL_len, List.length_take]; omega), List.take_of_length_le (by rw [flatL_len, List.length_take]; omega)]
  · rw [List.take_of_length_le (by rw [flatL_len]; omega), List.take_of_length_le (by omega)]

/-- A slice of leases of the call's own. -/
structure OwnL (w w' : World) (v : Value) (q : List Le) : Prop where
  own : w'.ownsRow 0 49 2 v q.length (flatL q)
  new : ∀ g, v.ownBlock = some g → w.heap.size ≤ g
theorem rd_flat {w : World} {v : Value} {l : List Le} (h : Rd w 2 encL v l) {ad : Addr} {cap : Nat} (hv : v = .slice (some ad) l.length cap) : ∀ W, Below w.heap.size w W → ∀ j u, (flatL l)[j]? = some u → W.cell? (ad.add j) = some u := by
  intro W hW j u hu
  obtain ⟨ao, cap', hv', _, _, hcell⟩ := h
  rw [hv] at hv'
  simp only [Value.slice.injEq, true_and] at hv'
  obtain ⟨rfl, rfl⟩ := hv'
  have hj := (List.getElem?_eq_some_iff.1 hu).1
  rw [flatL_len] at hj
  have hi : j / 2 < l.length := Nat.div_lt_of_lt_mul (by omega)
  have hx : l[j / 2]? = some l[j / 2] := by simp [hi]
  obtain ⟨b, off, e, hlt, hcl⟩ := hcell _ _ hx
  simp only [Option.some.injEq] at e
  subst e
  have e2 : j = j / 2 * 2 + j % 2 := by omega
  have := flat_get encL 2 encL_len l (j / 2) (j % 2) _ hx (Nat.mod_lt _ (by omega))
  rw [← e2] at this
  have h3 := hcl (j % 2) u (by rw [← this]; exact hu)
  rw [Addr.add_lit, hW.cell (p := ⟨b, off + j, none⟩) hlt, ← h3]
  congr 2
  omega

theorem clone_calls (w : World) (v : Value) (l : List Le) (h : Rd w 2 encL v l) (hn : l.length ≤ 1000000) :
    Calls Tryz.prog 92 #[v] w fun e w' => ∃ v', e = .returned v' ∧ OwnL w w' v' l ∧ Below w.heap.size w w' := by
  have q50 : ∀ (w : World) (a : Option Addr) (n c n' c' : Nat), (binOp .eql 25 (.slice a n c) (.slice none n' c')).run Tryz.prog w = .ok (.bool a.isNone) w := fun w a n c n' c' => Lib.run_eql_slice_nil w _ _ a n c n' c' Tryz.underlying25
  have hfl := fun ad cap (hv : v = .slice (some ad) l.length cap) => rd_flat h hv
  obtain ⟨ao, cap, rfl, hcap, _, hcell⟩ := rd_cells h
  have Hfl := Lib.hid hfl; clear hfl h
  cases ao with
  | none =>
    have hl : l = [] := by
      cases l with
      | nil => rfl
      | cons x t => obtain ⟨b, off, e, _⟩ := hcell w (Below.refl _ _) 0 x rfl; cases e
    subst hl
    clear hcell
    go_enter Tryz.func92, Tryz.ntmps92
    go_wp2
    go_ret
    exact ⟨_, rfl, ⟨World.ownsRow_nil _ _ _ _, fun g h => by simp [Value.ownBlock] at h⟩, Below.refl _ _⟩
  | some ad =>
    clear hcell
    have hown : (w.alloc (.cells #[] 49)).ownsRow 0 49 2 (.slice (some ⟨w.heap.size, 0, none⟩) 0 0) 0 [] := ⟨rfl, .inr ⟨w.heap.size, 0, #[], rfl, Nat.zero_le _, heap_alloc_new w _, Nat.le_refl _, by decide, rfl, rfl⟩⟩
    have hb : Below w.heap.size w (w.alloc (.cells #[] 49)) := (Below.refl _ _).alloc (Nat.le_refl _) _
    go_enter Tryz.func92, Tryz.ntmps92
    go_wp2_with (at_builtin; (with_reducible refine etLe.wpList_app hown (m := l.length) (c := cap) (ao := some ad) (news := flatL l) (flatL_len l) (fun h => by cases h) (fun ad' h => by cases h; exact Hfl.out ad cap rfl _ hb) (flatL_one l) (by omega) (by unfold maxLen; omega) rfl (.tmp 5) (.tmp 6) rfl rfl rfl ?_); intro v1 w1 own1 grow1 at1 nil1)
    go_ret
    rw [Nat.zero_add, List.nil_append] at own1
    refine ⟨v1, rfl, ⟨own1, fun g hg => ?_⟩, hb.grown grow1 hb.size (fun q hq => ?_)⟩
    · rcases at1 with e | e
      · rw [e] at hg; simp [Value.ownBlock] at hg; omega
      · rw [e] at hg; simp at hg; omega
    · simp [Value.ownBlock] at hq; omega
end Go.Proofs.YtdfckkadmgmcaaaGreatDoor.Lease

/- Leases: slices.Insert of one. -/
namespace Go.Proofs.YtdfckkadmgmcaaaGreatDoor.Lease
open Go.RowKit
set_option linter.unusedSimpArgs false

/-- What Insert leaves. -/
def InsPost (w : World) (v : Value) (q : List Le) (e : Ending) (w' : World) : Prop :=
  ∃ v', e = .returned v' ∧ w'.ownsRow 0 49 2 v' q.length (flatL q) ∧ (∀ g, v'.ownBlock = some g → v.ownBlock = some g ∨ w.heap.size ≤ g) ∧ Upd (fun k => v.ownBlock = some k) w w'

theorem src_of {W : World} {B : Nat} {cs : Array Value} {t : TypeId} (h : W.heap[B]? = some (.cells cs t (0, 0))) : ∀ (j : Nat) (v : Value), cs.toList[j]? = some v → W.cell? ((⟨B, 0, none⟩ : Addr).add j) = some v := fun j v hj => by
  rw [Addr.add_lit, Nat.zero_add, cell_of_blk h]
  simpa using hj
theorem ins_end (w : World) (v : Value) (l : List Le) (x : Le) (B i : Nat) (hi : i = l.length) (hown : w.ownsRow 0 49 2 v l.length (flatL l)) (hB : w.heap[B]? = some (.cells #[.int .i64 x.c, .int .i64 x.u] 49 (0, 0))) (hn : l.length ≤ 1000000) :
    Calls Tryz.prog 177 #[v, .int .i64 (i : Int), .slice (some ⟨B, 0, none⟩) 1 1] w (InsPost w v (l ++ [x])) := by
  subst hi
  obtain ⟨ao, cap, rfl, hcap⟩ := own_slice hown
  have hcm : cap ≤ 9223372036854775807 := by
    rcases hown.2 with ⟨h, _⟩ | ⟨g, c, cur, h, _, _, _, h2, _⟩
    · simp at h; omega
    · simp at h; unfold maxLen at h2; omega
  by_cases hci : cap = l.length
  · subst hci
    go_enter Tryz.func177, Tryz.ntmps177
    go_wp2_with (at_builtin; (with_reducible refine etLe.wpList1 hown hB rfl (by simp [Value.oneCell']) (by omega) (by unfold maxLen; omega) rfl (.tmp 23) (.tmp 24) rfl rfl rfl ?_); intro g1 cap1 w1 hown1 hgrow hat hlt1)
    go_ret
    refine ⟨.slice (some ⟨g1, 0, none⟩) (l.length + 1) cap1, rfl, by rw [List.length_append, flatL_snoc]; exact hown1, fun g hg => ?_, (Upd.refl _ w).grown hgrow fun k hk => .inl hk⟩
    simp only [Value.ownBlock, Option.some.injEq] at hg
    subst hg
    exact hat.imp id fun h => by omega
  · go_enter Tryz.func177, Tryz.ntmps177
    go_wp2_with (at_builtin; (with_reducible refine etLe.wpList1 hown hB rfl (by simp [Value.oneCell']) (by omega) (by unfold maxLen; omega) rfl (.tmp 23) (.tmp 24) rfl rfl rfl ?_); intro g1 cap1 w1 hown1 hgrow hat hlt1)
    go_ret
    refine ⟨.slice (some ⟨g1, 0, none⟩) (l.length + 1) cap1, rfl, by rw [List.length_append, flatL_snoc]; exact hown1, fun g hg => ?_, (Upd.refl _ w).grown hgrow fun k hk => .inl hk⟩
    simp only [Value.ownBlock, Option.some.injEq] at hg
    subst hg
    exact hat.imp id fun h => by omega

theorem flatL_insert {l : List Le} {i : Nat} (x : Le) (hi : i ≤ l.length) : flatL (l.insertIdx i x) = flatL (l.take i) ++ (encL x ++ flatL (l.drop i)) := by
  rw [insertIdx_parts x l i hi, flatL_append]
  simp [flatL]
theorem ins_row {l : List Le} (x : Le) {i cap : Nat} {cur : List Value} (hi : i ≤ l.length) (hcap : l.length + 1 ≤ cap) (hsz : cur.length = cap * 2) (ht : cur.take (i * 2) = (flatL l).take (i * 2)) :
    (splice (splice cur (i * 2) (encL x)) ((i + 1) * 2) ((flatL l).drop (i * 2))).length = cap * 2 ∧ (splice (splice cur (i * 2) (encL x)) ((i + 1) * 2) ((flatL l).drop (i * 2))).take ((l.length + 1) * 2) = flatL (l.insertIdx i x) := by
  have hle := encL_len x
  have hfl := flatL_len l
  have hd : ((flatL l).drop (i * 2)).length = l.length * 2 - i * 2 := by rw [List.length_drop, hfl]
  have h1 : (splice cur (i * 2) (encL x)).length = cap * 2 := by rw [length_splice _ _ _ (by omega), hsz]
  have h2 : (splice cur (i * 2) (encL x)).take ((i + 1) * 2) = cur.take (i * 2) ++ encL x := by
    rw [splice, ← List.append_assoc]
    exact List.take_left' (by simp only [List.length_append, List.length_take]; omega)
  refine ⟨by rw [length_splice _ _ _ (by omega), h1], ?_⟩
  rw [splice, h2, ← List.append_assoc, List.take_left' (by simp only [List.length_append, List.length_take]; omega), ht, flatL_take, flatL_drop, flatL_insert x hi, List.append_assoc]

set_option maxHeartbeats 4000000 in
theorem ins_grow (w : World) (g : Nat) (l : List Le) (x : Le) (B i : Nat) (hi : i < l.length) (hown : w.ownsRow 0 49 2 (.slice (some ⟨g, 0, none⟩) l.length l.length) l.length (flatL l)) (hB : w.heap[B]? = some (.cells #[.int .i64 x.c, .int .i64 x.u] 49 (0, 0))) (hn : l.length ≤ 1000000) :
    Calls Tryz.prog 177 #[.slice (some ⟨g, 0, none⟩) l.length l.length, .int .i64 (i : Int), .slice (some ⟨B, 0, none⟩) 1 1] w (InsPost w (.slice (some ⟨g, 0, none⟩) l.length l.length) (l.insertIdx i x)) := by
  obtain ⟨k, hk⟩ : ∃ k, l.length = i + k := ⟨l.length - i, by omega⟩
  have hk1 : (l.length : Int) + 1 - (i : Int) = (k : Int) + 1 := by omega
  have hni : ((i : Int) == (l.length : Int)) = false := by simp; omega
  have hgt : (l.length : Int) < (l.length : Int) + 1 := by omega
  have hli : ¬ (l.length = i) := by omega
  obtain ⟨N, hN⟩ : ∃ N, N = l.length + 1 := ⟨_, rfl⟩
  have hN1 : i < N := by omega
  have hN2 : i + 1 < N := by omega
  have hN3 : N ≤ 1000001 := by omega
  have HN := Lib.hid hN; clear hN
  have Hk := Lib.hid hk; clear hk
  go_enter Tryz.func177, Tryz.ntmps177
  go_wp2_with (first
    | (at_builtin; (with_reducible refine etLe.wpList_zeros Tryz.underlying3 hown (i := i) (k := k + 1) (N := N) (by have := Hk.out; have := HN.out; omega) (by omega) (by omega) (by have := Hk.out; omega) (by have := Hk.out; omega) (by have := Hk.out; unfold maxLen; omega) rfl (.tmp 34) (.tmp 39) rfl rfl rfl (by omega) ?_); intro w1 cap1 cur1 hg1 hs1 hc1 hm1 ht1 hb1 hl1; have Hg1 := Lib.hid hg1; have Ht1 := Lib.hid ht1; have Hs1 := Lib.hid hs1; clear hg1 ht1 hs1 hk1; have n1 : ¬ (cap1 = i) := (by omega); have n3 : (i : Int) ≤ (N : Int) := (by omega); have n4 : (i : Int) + 1 ≤ (N : Int) := (by omega); have n2 : ¬ (cap1 = i + 1) := (by omega); unfold maxLen at hm1; have hB1 := (hb1.block B (lt_of_block hB)).trans hB; have HB1 := Lib.hid hB1; clear hB1)
    | ((with_reducible refine etLe.wpList_copy (g := w.heap.size) (off := i * 2) (cur := cur1) (m := 1) (cs := [.int .i64 x.c, .int .i64 x.u]) Hg1.out (by simp only [Nat.min_def]; split <;> omega) (by simp) (fun _ => ⟨rfl, _, rfl, src_of HB1.out⟩) (by have := Hs1.out; simp; omega) (by simp [Value.oneCell']) rfl (.tmp 43) (.tmp 44) rfl rfl rfl ?_); intro w2 Hg2 hgr2))
  have hb2 : Below w.heap.size w w2 := hb1.grown hgr2 hb1.size (fun q hq => by simp at hq; omega)
  have HS := Lib.hid fun (W : World) (hW : Below w.heap.size w W) => own_part (k := i) (c := l.length * 2) hown (ys := (flatL l).drop (i * 2)) (by rw [List.take_of_length_le (by rw [List.length_drop, flatL_len]; omega)]) (show g < w.heap.size from (hown.lt g rfl).2) hW
  have hz2 := hb2.size
  have j0 : IntKind.i64.wrap ((i : Int) + 1) = (i : Int) + 1 := by rw [IntKind.wrap_i64]; omega
  have j1 : (0 : Int) ≤ (i : Int) + 1 := by omega
  have j2 : ((i : Int) + 1).toNat = i + 1 := by omega
  have j3 : (i : Int) + 1 ≤ (cap1 : Int) := by omega
  have j4 : (i : Int) ≤ (l.length : Int) := by omega
  have Q1 : Hid (k = Nat.min (l.length - i) (N - (i + 1))) := by
    have := Hk.out; have := HN.out
    show k = Nat.min (l.length - i) (N - (i + 1))
    simp only [Nat.min_def]; split <;> omega
  have Q2 : Hid (((flatL l).drop (i * 2)).length = k * 2) := by
    have := Hk.out
    show ((flatL l).drop (i * 2)).length = k * 2
    rw [List.length_drop, flatL_len]; omega
  have Q3 : Hid ((i + 1) * 2 + ((flatL l).drop (i * 2)).length ≤ (splice cur1.toList (i * 2) [.int .i64 x.c, .int .i64 x.u]).toArray.size) := by
    have := Hk.out; have := HN.out; have := Hs1.out; have := Q2.out
    show (i + 1) * 2 + ((flatL l).drop (i * 2)).length ≤ (splice cur1.toList (i * 2) [.int .i64 x.c, .int .i64 x.u]).toArray.size
    rw [List.size_toArray, length_splice _ _ _ (by have := Array.length_toList (xs := cur1); simp only [List.length_cons, List.length_nil]; omega), Array.length_toList (xs := cur1)]; omega
  have Q4 : Hid (∀ (j : Nat) (v : Value), ((flatL l).drop (i * 2))[j]? = some v → w2.drew.cell? ((⟨g, i * 2, none⟩ : Addr).add j) = some v) := fun j v hj => by rw [Addr.add_lit]; exact HS.out w2 hb2 j v hj
  go_region_law (refine etLe.step_copy (g := w.heap.size) (off := (i + 1) * 2) (cur := (splice cur1.toList (i * 2) [.int .i64 x.c, .int .i64 x.u]).toArray) (dp := some ⟨w.heap.size, (i + 1) * 2, none⟩) (sp := some ⟨g, i * 2, none⟩) (dLen := N - (i + 1)) (sLen := l.length - i) (dCap := cap1 - (i + 1)) (sCap := l.length - i) (m := k) (cs := (flatL l).drop (i * 2)) Hg2.out Q1.out Q2.out (fun _ => ⟨rfl, _, rfl, Q4.out⟩) Q3.out (fun v hv => flatL_one l v (List.mem_of_mem_drop hv)) rfl (.tmp 50) (.tmp 53) rfl (by simp [Act.eval, Act.put]) (by simp [Act.eval, Act.put]) ?_; intro w3 Hg3 hgr3)
  all_goals
    go_wp2_with (fail)
    go_ret
    obtain ⟨r1, r2⟩ := ins_row x (Nat.le_of_lt hi) (cap := cap1) (cur := cur1.toList) (by have := HN.out; omega) (by rw [Array.length_toList, Hs1.out]) Ht1.out
    have hlen : (l.insertIdx i x).length = l.length + 1 := by rw [List.length_insertIdx, if_pos (Nat.le_of_lt hi)]
    refine ⟨.slice (some ⟨w.heap.size, 0, none⟩) N cap1, rfl, ?_, fun q hq => ?_, Upd.of_below ((hb2.drew.grown hgr3 hb2.size (fun q hq => by simp at hq; omega))) _⟩
    · rw [hlen, ← HN.out]
      refine ⟨by rw [flatL_len, hlen, HN.out], .inr ⟨w.heap.size, cap1, _, rfl, Nat.zero_le _, Hg3.out, hc1, by unfold maxLen; omega, ?_, ?_⟩⟩
      · simpa [encL] using r1
      · rw [HN.out]; simpa [encL] using r2
    · simp only [Value.ownBlock, Option.some.injEq] at hq
      exact .inr (by omega)
end Go.Proofs.YtdfckkadmgmcaaaGreatDoor.Lease

/- Leases: slices.Insert of one, where there is room. -/
namespace Go.Proofs.YtdfckkadmgmcaaaGreatDoor.Lease
open Go.RowKit
set_option linter.unusedSimpArgs false

theorem over_run (w : World) (B g off lb cb : Nat) (cs cur : Array Value) (hB : w.heap[B]? = some (.cells cs 49 (0, 0))) (hg : w.heap[g]? = some (.cells cur 49 (0, 0))) (hne : B ≠ g) (hc : cur.size ≠ 0) :
    (callFunc 202 #[.slice (some ⟨B, 0, none⟩) 1 1, .slice (some ⟨g, off, none⟩) lb cb]).run Tryz.prog w = .ok (.value (.bool false)) w := by
  obtain ⟨i, z, hi, hz0, hz1, hz2, hz3, hone⟩ := etLe.inf
  rw [run_callFunc_extern Tryz.func202 (by kernel_rfl) (by kernel_rfl) (by kernel_rfl) (e := Extern.SlicesOverlaps.overlaps #[25, 25] #[4]) (by kernel_rfl),
    Lib.run_overlaps_apart w 25 4 49 Tryz.underlying25 2 (fun w => by simp [Go.sizeOf, typeInfo, hi, hz1]) ⟨B, 0, none⟩ ⟨g, off, none⟩ 1 1 lb cb hne 49 49 cs.size cur.size (by simp [World.shape?, hB]) (by simp [World.shape?, hg]) hc (free_of_blk hB) (free_of_blk hB)]
  rfl

theorem ins_row2 {l : List Le} (x : Le) {i cap : Nat} {cur : List Value} (hi : i ≤ l.length) (hcap : l.length + 1 ≤ cap) (hsz : cur.length = cap * 2) (ht : cur.take (i * 2) = (flatL l).take (i * 2)) :
    (splice (splice cur ((i + 1) * 2) ((flatL l).drop (i * 2))) (i * 2) (encL x)).length = cap * 2 ∧ (splice (splice cur ((i + 1) * 2) ((flatL l).drop (i * 2))) (i * 2) (encL x)).take ((l.length + 1) * 2) = flatL (l.insertIdx i x) := by
  have hle := encL_len x
  have hfl := flatL_len l
  have hd : ((flatL l).drop (i * 2)).length = l.length * 2 - i * 2 := by rw [List.length_drop, hfl]
  have h1 : (splice cur ((i + 1) * 2) ((flatL l).drop (i * 2))).length = cap * 2 := by rw [length_splice _ _ _ (by omega), hsz]
  have h2 : (splice cur ((i + 1) * 2) ((flatL l).drop (i * 2))).take (i * 2) = cur.take (i * 2) := by
    rw [splice, List.take_append_of_le_length (by rw [List.length_take]; omega), List.take_take]
    congr 1; omega
  have h3 : (splice cur ((i + 1) * 2) ((flatL l).drop (i * 2))).drop (i * 2 + (encL x).length) = (flatL l).drop (i * 2) ++ cur.drop ((i + 1) * 2 + ((flatL l).drop (i * 2)).length) := by
    rw [splice, hle, show i * 2 + 2 = (i + 1) * 2 by omega]
    exact List.drop_left' (by rw [List.length_take]; omega)
  refine ⟨by rw [length_splice _ _ _ (by omega), h1], ?_⟩
  rw [splice, h2, h3, ← List.append_assoc, ← List.append_assoc, List.take_left' (by simp only [List.length_append, List.length_take]; omega), ht, flatL_take, flatL_drop, flatL_insert x hi, List.append_assoc]

set_option maxHeartbeats 4000000 in
theorem ins_shift (w : World) (g cap : Nat) (l : List Le) (x : Le) (B i : Nat) (hi : i < l.length) (hown : w.ownsRow 0 49 2 (.slice (some ⟨g, 0, none⟩) l.length cap) l.length (flatL l)) (hB : w.heap[B]? = some (.cells #[.int .i64 x.c, .int .i64 x.u] 49 (0, 0))) (hne : B ≠ g) (hn : l.length ≤ 1000000) (hroom : l.length + 1 ≤ cap) :
    Calls Tryz.prog 177 #[.slice (some ⟨g, 0, none⟩) l.length cap, .int .i64 (i : Int), .slice (some ⟨B, 0, none⟩) 1 1] w (InsPost w (.slice (some ⟨g, 0, none⟩) l.length cap) (l.insertIdx i x)) := by
  obtain ⟨g', cap', cur, hv, _, hg, hnc, hcm, hcs, htk⟩ := hown.2.resolve_left (fun h => by simp at h)
  simp only [Value.slice.injEq, Option.some.injEq, Addr.mk.injEq, and_true, true_and] at hv
  obtain ⟨rfl, rfl⟩ := hv
  unfold maxLen at hcm
  have hov := fun lb cb => over_run w B g ((i + 1) * 2) lb cb _ _ hB hg hne (by omega)
  have hni : ((i : Int) == (l.length : Int)) = false := by simp; omega
  have hgt : ¬ ((cap : Int) < (l.length : Int) + 1) := by omega
  have hli : ¬ (cap = i) := by omega
  have hli1 : ¬ (cap = i + 1) := by omega
  have hin : (i : Int) ≤ (l.length : Int) := by omega
  have j0 : IntKind.i64.wrap ((i : Int) + 1) = (i : Int) + 1 := by rw [IntKind.wrap_i64]; omega
  have j1 : (0 : Int) ≤ (i : Int) + 1 := by omega
  have j2 : ((i : Int) + 1).toNat = i + 1 := by omega
  have j3 : (i : Int) + 1 ≤ (l.length : Int) := by omega
  have j5 : ((l.length : Int) + 1).toNat = l.length + 1 := by omega
  have j6 : (l.length : Int) + 1 ≤ (cap : Int) := by omega
  have j7 : (0 : Int) ≤ (l.length : Int) + 1 := by omega
  have j8 : (i : Int) ≤ (l.length : Int) + 1 := by omega
  have Hg := Lib.hid hg; have Hcs := Lib.hid hcs; have Htk := Lib.hid htk; clear hg hcs htk
  go_enter Tryz.func177, Tryz.ntmps177
  go_wp2_with (simp only [hov])
  have HS := Lib.hid fun (W : World) (hW : Below w.heap.size w W) => own_part (k := i) (c := l.length * 2) hown (ys := (flatL l).drop (i * 2)) (by rw [List.take_of_length_le (by rw [List.length_drop, flatL_len]; omega)]) (show g < w.heap.size from (hown.lt g rfl).2) hW
  have Q1 : Hid (l.length - i = Nat.min (l.length + 1 - i) (l.length - i)) := by
    show l.length - i = Nat.min (l.length + 1 - i) (l.length - i)
    simp only [Nat.min_def]; split <;> omega
  have Q2 : Hid (((flatL l).drop (i * 2)).length = (l.length - i) * 2) := by
    show ((flatL l).drop (i * 2)).length = (l.length - i) * 2
    rw [List.length_drop, flatL_len]; omega
  have Q3 : Hid ((i + 1) * 2 + ((flatL l).drop (i * 2)).length ≤ cur.size) := by
    have := Hcs.out; have := Q2.out
    show (i + 1) * 2 + ((flatL l).drop (i * 2)).length ≤ cur.size
    omega
  have Q4 : Hid (∀ (j : Nat) (v : Value), ((flatL l).drop (i * 2))[j]? = some v → w.drew.cell? ((⟨g, i * 2, none⟩ : Addr).add j) = some v) := fun j v hj => by rw [Addr.add_lit]; exact HS.out w (Below.refl _ _) j v hj
  go_region_law (refine etLe.step_copy (g := g) (off := (i + 1) * 2) (cur := cur) (dp := some ⟨g, (i + 1) * 2, none⟩) (sp := some ⟨g, i * 2, none⟩) (dLen := l.length - i) (sLen := l.length + 1 - i) (dCap := cap - (i + 1)) (sCap := cap - i) (m := l.length - i) (cs := (flatL l).drop (i * 2)) Hg.out Q1.out Q2.out (fun _ => ⟨rfl, _, rfl, Q4.out⟩) Q3.out (fun v hv => flatL_one l v (List.mem_of_mem_drop hv)) rfl (.tmp 73) (.tmp 76) rfl (by simp [Act.eval, Act.put]) (by simp [Act.eval, Act.put]) ?_; intro w3 Hg3 hgr3)
  all_goals
    have hBl := lt_of_block hB
    have HB3 : Hid (w3.heap[B]? = some (.cells #[.int .i64 x.c, .int .i64 x.u] 49 (0, 0))) := (hgr3.block B hBl (fun e => hne (by simp only [Option.some.injEq] at e; first | exact e | exact e.symm))).trans hB
    have S1 : Hid ((splice cur.toList ((i + 1) * 2) ((flatL l).drop (i * 2))).toArray.size = cap * 2) := by
      have := Hcs.out; have := Q3.out; have := Array.length_toList (xs := cur)
      show (splice cur.toList ((i + 1) * 2) ((flatL l).drop (i * 2))).toArray.size = cap * 2
      rw [List.size_toArray, length_splice _ _ _ (by omega)]; omega
    obtain ⟨cur3, hcur3⟩ : ∃ cur3, cur3 = (splice cur.toList ((i + 1) * 2) ((flatL l).drop (i * 2))).toArray := ⟨_, rfl⟩
    rw [← hcur3] at Hg3 S1
    have Hc3 := Lib.hid hcur3; clear hcur3 hov hB
    go_wp2_with ((with_reducible refine etLe.wpList_copy (g := g) (off := i * 2) (cur := cur3) (m := 1) (cs := [.int .i64 x.c, .int .i64 x.u]) Hg3.out (by simp only [Nat.min_def]; split <;> omega) (by simp) (fun _ => ⟨rfl, _, rfl, src_of HB3.out⟩) (by have := S1.out; simp; omega) (by simp [Value.oneCell']) rfl (.tmp 80) (.tmp 81) rfl rfl rfl ?_); intro w4 Hg4 hgr4)
    go_ret
    obtain ⟨r1, r2⟩ := ins_row2 x (Nat.le_of_lt hi) (cap := cap) (cur := cur.toList) (by omega) (by rw [Array.length_toList, Hcs.out]) (by rw [← Htk.out, List.take_take]; congr 1; omega)
    have hlen : (l.insertIdx i x).length = l.length + 1 := by rw [List.length_insertIdx, if_pos (Nat.le_of_lt hi)]
    have H4 := Hg4.out
    rw [Hc3.out] at H4
    refine ⟨.slice (some ⟨g, 0, none⟩) (l.length + 1) cap, rfl, ?_, fun q hq => .inl hq, (((Upd.refl _ w).drew.grown hgr3 fun q hq => .inl (by simpa [Value.ownBlock] using hq)).grown hgr4 fun q hq => .inl (by simpa [Value.ownBlock] using hq))⟩
    rw [hlen]
    refine ⟨by rw [flatL_len, hlen], .inr ⟨g, cap, _, rfl, Nat.zero_le _, H4, hroom, by unfold maxLen; omega, ?_, ?_⟩⟩
    · simpa [encL] using r1
    · simpa [encL] using r2

/-- slices.Insert of one lease into a row of the call's own. -/
theorem ins_calls (w : World) (v : Value) (l : List Le) (x : Le) (B i : Nat) (hi : i ≤ l.length) (hown : w.ownsRow 0 49 2 v l.length (flatL l)) (hB : w.heap[B]? = some (.cells #[.int .i64 x.c, .int .i64 x.u] 49 (0, 0))) (hne : v.ownBlock ≠ some B) (hn : l.length ≤ 1000000) :
    Calls Tryz.prog 177 #[v, .int .i64 (i : Int), .slice (some ⟨B, 0, none⟩) 1 1] w (InsPost w v (l.insertIdx i x)) := by
  by_cases he : i = l.length
  · have := ins_end w v l x B i he hown hB hn
    rw [insertIdx_parts x l i hi, he, List.take_length, List.drop_length]
    exact he ▸ this
  · obtain ⟨g, cap, rfl, _, _⟩ := hown.form (by omega)
    have hBg : B ≠ g := fun e => hne (by rw [e]; rfl)
    by_cases hc : l.length + 1 ≤ cap
    · exact ins_shift w g cap l x B i (by omega) hown hB hBg hn hc
    · obtain ⟨_, _, h, hcap⟩ := own_slice hown
      simp only [Value.slice.injEq, true_and] at h
      obtain ⟨_, rfl⟩ := h
      obtain rfl : cap = l.length := by omega
      exact ins_grow w g l x B i (by omega) hown hB hn
end Go.Proofs.YtdfckkadmgmcaaaGreatDoor.Lease

/- Leases: the document's without and Drop. -/
namespace Go.Proofs.YtdfckkadmgmcaaaGreatDoor.Lease
open Go.RowKit

def others (c : Int) (l : List Le) : List Le := l.filter fun x => x.c != c
theorem others_len (c : Int) (l : List Le) : (others c l).length ≤ l.length := List.length_filter_le _ _
theorem others_next {c : Int} {l : List Le} {k : Nat} {x : Le} (hx : l[k]? = some x) : others c (l.take (k + 1)) = if (x.c != c) = true then others c (l.take k) ++ [x] else others c (l.take k) := by
  rw [others, List.take_add_one, hx, others]
  by_cases h : (x.c != c) = true
  · simp only [Option.toList_some, List.filter_append, List.filter_cons, h, List.filter_nil, if_true]
  · simp only [Option.toList_some, List.filter_append, List.filter_cons, h, List.filter_nil, if_false, List.append_nil, Bool.false_eq_true]

set_option maxHeartbeats 2000000 in
theorem without_calls (w : World) (v : Value) (l : List Le) (c : Int) (h : Rd w 2 encL v l) (hn : l.length ≤ 1000000) :
    Calls Tryz.prog 182 #[v, .int .i64 c] w fun e w' => ∃ v', e = .returned v' ∧ OwnL w w' v' (others c l) ∧ Below w.heap.size w w' := by
  obtain ⟨ao, cap, rfl, hcap, _, hcell⟩ := rd_cells h
  have Hcell := Lib.hid hcell; clear hcell h
  go_enter Tryz.func182, Tryz.ntmps182
  go_wp2
  go_loopw [5, 6] (fun vo vk wr => ∃ k : Nat, vk = .int .i64 k ∧ k ≤ l.length ∧ OwnL w wr vo (others c (l.take k)) ∧ Below w.heap.size w wr) (fun _ vk _ => l.length - (intOf vk).toNat)
  case atStart => exact ⟨0, rfl, Nat.zero_le _, ⟨World.ownsRow_nil _ _ _ _, fun g h => by simp [Value.ownBlock] at h⟩, Below.refl _ _⟩
  case round =>
    obtain ⟨k, rfl, hk, hO, hb⟩ := hrel
    have hsz := hb.size
    by_cases hlt : k < l.length
    · obtain ⟨x, hx⟩ : ∃ x, l[k]? = some x := ⟨l[k], by simp [hlt]⟩
      obtain ⟨b, off, rfl, hbl, c0, c1⟩ := Hcell.out wr hb k x hx
      have hbr : b < wr.heap.size := by omega
      have hnx := others_next (c := c) hx
      have hln := others_len c (l.take k)
      rw [List.length_take] at hln
      have Hb := Lib.hid hb; clear hb
      have Hx := Lib.hid hx; clear hx
      have HO := Lib.hid hO; clear hO
      by_cases hu : (x.c != c) = true
      · rw [if_pos hu] at hnx
        have Hnx := Lib.hid hnx; clear hnx
        go_wp2_with (at_builtin; (with_reducible refine etLe.wpList1 (HO.out.1.alloc _) (heap_alloc_new _ _) rfl (by simp [Value.oneCell']) (by omega) (by unfold maxLen; omega) rfl (.tmp 20) (.tmp 25) rfl rfl rfl ?_); intro g1 cap1 w2 hown1 hgrow hat hlt1)
        go_roundw
        case rel =>
          refine ⟨k + 1, by go_num, by omega, ⟨?_, fun g hg => ?_⟩, ((Hb.out.alloc hsz _).grown hgrow (by simp; omega) (fun q hq => HO.out.2 q hq))⟩
          · rw [Hnx.out, flatL_snoc, List.length_append]; exact hown1
          · simp only [Value.ownBlock, Option.some.injEq] at hg
            subst hg
            rcases hat with h | h
            · exact HO.out.2 _ h
            · simp at h; omega
        case measure => simp [intOf]; omega
      · rw [if_neg hu] at hnx
        have Hnx := Lib.hid hnx; clear hnx
        rw [Bool.not_eq_true] at hu
        go_wp2
        go_roundw
        case rel => exact ⟨k + 1, by go_num, by omega, by rw [Hnx.out]; exact HO.out, Hb.out⟩
        case measure => simp [intOf]; omega
    · obtain rfl : k = l.length := by omega
      rw [List.take_length] at hO
      have HO := Lib.hid hO; clear hO
      go_wp2
      go_ret
      exact ⟨_, rfl, HO.out, hb⟩

def dropR (c : Int) (l : List Le) : List Le := if rightB l = true then others c l else []
end Go.Proofs.YtdfckkadmgmcaaaGreatDoor.Lease

/- Leases: slices.IndexFunc, slices.DeleteFunc under lease.Drop's own choice. -/
namespace Go.Proofs.YtdfckkadmgmcaaaGreatDoor.Lease
open Go.RowKit

def isC (ticks : Int) (x : Le) : Bool := x.c == ticks
def isNot (ticks : Int) (x : Le) : Bool := !isC ticks x
theorem own_cells {w : World} {g cap : Nat} {l : List Le} (h : w.ownsRow 0 49 2 (.slice (some ⟨g, 0, none⟩) l.length cap) l.length (flatL l)) {k : Nat} {x : Le} (hx : l[k]? = some x) :
    w.cell? ⟨g, k * 2, none⟩ = some (.int .i64 x.c) ∧ w.cell? ⟨g, k * 2 + 1, none⟩ = some (.int .i64 x.u) := by
  have hk := (List.getElem?_eq_some_iff.1 hx).1
  have e0 := flat_get encL 2 encL_len l k 0 x hx (by decide)
  have e1 := flat_get encL 2 encL_len l k 1 x hx (by decide)
  exact ⟨by rw [h.cellAt _ (by omega)]; exact e0, by rw [h.cellAt _ (by omega)]; exact e1⟩
def idxA (p : Le → Bool) (l : List Le) : Int := if l.any p then (l.findIdx p : Int) else -1

theorem take_any_succ {p : Le → Bool} {l : List Le} {k : Nat} {x : Le} (hx : l[k]? = some x) (h : (l.take k).any p = false) (hp : p x = false) : (l.take (k + 1)).any p = false := by
  rw [List.take_add_one, hx]
  simp only [Option.toList_some, List.any_append, h, List.any_cons, hp, List.any_nil, Bool.or_self]
theorem idxA_none {p : Le → Bool} {l : List Le} {k : Nat} (hk : l.length ≤ k) (h : (l.take k).any p = false) : idxA p l = -1 := by
  rw [List.take_of_length_le hk] at h
  simp [idxA, h]
theorem idxA_hit {p : Le → Bool} {l : List Le} {k : Nat} {x : Le} (hx : l[k]? = some x) (h : (l.take k).any p = false) (hp : p x = true) : idxA p l = k := by
  have hk := (List.getElem?_eq_some_iff.1 hx).1
  have ha : l.any p = true := List.any_eq_true.2 ⟨x, List.mem_of_getElem? hx, hp⟩
  have hf : l.findIdx p = k := by
    rw [List.findIdx_eq hk]
    refine ⟨by rw [(List.getElem?_eq_some_iff.1 hx).2]; exact hp, fun j hj => ?_⟩
    have := List.any_eq_false.1 h (l[j]) (by rw [List.mem_take_iff_getElem]; exact ⟨j, by omega, rfl⟩)
    simpa using this
  simp [idxA, ha, hf]

theorem flatL_set (m : List Le) (i : Nat) (x : Le) : (((flatL m).set (i * 2) (.int .i64 x.c)).set (i * 2 + 1) (.int .i64 x.u)) = flatL (m.set i x) := by
  refine flat_ext encL 2 encL_len (by decide) _ _ (by simp [flatL_len]) fun i' j y hy hj => ?_
  rw [List.getElem?_set] at hy
  by_cases he : i = i'
  · subst he
    have hlt : i < m.length := by by_cases h : i < m.length <;> simp [h] at hy ⊢
    simp [hlt] at hy
    subst hy
    have hl := flatL_len m
    match j, hj with
    | 0, _ => simp [List.getElem?_set, encL, hl]; omega
    | 1, _ => simp [List.getElem?_set, encL, hl]; omega
  · simp [he] at hy
    have e := flat_get encL 2 encL_len m i' j y hy hj
    rw [← e]
    rw [List.getElem?_set_ne (by omega), List.getElem?_set_ne (by omega)]
    rfl
theorem own_set {w : World} {g n cap : Nat} {m : List Le} (h : w.ownsRow 0 49 2 (.slice (some ⟨g, 0, none⟩) n cap) n (flatL m)) (i : Nat) (x : Le) :
    ((w.setCell ⟨g, i * 2, none⟩ (.int .i64 x.c)).setCell ⟨g, i * 2 + 1, none⟩ (.int .i64 x.u)).ownsRow 0 49 2 (.slice (some ⟨g, 0, none⟩) n cap) n (flatL (m.set i x)) := by
  have h1 := (h.stored (i * 2) (.int .i64 x.c)).1
  have h2 := (h1.stored (i * 2 + 1) (.int .i64 x.u)).1
  rw [flatL_set] at h2
  exact h2
/-- Where the loop stands: the first i of the row are those of the first j that stay; from j on nothing has changed. -/
structure At (keep : Le → Bool) (l m : List Le) (i j : Nat) : Prop where
  len : m.length = l.length
  jl : j ≤ l.length
  head : m.take i = (l.take j).filter keep
  tail : m.drop j = l.drop j
  ij : i ≤ j

theorem At.cnt {keep : Le → Bool} {l m : List Le} {i j : Nat} (h : At keep l m i j) : ((l.take j).filter keep).length = i := by
  rw [← h.head, List.length_take]
  have := h.len; have := h.jl; have := h.ij
  omega
theorem At.drop {keep : Le → Bool} {l m : List Le} {i j : Nat} {x : Le} (h : At keep l m i j) (hx : l[j]? = some x) (hk : keep x = false) : At keep l m i (j + 1) := by
  have hj := (List.getElem?_eq_some_iff.1 hx).1
  refine ⟨h.len, hj, ?_, ?_, by have := h.ij; omega⟩
  · rw [h.head, List.take_add_one, hx]; simp [hk]
  · have := congrArg List.tail h.tail
    simpa using this
theorem At.keep {keep : Le → Bool} {l m : List Le} {i j : Nat} {x : Le} (h : At keep l m i j) (hx : l[j]? = some x) (hk : keep x = true) : At keep l (m.set i x) (i + 1) (j + 1) := by
  have hj := (List.getElem?_eq_some_iff.1 hx).1
  have hij := h.ij
  have hl := h.len
  refine ⟨by simp [hl], hj, ?_, ?_, by omega⟩
  · rw [List.take_add_one, List.take_set_of_le (by omega), h.head, List.take_add_one, hx, List.getElem?_set_self (by omega)]
    simp [hk]
  · rw [List.drop_set_of_lt (by omega)]
    have := congrArg List.tail h.tail
    simpa using this
theorem At.here {keep : Le → Bool} {l m : List Le} {i j : Nat} {x : Le} (h : At keep l m i j) (hx : l[j]? = some x) : m[j]? = some x := by
  have := congrArg (fun q => q[0]?) h.tail
  simpa [hx] using this
theorem At.start {keep : Le → Bool} {l : List Le} {k : Nat} {x : Le} (hx : l[k]? = some x) (h : (l.take k).any (fun x => !keep x) = false) (hp : keep x = false) : At keep l l k (k + 1) := by
  have hj := (List.getElem?_eq_some_iff.1 hx).1
  refine ⟨rfl, hj, ?_, rfl, by omega⟩
  rw [List.take_add_one, hx]
  have : (l.take k).filter keep = l.take k := List.filter_eq_self.2 fun y hy => by
    have := List.any_eq_false.1 h y hy
    simpa using this
  simp [hp, this]


theorem idxA_neg {p : Le → Bool} {l : List Le} (h : idxA p l = -1) : l.any p = false := by
  unfold idxA at h
  by_cases ha : l.any p = true
  · rw [if_pos ha] at h; omega
  · simpa using ha
theorem idxA_pos {p : Le → Bool} {l : List Le} (h : ¬ idxA p l = -1) : ∃ (k : Nat) (x : Le), l[k]? = some x ∧ idxA p l = (k : Int) ∧ (l.take k).any p = false ∧ p x = true := by
  unfold idxA at h ⊢
  by_cases ha : l.any p = true
  · rw [if_pos ha]
    have hlt : l.findIdx p < l.length := List.findIdx_lt_length_of_exists (List.any_eq_true.1 ha)
    refine ⟨l.findIdx p, l[l.findIdx p], by simp [hlt], rfl, ?_, List.findIdx_getElem (w := hlt)⟩
    rw [List.any_eq_false]
    intro y hy
    rw [List.mem_take_iff_getElem] at hy
    obtain ⟨j, hj, rfl⟩ := hy
    simpa using List.not_of_lt_findIdx (p := p) (xs := l) (i := j) (by omega)
  · rw [if_neg ha] at h; exact absurd rfl h

theorem delete_close {w3 : World} {keep : Le → Bool} {l m : List Le} {i g cap : Nat} {cur cur3 : Array Value} (hcnt : (l.filter keep).length = i) (hhead : m.take i = l.filter keep) (hlm : m.length = l.length) (hij : i ≤ l.length) (hnc : l.length ≤ cap)
    (hg3 : w3.heap[g]? = some (.cells cur3 49 (0, 0))) (hsz : cur3.size = cap * 2) (htk3 : cur3.toList.take (i * 2) = cur.toList.take (i * 2)) (htk : cur.toList.take (l.length * 2) = flatL m) (hcm : cap ≤ maxLen) :
    w3.ownsRow 0 49 2 (.slice (some ⟨g, 0, none⟩) i cap) (l.filter keep).length (flatL (l.filter keep)) := by
  rw [hcnt]
  refine ⟨by rw [flatL_len, hcnt], .inr ⟨g, cap, cur3, rfl, Nat.zero_le _, hg3, by omega, hcm, hsz, ?_⟩⟩
  rw [htk3]
  have e : (cur.toList.take (l.length * 2)).take (i * 2) = cur.toList.take (i * 2) := by rw [List.take_take]; congr 1; omega
  rw [← e, htk, ← hhead]
  have hs : flatL m = flatL (m.take i) ++ flatL (m.drop i) := by rw [flatL, flatL, flatL, ← List.flatMap_append, List.take_append_drop]
  rw [hs, List.take_append_of_le_length (by rw [flatL_len, List.length_take]; omega), List.take_of_length_le (by rw [flatL_len, List.length_take]; omega)]

end Go.Proofs.YtdfckkadmgmcaaaGreatDoor.Lease

/- Leases: lease.Drop. -/
namespace Go.Proofs.YtdfckkadmgmcaaaGreatDoor.Lease
open Go.RowKit

theorem filter_isNot (c : Int) (l : List Le) : l.filter (isNot c) = others c l := by
  unfold others
  congr 1

end Go.Proofs.YtdfckkadmgmcaaaGreatDoor.Lease

/- Leases: lease.Renew. -/
namespace Go.Proofs.YtdfckkadmgmcaaaGreatDoor.Lease
open Go.RowKit
set_option linter.unusedSimpArgs false

/-- May it be renewed? -/
def renOk (c now : Int) (l : List Le) : Bool := rightB l && decide (0 ≤ c) && decide (c < 4) && decide (0 ≤ now) && decide (now ≤ 9007199254740981)
/-- The leases behind a renewal. -/
def renQ (c now : Int) (l : List Le) : List Le := (others c l).insertIdx (idxL c (others c l)) ⟨c, max (untilU c l) (now + 10)⟩
def renR (c now : Int) (l : List Le) : List Le := if renOk c now l = true then renQ c now l else []

theorem renOk_iff {c now : Int} {l : List Le} : renOk c now l = true ↔ rightB l = true ∧ 0 ≤ c ∧ c < 4 ∧ 0 ≤ now ∧ now ≤ 9007199254740981 := by
  simp only [renOk, Bool.and_eq_true, decide_eq_true_eq, and_assoc]
theorem ren_no {c now : Int} {l : List Le} (h : renOk c now l = false) : rightB l = false ∨ (rightB l = true ∧ (c < 0 ∨ (¬ c < 0 ∧ (4 ≤ c ∨ (¬ 4 ≤ c ∧ (now < 0 ∨ (¬ now < 0 ∧ 9007199254740981 < now))))))) := by
  cases hR : rightB l
  · exact .inl rfl
  · refine .inr ⟨rfl, ?_⟩
    have : ¬ (0 ≤ c ∧ c < 4 ∧ 0 ≤ now ∧ now ≤ 9007199254740981) := fun hh => by
      have := renOk_iff.2 ⟨hR, hh⟩
      rw [h] at this; cases this
    omega

theorem others_id {c : Int} {l : List Le} (h : hasL c l = false) : others c l = l := by
  rw [others, List.filter_eq_self]
  intro x hx
  have := List.any_eq_false.1 h x hx
  simpa using this
theorem idx_le (c : Int) (l : List Le) : idxL c l ≤ l.length := List.findIdx_le_length
/-- A client with none: one more. -/
theorem ren_new {c now : Int} {l : List Le} (h : hasL c l = false) : (l.insertIdx (idxL c l) ⟨c, 0⟩).set (idxL c l) ⟨c, max 0 (now + 10)⟩ = renQ c now l := by
  have hf : l.find? (fun x => x.c == c) = none := by rw [has_find] at h; simpa using h
  rw [renQ, others_id h, (until_miss hf).1, insertIdx_parts _ _ _ (idx_le c l), insertIdx_parts _ _ _ (idx_le c l), List.set_append_right _ _ (by rw [List.length_take]; omega), List.length_take, Nat.min_eq_left (idx_le c l), Nat.sub_self, List.set_cons_zero]
/-- A client with one: its lease is set. -/
theorem ren_old {c now : Int} {l : List Le} (hR : rightB l = true) {x : Le} (hx : l[idxL c l]? = some x) (hc : x.c = c) (hf : l.find? (fun x => x.c == c) = some x) : l.set (idxL c l) ⟨x.c, max x.u (now + 10)⟩ = renQ c now l := by
  have hi := (List.getElem?_eq_some_iff.1 hx).1
  have hr := right_rises hR
  generalize hk : idxL c l = i at *
  have hl : l = l.take i ++ x :: l.drop (i + 1) := by
    have := (List.getElem?_eq_some_iff.1 hx).2
    rw [← this, ← List.drop_eq_getElem_cons hi, List.take_append_drop]
  have h1 : ∀ p y, p < i → l[p]? = some y → y.c < c := fun p y hp hy => by have := rises_get hr hy hx hp; omega
  have h2 : ∀ p y, i < p → l[p]? = some y → c < y.c := fun p y hp hy => by have := rises_get hr hx hy hp; omega
  have ht : others c (l.take i) = l.take i := by
    rw [others, List.filter_eq_self]
    intro y hy
    obtain ⟨p, hp, e⟩ := List.mem_iff_getElem.1 hy
    rw [List.length_take] at hp
    have := h1 p y (by omega) (by rw [List.getElem_take] at e; rw [List.getElem?_eq_some_iff]; exact ⟨by omega, e⟩)
    simp; omega
  have hd : others c (l.drop (i + 1)) = l.drop (i + 1) := by
    rw [others, List.filter_eq_self]
    intro y hy
    obtain ⟨p, hp, e⟩ := List.mem_iff_getElem.1 hy
    rw [List.length_drop] at hp
    have := h2 (i + 1 + p) y (by omega) (by rw [List.getElem_drop] at e; rw [List.getElem?_eq_some_iff]; exact ⟨by omega, e⟩)
    simp; omega
  have ho : others c l = l.take i ++ l.drop (i + 1) := by
    rw [hl, others, List.filter_append, List.filter_cons, if_neg (by simp [hc])]
    have e1 := ht; have e2 := hd
    rw [others] at e1 e2
    rw [e1, e2, ← hl]
  have hidx : idxL c (others c l) = i := by
    rw [ho]
    refine idx_at (by rw [List.length_append, List.length_take]; omega) (fun p y hp hy => ?_) (fun p y hp hy => ?_)
    · rw [List.getElem?_append_left (by rw [List.length_take]; omega), List.getElem?_take, if_pos hp] at hy
      exact h1 p y hp hy
    · rw [List.getElem?_append_right (by rw [List.length_take]; omega), List.length_take, List.getElem?_drop] at hy
      exact Int.le_of_lt (h2 _ y (by omega) hy)
  rw [renQ, hidx, (until_hit hR hf).1, insertIdx_parts _ _ _ (by rw [ho, List.length_append, List.length_take]; omega), ho, List.take_left' (by rw [List.length_take]; omega), List.drop_left' (by rw [List.length_take]; omega), hc]
  conv => lhs; rw [hl]
  rw [List.set_append_right _ _ (by rw [List.length_take]; omega), List.length_take, Nat.min_eq_left (Nat.le_of_lt hi), Nat.sub_self, List.set_cons_zero]

theorem set_same {α : Type} {l : List α} {k : Nat} {v : α} (h : l[k]? = some v) : l.set k v = l := by
  obtain ⟨hk, rfl⟩ := List.getElem?_eq_some_iff.1 h
  exact List.set_getElem_self hk
theorem own_until {w : World} {g n cap : Nat} {m : List Le} (h : w.ownsRow 0 49 2 (.slice (some ⟨g, 0, none⟩) n cap) n (flatL m)) {i : Nat} {x : Le} (hx : m[i]? = some x) (u : Int) :
    (w.setCell ⟨g, i * 2 + 1, none⟩ (.int .i64 u)).ownsRow 0 49 2 (.slice (some ⟨g, 0, none⟩) n cap) n (flatL (m.set i ⟨x.c, u⟩)) := by
  have h1 := (h.stored (i * 2 + 1) (.int .i64 u)).1
  rw [← flatL_set, set_same (l := flatL m) (k := i * 2) (v := .int .i64 x.c) (flat_get encL 2 encL_len m i 0 _ hx (by decide))]
  exact h1
theorem own_at {w : World} {g n cap : Nat} {m : List Le} (h : w.ownsRow 0 49 2 (.slice (some ⟨g, 0, none⟩) n cap) n (flatL m)) {i : Nat} {x : Le} (hx : m[i]? = some x) :
    w.cell? ⟨g, i * 2 + 1, none⟩ = some (.int .i64 x.u) ∧ w.frozen? ⟨g, i * 2 + 1, none⟩ = false := by
  have hi := (List.getElem?_eq_some_iff.1 hx).1
  have hl := h.1
  rw [flatL_len] at hl
  have hn : n = m.length := by omega
  refine ⟨?_, ?_⟩
  · rw [h.cellAt _ (by omega)]
    exact flat_get encL 2 encL_len m i 1 _ hx (by decide)
  · rcases h.2 with ⟨_, h0⟩ | ⟨g', cap', cur, hv, _, hg, _⟩
    · omega
    · simp only [Value.slice.injEq, Option.some.injEq, Addr.mk.injEq, and_true, true_and] at hv
      obtain ⟨rfl, rfl⟩ := hv
      exact free_of_blk hg
end Go.Proofs.YtdfckkadmgmcaaaGreatDoor.Lease

/- Leases: the walk of lease.Renew. -/
namespace Go.Proofs.YtdfckkadmgmcaaaGreatDoor.Lease
open Go.RowKit
set_option linter.unusedSimpArgs false

def RenPost (w : World) (k : Int) (q : List Le) (e : Ending) (w' : World) : Prop :=
  ∃ v', e = .returned (.tuple #[v', .int .i64 k]) ∧ OwnL w w' v' q ∧ Below w.heap.size w w'

theorem renew_no (w : World) (v : Value) (l : List Le) (c now : Int) (h : Rd w 2 encL v l) (hn : l.length ≤ 8796093022208) (hno : renOk c now l = false) :
    Calls Tryz.prog 142 #[v, .int .i64 c, .int .i64 now] w (RenPost w 1 []) := by
  have hr := right_calls w v l h hn
  obtain ⟨ao, cap, rfl, _, _, _⟩ := rd_cells h
  clear h
  rcases ren_no hno with hR | ⟨hR, hg | ⟨g1, hg | ⟨g2, hg | ⟨g3, hg⟩⟩⟩⟩ <;>
  · rw [hR] at hr
    clear hR hno
    go_enter Tryz.func142, Tryz.ntmps142
    go_wp2_with (go_at_call 58; refine hr.mono ?_; rintro e w1 ⟨rfl, hb1⟩)
    go_ret2
    exact ⟨_, rfl, ⟨World.ownsRow_nil _ _ _ _, fun g h => by simp [Value.ownBlock] at h⟩, hb1⟩

set_option maxHeartbeats 2000000 in
theorem renew_old (w : World) (v : Value) (l : List Le) (c now : Int) (h : Rd w 2 encL v l) (hn : l.length ≤ 8796093022208) (hok : renOk c now l = true) (hh : hasL c l = true) :
    Calls Tryz.prog 142 #[v, .int .i64 c, .int .i64 now] w (RenPost w 0 (renQ c now l)) := by
  have hr := right_calls w v l h hn
  obtain ⟨hR, g1, g2, g3, g4⟩ := renOk_iff.1 hok
  have hlen := right_len hR
  have hcl := fun W (hW : Below w.heap.size w W) => clone_calls W v l (h.below hW (Nat.le_refl _)) (by omega)
  have hris := right_rises hR
  obtain ⟨x, hx, hc, hf⟩ := idx_has hris hh
  have hq := ren_old (now := now) hR hx hc hf
  have hpos := (List.getElem?_eq_some_iff.1 hx).1
  obtain ⟨ao, cap, rfl, _, _, _⟩ := rd_cells h
  rw [hR] at hr
  rw [← hq]
  have hat := fun W v2 (hrd : Rd W 2 encL v2 l) => at_calls W v2 l c hrd hris hn
  rw [hh] at hat
  clear hR h hok hh hf hq hris
  generalize idxL c l = i at *
  have Hcl := Lib.hid hcl; have Hat := Lib.hid hat; have Hx := Lib.hid hx; clear hcl hat hx
  have k1 : IntKind.i64.wrap (now + 10) = now + 10 := by rw [IntKind.wrap_i64]; omega
  have k2 : ¬ c < 0 := by omega
  have k3 : ¬ 4 ≤ c := by omega
  have k4 : ¬ now < 0 := by omega
  have k5 : ¬ 9007199254740981 < now := by omega
  go_enter Tryz.func142, Tryz.ntmps142
  go_wp2_with (first
    | (go_at_call 58; refine hr.mono ?_; rintro e w1 ⟨rfl, hb1⟩)
    | (go_at_call 92; refine (Hcl.out _ hb1).mono ?_; rintro e w2 ⟨v2, rfl, hO, hb2⟩; have hRd2 := Rd.of_own encL_len hO.own)
    | (go_at_call 70; refine (Hat.out _ _ hRd2).mono ?_; rintro e w3 ⟨rfl, hb3⟩; have hown3 := below_ownsRow hb3 hO.own (fun g hg => (hO.own.lt g hg).2); obtain ⟨g, cap2, rfl, _, _⟩ := hown3.form (Nat.lt_of_le_of_lt (Nat.zero_le _) hpos); obtain ⟨c3, f3⟩ := own_at hown3 Hx.out))
  all_goals
    go_ret2
    have hB2 := hb1.trans (hb2.mono hb1.size)
    have hB3 := hB2.trans (hb3.mono hB2.size)
    have hg := Nat.le_trans hb1.size (hO.new g rfl)
    have hfin := own_until hown3 Hx.out (max x.u (now + 10))
    refine ⟨.slice (some ⟨g, 0, none⟩) l.length cap2, rfl, ⟨?_, fun q hq => ?_⟩, hB3.setCell hg _⟩
    · rw [List.length_set]
      first
      | exact hfin
      | (have hm : max x.u (now + 10) = now + 10 := by omega
         rw [hm] at hfin ⊢
         first | exact hfin | (rw [hc] at hfin; exact hfin))
      | (have hm : max x.u (now + 10) = x.u := by omega
         rw [hm] at hfin ⊢
         first | exact hfin | (rw [hc] at hfin; exact hfin))
    · simp only [Value.ownBlock, Option.some.injEq] at hq
      exact hq ▸ hg

set_option maxHeartbeats 2000000 in
theorem renew_new (w : World) (v : Value) (l : List Le) (c now : Int) (h : Rd w 2 encL v l) (hn : l.length ≤ 8796093022208) (hok : renOk c now l = true) (hh : hasL c l = false) :
    Calls Tryz.prog 142 #[v, .int .i64 c, .int .i64 now] w (RenPost w 0 (renQ c now l)) := by
  have hr := right_calls w v l h hn
  obtain ⟨hR, g1, g2, g3, g4⟩ := renOk_iff.1 hok
  have hlen := right_len hR
  have hcl := fun W (hW : Below w.heap.size w W) => clone_calls W v l (h.below hW (Nat.le_refl _)) (by omega)
  have hris := right_rises hR
  have hq := ren_new (now := now) hh
  have hpos := idx_le c l
  obtain ⟨ao, cap, rfl, _, _, _⟩ := rd_cells h
  rw [hR] at hr
  rw [← hq]
  have hat := fun W v2 (hrd : Rd W 2 encL v2 l) => at_calls W v2 l c hrd hris hn
  rw [hh] at hat
  clear hR h hok hh hq hris
  generalize idxL c l = i at *
  have hL : (l.insertIdx i ⟨c, 0⟩).length = l.length + 1 := by rw [List.length_insertIdx, if_pos hpos]
  have hx : (l.insertIdx i ⟨c, 0⟩)[i]? = some (⟨c, 0⟩ : Le) := by rw [List.getElem?_insertIdx_self, if_pos hpos]
  have Hcl := Lib.hid hcl; have Hat := Lib.hid hat; have Hx := Lib.hid hx; have HL := Lib.hid hL; clear hcl hat hx hL
  have k1 : IntKind.i64.wrap (now + 10) = now + 10 := by rw [IntKind.wrap_i64]; omega
  have k2 : ¬ c < 0 := by omega
  have k3 : ¬ 4 ≤ c := by omega
  have k4 : ¬ now < 0 := by omega
  have k5 : ¬ 9007199254740981 < now := by omega
  have k6 : (i : Int) < (l.length : Int) + 1 := by omega
  go_enter Tryz.func142, Tryz.ntmps142
  go_wp2_with (first
    | (go_at_call 58; refine hr.mono ?_; rintro e w1 ⟨rfl, hb1⟩)
    | (go_at_call 92; refine (Hcl.out _ hb1).mono ?_; rintro e w2 ⟨v2, rfl, hO, hb2⟩; have hRd2 := Rd.of_own encL_len hO.own)
    | (go_at_call 70; refine (Hat.out _ _ hRd2).mono ?_; rintro e w3 ⟨rfl, hb3⟩; have hown3 := below_ownsRow hb3 hO.own (fun g hg => (hO.own.lt g hg).2); have hlt3 := (fun g hg => (hown3.lt g hg).2))
    | (go_at_call 177; refine (ins_calls _ v2 l ⟨c, 0⟩ w3.heap.size i hpos (hown3.alloc _) (heap_alloc_new _ _) (fun e => absurd (hlt3 _ e) (Nat.lt_irrefl _)) (by omega)).mono ?_; rintro e w4 ⟨v4, rfl, hown4, hv4, hu4⟩; (rw [HL.out] at hown4); obtain ⟨g, cap4, rfl, _, _⟩ := hown4.form (Nat.succ_pos _); obtain ⟨c4, f4⟩ := own_at hown4 Hx.out))
  all_goals
    go_ret2
    have hB2 := hb1.trans (hb2.mono hb1.size)
    have hB3 := (hB2.trans (hb3.mono hB2.size)).alloc (Nat.le_trans hB2.size hb3.size) (.cells #[.int .i64 c, .int .i64 0] 49)
    have hB4 := hB3.trans (hu4.toBelow (fun k hk => Nat.le_trans hb1.size (hO.new k hk)) hB3.size)
    have hg : w.heap.size ≤ g := by
      rcases hv4 g rfl with h | h
      · exact Nat.le_trans hb1.size (hO.new g h)
      · exact Nat.le_trans hB3.size h
    have hfin := own_until hown4 Hx.out (max 0 (now + 10))
    refine ⟨.slice (some ⟨g, 0, none⟩) (l.length + 1) cap4, rfl, ⟨?_, fun q hq => ?_⟩, hB4.setCell hg _⟩
    · rw [List.length_set, HL.out]
      first
      | (have hm : max 0 (now + 10) = now + 10 := by omega
         rw [hm] at hfin ⊢
         first | exact hfin | (rw [hc] at hfin; exact hfin))
      | (exfalso; omega)
    · simp only [Value.ownBlock, Option.some.injEq] at hq
      exact hq ▸ hg

theorem renew_calls (w : World) (v : Value) (l : List Le) (c now : Int) (h : Rd w 2 encL v l) (hn : l.length ≤ 8796093022208) :
    Calls Tryz.prog 142 #[v, .int .i64 c, .int .i64 now] w (RenPost w (if renOk c now l = true then 0 else 1) (renR c now l)) := by
  rw [renR]
  by_cases hok : renOk c now l = true
  · rw [if_pos hok, if_pos hok]
    by_cases hh : hasL c l = true
    · exact renew_old w v l c now h hn hok hh
    · exact renew_new w v l c now h hn hok (by simpa using hh)
  · rw [if_neg hok, if_neg hok]
    exact renew_no w v l c now h hn (by simpa using hok)
end Go.Proofs.YtdfckkadmgmcaaaGreatDoor.Lease

/- Leases: the document's Renew. -/
namespace Go.Proofs.YtdfckkadmgmcaaaGreatDoor.Lease
open Go.RowKit
set_option linter.unusedSimpArgs false

def RRenPost (w : World) (k : Bool) (q : List Le) (e : Ending) (w' : World) : Prop :=
  ∃ v', e = .returned (.tuple #[v', .bool k]) ∧ OwnL w w' v' q ∧ Below w.heap.size w w'

theorem rrenew_no (w : World) (v : Value) (l : List Le) (c now : Int) (h : Rd w 2 encL v l) (hn : l.length ≤ 8796093022208) (hno : renOk c now l = false) :
    Calls Tryz.prog 153 #[v, .int .i64 c, .int .i64 now] w (RRenPost w false []) := by
  have hr := rright_calls w v l h hn
  obtain ⟨ao, cap, rfl, _, _, _⟩ := rd_cells h
  clear h
  rcases ren_no hno with hR | ⟨hR, hg | ⟨g1, hg | ⟨g2, hg | ⟨g3, hg⟩⟩⟩⟩ <;>
  · rw [hR] at hr
    clear hR hno
    go_enter Tryz.func153, Tryz.ntmps153
    go_wp2_with (go_at_call 60; refine hr.mono ?_; rintro e w1 ⟨rfl, hb1⟩)
    go_ret2
    exact ⟨_, rfl, ⟨World.ownsRow_nil _ _ _ _, fun g h => by simp [Value.ownBlock] at h⟩, hb1⟩

section
variable {α : Type} {r : List α} {p : Nat} {n x : α}
theorem put_lo {k : Nat} (hk : k < p) (hx : r[k]? = some x) : (r.insertIdx p n).take (k + 1) = (r.insertIdx p n).take k ++ [x] := by
  rw [List.take_add_one, List.getElem?_insertIdx_of_lt hk, hx]; rfl
theorem put_at (hp : p ≤ r.length) : (r.insertIdx p n).take (p + 1) = (r.insertIdx p n).take p ++ [n] := by
  rw [List.take_add_one, List.getElem?_insertIdx_self, if_pos hp]; rfl
theorem put_hi {k : Nat} (hk : p ≤ k) (hx : r[k]? = some x) : (r.insertIdx p n).take (k + 1 + 1) = (r.insertIdx p n).take (k + 1) ++ [x] := by
  rw [List.take_add_one, List.getElem?_insertIdx_of_gt (by omega), Nat.add_sub_cancel, hx]; rfl
end

theorem others_lt {c : Int} {l : List Le} {k : Nat} {x : Le} (hx : (others c l)[k]? = some x) (hk : k < idxL c (others c l)) : x.c < c := by
  have hl := (List.getElem?_eq_some_iff.1 hx)
  have := List.not_of_lt_findIdx (p := fun x : Le => decide (c ≤ x.c)) hk
  obtain ⟨h1, rfl⟩ := hl
  simp at this
  omega
theorem others_gt {c : Int} {l : List Le} {x : Le} (hx : (others c l)[idxL c (others c l)]? = some x) : c < x.c := by
  obtain ⟨h1, h2⟩ := (List.getElem?_eq_some_iff.1 hx)
  have := List.findIdx_getElem (p := fun x : Le => decide (c ≤ x.c)) (xs := others c l) (w := h1)
  have e : (others c l)[idxL c (others c l)] ∈ others c l := List.getElem_mem h1
  rw [h2] at e
  have h3 : x.c ≠ c := by
    have := (List.mem_filter.1 e).2
    simpa using this
  have h4 : c ≤ x.c := by
    have e5 : (others c l)[List.findIdx (fun x : Le => decide (c ≤ x.c)) (others c l)]'h1 = x := h2
    rw [e5] at this
    simpa using this
  omega
end Go.Proofs.YtdfckkadmgmcaaaGreatDoor.Lease

/- Leases: the walk of the document's Renew. -/
namespace Go.Proofs.YtdfckkadmgmcaaaGreatDoor.Lease
open Go.RowKit
set_option linter.unusedSimpArgs false

set_option maxRecDepth 4000 in
set_option maxHeartbeats 8000000 in
theorem rrenew_ok (w : World) (v : Value) (l : List Le) (c now : Int) (h : Rd w 2 encL v l) (hn : l.length ≤ 8796093022208) (hok : renOk c now l = true) :
    Calls Tryz.prog 153 #[v, .int .i64 c, .int .i64 now] w (RRenPost w true (renQ c now l)) := by
  have hr := rright_calls w v l h hn
  obtain ⟨hR, g1, g2, g3, g4⟩ := renOk_iff.1 hok
  have hlen := right_len hR
  have hun := fun W (hW : Below w.heap.size w W) => runtil_calls W v l c (h.below hW (Nat.le_refl _)) hn
  have hwi := fun W (hW : Below w.heap.size w W) => without_calls W v l c (h.below hW (Nat.le_refl _)) (by omega)
  obtain ⟨ao, cap, rfl, _, _, _⟩ := rd_cells h
  rw [hR] at hr
  rw [renQ]
  have hol := others_len c l
  have hlo := fun k x => @others_lt c l k x
  have hgt := fun x => @others_gt c l x
  have hp := idx_le c (others c l)
  clear hR h hok
  generalize idxL c (others c l) = p at *
  generalize others c l = r at *
  generalize untilB c l = ub at *
  generalize untilU c l = U at *
  have Hun := Lib.hid hun; have Hwi := Lib.hid hwi; have Hlo := Lib.hid hlo; have Hgt := Lib.hid hgt; clear hun hwi hlo hgt
  obtain ⟨n, hnn⟩ : ∃ n : Le, n = ⟨c, max U (now + 10)⟩ := ⟨_, rfl⟩
  rw [← hnn]
  obtain ⟨M, hM⟩ : ∃ M, M = max U (now + 10) := ⟨_, rfl⟩
  rw [← hM] at hnn
  have Hnn := Lib.hid hnn; have HM := Lib.hid hM; clear hnn hM
  have k1 : IntKind.i64.wrap (now + 10) = now + 10 := by rw [IntKind.wrap_i64]; omega
  have k2 : ¬ c < 0 := by omega
  have k3 : ¬ 4 ≤ c := by omega
  have k4 : ¬ now < 0 := by omega
  have k5 : ¬ 9007199254740981 < now := by omega
  go_enter Tryz.func153, Tryz.ntmps153
  go_wp2_with (first
    | (go_at_call 60; refine hr.mono ?_; rintro e w1 ⟨rfl, hb1⟩)
    | (go_at_call 62; refine (Hun.out _ hb1).mono ?_; rintro e w2 ⟨rfl, hb2⟩; have hB2 := hb1.trans (hb2.mono hb1.size))
    | (go_at_call 182; refine (Hwi.out _ hB2).mono ?_; rintro e w3 ⟨v3, rfl, hO3, hb3⟩; obtain ⟨ro, rcap, rfl, _, _, hcell⟩ := rd_cells (Rd.of_own encL_len hO3.own)))
  have hB3 := hB2.trans (hb3.mono hB2.size)
  have Hcell := Lib.hid hcell; clear hcell hr
  go_loopw [11, 12, 14] (fun vo vp vk wr => ∃ k : Nat, vk = .int .i64 k ∧ k ≤ r.length + 1 ∧ vp = .bool (decide (p < k)) ∧ OwnL w3 wr vo ((r.insertIdx p n).take (if p < k then k + 1 else k)) ∧ Below w3.heap.size w3 wr) (fun _ _ vk _ => r.length + 1 - (intOf vk).toNat)
  case atStart => exact ⟨0, rfl, Nat.zero_le _, rfl, ⟨World.ownsRow_nil _ _ _ _, fun g h => by simp [Value.ownBlock] at h⟩, Below.refl _ _⟩
  case round =>
    obtain ⟨k, rfl, hk, rfl, hO, hb⟩ := hrel
    have hsz := hb.size
    have hQl : (r.insertIdx p n).length = r.length + 1 := by rw [List.length_insertIdx, if_pos hp]
    by_cases hkR : k ≤ r.length
    · have hle : (k : Int) ≤ (r.length : Int) := by omega
      by_cases hpk : p < k
      · have e1 : decide (p < k) = true := decide_eq_true hpk
        rw [e1]
        rw [if_pos hpk] at hO
        have HO := Lib.hid hO; clear hO
        have Hb := Lib.hid hb; clear hb
        by_cases hlt : k < r.length
        · obtain ⟨x, hx⟩ : ∃ x, r[k]? = some x := ⟨r[k], by simp [hlt]⟩
          obtain ⟨b, off, rfl, hbl, c0, c1⟩ := Hcell.out wr Hb.out k x hx
          have hnx := put_hi (n := n) (Nat.le_of_lt hpk) hx
          have Hnx := Lib.hid hnx; clear hnx
          have Hx := Lib.hid hx; clear hx
          have hql : ((r.insertIdx p n).take (k + 1)).length = k + 1 := by rw [List.length_take, hQl]; omega
          have hql2 : ((r.insertIdx p n).take (k + 1 + 1)).length = k + 1 + 1 := by rw [List.length_take, hQl]; omega
          have Hown := HO.out.own
          rw [hql] at Hown
          have Ho := Lib.hid Hown; clear Hown
          go_wp2_with (at_builtin; (with_reducible refine etLe.wpList1 (Ho.out.alloc _) (heap_alloc_new _ _) rfl (by simp [Value.oneCell']) (by omega) (by unfold maxLen; omega) rfl (.tmp 80) (.tmp 85) rfl rfl rfl ?_); intro g1 cap1 w4 hown1 hgrow hat hlt1)
          go_roundw
          case rel =>
            refine ⟨k + 1, by go_num, by omega, by rw [decide_eq_true (by omega : p < k + 1)], ⟨?_, fun g hg => ?_⟩, ((Hb.out.alloc hsz _).grown hgrow (by simp; omega) (fun q hq => HO.out.2 q hq))⟩
            · rw [if_pos (by omega), hql2, Hnx.out, flatL_snoc]; exact hown1
            · simp only [Value.ownBlock, Option.some.injEq] at hg
              subst hg
              rcases hat with h | h
              · exact HO.out.2 _ h
              · simp at h; omega
          case measure => simp [intOf]; omega
        · obtain rfl : k = r.length := by omega
          go_wp2
          go_roundw
          case rel =>
            refine ⟨r.length + 1, by go_num, by omega, by rw [decide_eq_true (by omega : p < r.length + 1)], ?_, Hb.out⟩
            have h := HO.out
            rw [if_pos (by omega)]
            rw [List.take_of_length_le (by omega)] at h ⊢
            exact h
          case measure => simp [intOf]
      · have e1 : decide (p < k) = false := decide_eq_false hpk
        rw [e1]
        rw [if_neg hpk] at hO
        have HO := Lib.hid hO; clear hO
        have Hb := Lib.hid hb; clear hb
        have hql : ((r.insertIdx p n).take k).length = k := by rw [List.length_take, hQl]; omega
        have Hown := HO.out.own
        rw [hql] at Hown
        have Ho := Lib.hid Hown; clear Hown
        by_cases hkp : k < p
        · have hlt : k < r.length := by omega
          have hkr : ((k : Int) == (r.length : Int)) = false := by simp; omega
          obtain ⟨x, hx⟩ : ∃ x, r[k]? = some x := ⟨r[k], by simp [hlt]⟩
          obtain ⟨b, off, rfl, hbl, c0, c1⟩ := Hcell.out wr Hb.out k x hx
          have hxc : ¬ c < x.c := by have := Hlo.out k x hx hkp; omega
          have hnx := put_lo (n := n) hkp hx
          have Hnx := Lib.hid hnx; clear hnx
          have Hx := Lib.hid hx; clear hx
          have hql2 : ((r.insertIdx p n).take (k + 1)).length = k + 1 := by rw [List.length_take, hQl]; omega
          go_wp2_with (at_builtin; (with_reducible refine etLe.wpList1 (Ho.out.alloc _) (heap_alloc_new _ _) rfl (by simp [Value.oneCell']) (by omega) (by unfold maxLen; omega) rfl (.tmp 80) (.tmp 85) rfl rfl rfl ?_); intro g1 cap1 w4 hown1 hgrow hat hlt1)
          go_roundw
          case rel =>
            refine ⟨k + 1, by go_num, by omega, by rw [decide_eq_false (by omega : ¬ p < k + 1)], ⟨?_, fun g hg => ?_⟩, ((Hb.out.alloc hsz _).grown hgrow (by simp; omega) (fun q hq => HO.out.2 q hq))⟩
            · rw [if_neg (by omega), hql2, Hnx.out, flatL_snoc]; exact hown1
            · simp only [Value.ownBlock, Option.some.injEq] at hg
              subst hg
              rcases hat with h | h
              · exact HO.out.2 _ h
              · simp at h; omega
          case measure => simp [intOf]; omega
        · obtain rfl : k = p := by omega
          have hat0 := put_at (n := n) hp
          have Hat0 := Lib.hid hat0; clear hat0
          have hql2 : ((r.insertIdx k n).take (k + 1)).length = k + 1 := by rw [List.length_take, hQl]; omega
          have hql3 : ((r.insertIdx k n).take (k + 1 + 1)).length = min (k + 1 + 1) (r.length + 1) := by rw [List.length_take, hQl]
          have hMv : (⟨c, max U (now + 10)⟩ : Le) = n := by have := Hnn.out; have h2 := HM.out; rw [this, h2]
          have HMv := Lib.hid hMv; clear hMv
          have ha1 : w3.heap.size ≤ (wr.alloc (.cells #[.int .i64 c, .int .i64 (max U (now + 10))] 49)).heap.size := by simp; omega
          by_cases hlt : k < r.length
          · have hkr : ((k : Int) == (r.length : Int)) = false := by simp; omega
            obtain ⟨x, hx⟩ : ∃ x, r[k]? = some x := ⟨r[k], by simp [hlt]⟩
            obtain ⟨b, off, rfl, hbl, c0, c1⟩ := Hcell.out wr Hb.out k x hx
            have hxc : c < x.c := Hgt.out x hx
            have hnx := put_hi (n := n) (Nat.le_refl k) hx
            have Hnx := Lib.hid hnx; clear hnx
            have Hx := Lib.hid hx; clear hx
            go_wp2_with (first
              | (at_builtin; (with_reducible refine etLe.wpList1 (Ho.out.alloc _) (heap_alloc_new _ _) rfl (by simp [Value.oneCell']) (by omega) (by unfold maxLen; omega) rfl (.tmp 67) (.tmp 74) rfl rfl rfl ?_); intro g1 cap1 w4 hown1 hgrow hat hlt1; have hb4 := (Hb.out.alloc hsz _).grown hgrow ha1 (fun q hq => HO.out.2 q hq); obtain ⟨b', off', e', _, d0, d1⟩ := Hcell.out w4 hb4 k x Hx.out; cases e')
              | (at_builtin; (with_reducible refine etLe.wpList1 (hown1.alloc _) (heap_alloc_new _ _) rfl (by simp [Value.oneCell']) (by omega) (by unfold maxLen; omega) rfl (.tmp 80) (.tmp 85) rfl rfl rfl ?_); intro g2 cap2 w5 hown2 hgrow2 hat2 hlt2))
            have hz4 := hb4.size
            have hg1 : w3.heap.size ≤ g1 := by
              rcases hat with h | h
              · exact HO.out.2 _ h
              · simp at h; omega
            go_roundw
            case rel =>
              refine ⟨k + 1, by go_num, by omega, by rw [decide_eq_true (by omega : k < k + 1)], ⟨?_, fun g hg => ?_⟩, ((hb4.alloc hz4 _).grown hgrow2 (by simp; omega) (fun q hq => by simp only [Value.ownBlock, Option.some.injEq] at hq; exact hq ▸ hg1))⟩
              · rw [if_pos (by omega), hql3, Nat.min_eq_left (by omega), Hnx.out, Hat0.out, flatL_snoc, flatL_snoc, show encL n = encL _ from congrArg encL HMv.out.symm]; exact hown2
              · simp only [Value.ownBlock, Option.some.injEq] at hg
                subst hg
                rcases hat2 with h | h
                · simp only [Value.ownBlock, Option.some.injEq] at h
                  exact h ▸ hg1
                · simp at h; omega
            case measure => simp [intOf]; omega
          · obtain rfl : k = r.length := by omega
            go_wp2_with (at_builtin; (with_reducible refine etLe.wpList1 (Ho.out.alloc _) (heap_alloc_new _ _) rfl (by simp [Value.oneCell']) (by omega) (by unfold maxLen; omega) rfl (.tmp 67) (.tmp 74) rfl rfl rfl ?_); intro g1 cap1 w4 hown1 hgrow hat hlt1; have hb4 := (Hb.out.alloc hsz _).grown hgrow ha1 (fun q hq => HO.out.2 q hq))
            have hg1 : w3.heap.size ≤ g1 := by
              rcases hat with h | h
              · exact HO.out.2 _ h
              · simp at h; omega
            go_roundw
            case rel =>
              refine ⟨r.length + 1, by go_num, by omega, by rw [decide_eq_true (by omega : r.length < r.length + 1)], ⟨?_, fun g hg => ?_⟩, hb4⟩
              · rw [if_pos (by omega), hql3, Nat.min_eq_right (by omega), List.take_of_length_le (by omega), ← List.take_of_length_le (i := r.length + 1) (l := r.insertIdx r.length n) (by omega), Hat0.out, flatL_snoc, show encL n = encL _ from congrArg encL HMv.out.symm]; exact hown1
              · simp only [Value.ownBlock, Option.some.injEq] at hg
                exact hg ▸ hg1
            case measure => simp [intOf]
    · obtain rfl : k = r.length + 1 := by omega
      have hle : ¬ ((r.length : Int) + 1 ≤ (r.length : Int)) := by omega
      rw [if_pos (by omega), List.take_of_length_le (by omega)] at hO
      have HO := Lib.hid hO; clear hO
      go_wp2
      go_ret2
      exact ⟨_, rfl, ⟨HO.out.own, fun g hg => Nat.le_trans hB3.size (HO.out.new g hg)⟩, hB3.trans (hb.mono hB3.size)⟩

theorem rrenew_calls (w : World) (v : Value) (l : List Le) (c now : Int) (h : Rd w 2 encL v l) (hn : l.length ≤ 8796093022208) :
    Calls Tryz.prog 153 #[v, .int .i64 c, .int .i64 now] w (RRenPost w (renOk c now l) (renR c now l)) := by
  rw [renR]
  cases hok : renOk c now l
  · rw [if_neg (by simp)]
    exact rrenew_no w v l c now h hn hok
  · rw [if_pos rfl]
    exact rrenew_ok w v l c now h hn hok
end Go.Proofs.YtdfckkadmgmcaaaGreatDoor.Lease

/- Leases: the chapter's examples; how leases come in. -/
namespace Go.Proofs.YtdfckkadmgmcaaaGreatDoor.Lease
open Go.RowKit Go.ChangeShapes Go.WideShapes Go.ChangeAt
set_option linter.unusedSimpArgs false

structure OkL (x : Le) : Prop where
  c : inI x.c
  u : inI x.u
set_option maxRecDepth 100000 in
theorem open_leases {H : Type} {enc : TypeId × Value → H} {W : World} {base : Nat} {v : Value} {d : DataW H} {p : List MemPlace} (hv : Value.okWide Tryz.prog W .any base 25 v) (h : DataW.Trod enc Tryz.prog W 0 (fun _ => true) true 25 v d p)
    (hs : ∀ e, Tryz.prog.underlying 25 = some (.slice e) → ∀ el sp, d = .slice el sp → (el.length + sp.length) * Tryz.prog.bytesOf e ≤ reachBytes) :
    ∃ l : List Le, Rd W 2 encL v l ∧ (∀ a ∈ l, OkL a) ∧ l.length * 16 ≤ 140737488351232 := by
  refine open_rows 2 16 encL OkL Tryz.underlying25 (by kernel_rfl) (by decide) (by kernel_rfl) (fun n cs x hl hx => ?_) (okWide_slice Tryz.underlying25 hv) h (hs _ Tryz.underlying25)
  obtain ⟨y0, y1, n1, _, _, h0, h1⟩ := trod_struct2 Tryz.underlying49 hx
  obtain ⟨z0, e0, _, hz0⟩ := DataW.trod_int Tryz.underlying3 h0
  obtain ⟨z1, e1, _, hz1⟩ := DataW.trod_int Tryz.underlying3 h1
  refine ⟨⟨z0, z1⟩, ?_, inI_of hz0, inI_of hz1⟩
  have hC : Tryz.prog.cellsOf 3 = 1 := by kernel_rfl
  match cs, hl with
  | [c0, c1], _ =>
    simp [hC] at e0 e1
    subst e0 e1
    rfl

theorem rd_nil (w : World) (c : Nat) (hc : c ≤ maxLen) : Rd w 2 encL (.slice none 0 c) ([] : List Le) := ⟨none, c, rfl, Nat.zero_le _, hc, fun i x hx => by simp at hx⟩
theorem rd_one (w : World) (x : Le) : Rd (w.alloc (.cells #[.int .i64 x.c, .int .i64 x.u] 49)) 2 encL (.slice (some ⟨w.heap.size, 0, none⟩) 1 1) [x] :=
  Rd.of_own (base := 0) (e := 49) encL_len ⟨rfl, .inr ⟨w.heap.size, 1, #[.int .i64 x.c, .int .i64 x.u], rfl, Nat.zero_le _, heap_alloc_new w _, Nat.le_refl _, by decide, rfl, rfl⟩⟩
theorem ex_ren : renOk 2 5 [] = true ∧ renR 2 5 [] = [⟨2, 15⟩] := by decide +kernel
theorem ex_late : lateR 15 [⟨2, 15⟩] = [] ∧ lateR 16 [⟨2, 15⟩] = [2] ∧ rightB [⟨2, 15⟩] = true ∧ sameLe [⟨2, 15⟩] [⟨2, 15⟩] = true := by decide +kernel

end Go.Proofs.YtdfckkadmgmcaaaGreatDoor.Lease

/- Leases: what a renewal and a drop make of right leases. -/
namespace Go.Proofs.YtdfckkadmgmcaaaGreatDoor.Lease
open Go.RowKit
set_option linter.unusedSimpArgs false
set_option linter.unusedVariables false

/-- A lease that may be. -/
def Fit (x : Le) : Prop := 0 ≤ x.c ∧ x.c < 4 ∧ 0 ≤ x.u ∧ x.u ≤ 9007199254740991
theorem right_fit {l : List Le} (h : rightB l = true) {x : Le} (hx : x ∈ l) : Fit x := by
  obtain ⟨k, hk, e⟩ := List.mem_iff_getElem.1 hx
  obtain ⟨h1, h2, h3, h4, _⟩ := right_at h (k := k) (x := x) (List.getElem?_eq_some_iff.2 ⟨hk, e⟩)
  exact ⟨h1, h2, h3, h4⟩
theorem right_of {l : List Le} (hr : Rises l) (hf : ∀ x ∈ l, Fit x) : rightB l = true := by
  rw [rightB, List.all_eq_true]
  intro k hk
  rw [List.mem_range] at hk
  have hx : l[k]? = some l[k] := by simp [hk]
  obtain ⟨h1, h2, h3, h4⟩ := hf l[k] (List.getElem_mem hk)
  rw [okAt, hx]
  simp only [Bool.and_eq_true, decide_eq_true_eq]
  refine ⟨⟨⟨⟨h1, h2⟩, h3⟩, h4⟩, ?_⟩
  cases k with
  | zero => rfl
  | succ j =>
    have hy : l[j]? = some l[j] := by simp [show j < l.length by omega]
    have := rises_get hr hy hx (Nat.lt_succ_self j)
    simp only [hy]
    exact decide_eq_true this
theorem find_mem {l : List Le} (hr : Rises l) {x : Le} (hx : x ∈ l) : l.find? (fun y => y.c == x.c) = some x := by
  cases hf : l.find? (fun y => y.c == x.c) with
  | none => exact absurd (List.find?_eq_none.1 hf x hx) (by simp)
  | some y =>
    have hy := List.mem_of_find?_eq_some hf
    have hc : y.c = x.c := by have := List.find?_some hf; simpa using this
    obtain ⟨i, hi, ei⟩ := List.mem_iff_getElem.1 hx
    obtain ⟨j, hj, ej⟩ := List.mem_iff_getElem.1 hy
    have hi' : l[i]? = some x := List.getElem?_eq_some_iff.2 ⟨hi, ei⟩
    have hj' : l[j]? = some y := List.getElem?_eq_some_iff.2 ⟨hj, ej⟩
    rcases Nat.lt_trichotomy i j with h | h | h
    · have := rises_get hr hi' hj' h; omega
    · subst h; rw [ei] at ej; rw [ej]
    · have := rises_get hr hj' hi' h; omega
theorem until_mem {l : List Le} (h : rightB l = true) {x : Le} (hx : x ∈ l) : untilU x.c l = x.u ∧ untilB x.c l = true := until_hit h (find_mem (right_rises h) hx)
theorem others_rises {c : Int} {l : List Le} (h : Rises l) : Rises (others c l) := List.Pairwise.filter _ h
theorem others_mem {c : Int} {l : List Le} {x : Le} : x ∈ others c l ↔ x ∈ l ∧ x.c ≠ c := by simp [others, List.mem_filter]
theorem others_right {c : Int} {l : List Le} (h : rightB l = true) : rightB (others c l) = true :=
  right_of (others_rises (right_rises h)) fun x hx => right_fit h (others_mem.1 hx).1
theorem others_gone {c : Int} {l : List Le} : untilB c (others c l) = false := by
  refine (until_miss ?_).2
  rw [List.find?_eq_none]
  intro x hx
  simpa using (others_mem.1 hx).2

section
variable {c now : Int} {l : List Le}
theorem ren_parts : renQ c now l = (others c l).take (idxL c (others c l)) ++ ⟨c, max (untilU c l) (now + 10)⟩ :: (others c l).drop (idxL c (others c l)) :=
  insertIdx_parts _ _ _ (idx_le _ _)
theorem ren_mem {x : Le} : x ∈ renQ c now l ↔ x = ⟨c, max (untilU c l) (now + 10)⟩ ∨ (x ∈ l ∧ x.c ≠ c) := by
  have key : x ∈ others c l ↔ x ∈ (others c l).take (idxL c (others c l)) ∨ x ∈ (others c l).drop (idxL c (others c l)) := by
    rw [← List.mem_append, List.take_append_drop]
  rw [ren_parts, ← others_mem, key]
  simp only [List.mem_append, List.mem_cons]
  constructor
  · rintro (h | h | h)
    · exact .inr (.inl h)
    · exact .inl h
    · exact .inr (.inr h)
  · rintro (h | h | h)
    · exact .inr (.inl h)
    · exact .inl h
    · exact .inr (.inr h)
theorem ren_rises (h : Rises l) : Rises (renQ c now l) := by
  have hr := others_rises (c := c) h
  have h1 : ∀ y ∈ (others c l).take (idxL c (others c l)), y.c < c := fun y hy => by
    obtain ⟨k, hk, e⟩ := List.mem_iff_getElem.1 hy
    rw [List.length_take] at hk
    rw [List.getElem_take] at e
    exact others_lt (k := k) (List.getElem?_eq_some_iff.2 ⟨by omega, e⟩) (by omega)
  have h2 : ∀ y ∈ (others c l).drop (idxL c (others c l)), c < y.c := fun y hy => by
    obtain ⟨k, hk, e⟩ := List.mem_iff_getElem.1 hy
    rw [List.length_drop] at hk
    rw [List.getElem_drop] at e
    have hlt : idxL c (others c l) < (others c l).length := by omega
    have hx : (others c l)[idxL c (others c l)]? = some (others c l)[idxL c (others c l)] := by simp [hlt]
    have h0 := others_gt hx
    cases k with
    | zero => simp only [Nat.add_zero] at e; rw [← e]; exact h0
    | succ k => have := rises_get hr hx (List.getElem?_eq_some_iff.2 ⟨_, e⟩) (by omega); omega
  rw [ren_parts]
  refine List.pairwise_append.2 ⟨List.Pairwise.sublist (List.take_sublist _ _) hr, List.pairwise_cons.2 ⟨fun y hy => h2 y hy, List.Pairwise.sublist (List.drop_sublist _ _) hr⟩, fun y hy z hz => ?_⟩
  rcases List.mem_cons.1 hz with rfl | hz
  · exact h1 y hy
  · exact Int.lt_trans (h1 y hy) (h2 z hz)
theorem until_fit (h : rightB l = true) : 0 ≤ untilU c l ∧ untilU c l ≤ 9007199254740991 := by
  cases hf : l.find? (fun x => x.c == c) with
  | none => rw [(until_miss hf).1]; omega
  | some x =>
    obtain ⟨_, _, h3, h4⟩ := right_fit h (List.mem_of_find?_eq_some hf)
    rw [(until_hit h hf).1]; exact ⟨h3, h4⟩
theorem ren_right (h : renOk c now l = true) : rightB (renQ c now l) = true := by
  obtain ⟨hR, g1, g2, g3, g4⟩ := renOk_iff.1 h
  refine right_of (ren_rises (right_rises hR)) fun x hx => ?_
  rcases ren_mem.1 hx with rfl | ⟨hx, _⟩
  · have := until_fit (c := c) hR
    exact ⟨g1, g2, by show 0 ≤ max _ _; omega, by show max _ _ ≤ _; omega⟩
  · exact right_fit hR hx
theorem ren_until (h : renOk c now l = true) : untilU c (renQ c now l) = max (untilU c l) (now + 10) ∧ untilB c (renQ c now l) = true :=
  until_mem (ren_right h) (x := ⟨c, max (untilU c l) (now + 10)⟩) (ren_mem.2 (.inl rfl))
theorem ren_len : (renQ c now l).length = (others c l).length + 1 := by
  rw [renQ, List.length_insertIdx, if_pos (idx_le _ _)]
theorem others_ren : others c (renQ c now l) = others c l := by
  have ho : others c (others c l) = others c l := by simp [others, List.filter_filter]
  have hsplit := ho
  rw [← List.take_append_drop (idxL c (others c l)) (others c l)] at hsplit
  rw [others, List.filter_append] at hsplit
  rw [ren_parts, others, List.filter_append, List.filter_cons, if_neg (by simp)]
  rw [List.take_append_drop] at hsplit
  exact hsplit
/-- Whoever else renews theirs: one's own lasts as long. -/
theorem ren_other {o t : Int} (h : renOk o t l = true) (hb : untilB c l = true) : untilU c l ≤ untilU c (renQ o t l) ∧ untilB c (renQ o t l) = true := by
  have hR := (renOk_iff.1 h).1
  by_cases ho : o = c
  · subst ho
    have := ren_until h
    rw [this.1, this.2]
    exact ⟨by omega, rfl⟩
  · cases hf : l.find? (fun x => x.c == c) with
    | none => rw [(until_miss hf).2] at hb; cases hb
    | some x =>
      have hx := List.mem_of_find?_eq_some hf
      have hc : x.c = c := by have := List.find?_some hf; simpa using this
      have h2 := until_mem (ren_right h) (x := x) (ren_mem.2 (.inr ⟨hx, fun e => ho (by rw [← e, hc])⟩))
      rw [hc] at h2
      rw [(until_hit hR hf).1, h2.1, h2.2]
      exact ⟨Int.le_refl _, rfl⟩
theorem ren_not_late (h : renOk c now l = true) : ∀ y ∈ lateL (now + 10) (renQ c now l), y ≠ c := by
  intro y hy e
  simp only [lateL, List.mem_map, List.mem_filter, decide_eq_true_eq] at hy
  obtain ⟨x, ⟨hx, hu⟩, rfl⟩ := hy
  have h1 := until_mem (ren_right h) hx
  rw [e, (ren_until h).1] at h1
  have := h1.1
  omega
end
end Go.Proofs.YtdfckkadmgmcaaaGreatDoor.Lease
