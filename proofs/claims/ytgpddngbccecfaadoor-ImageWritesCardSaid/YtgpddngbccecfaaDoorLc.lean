/- Leases: who is late, by the program and by the document. -/
import Derived.Test.YtgpddngbccecfaaDoorLb
namespace Go.Proofs.YtgpddngbccecfaaDoor.Lease
open Go.RowKit

def lateL (now : Int) (l : List Le) : List Int := (l.filter fun x => decide (x.u < now)).map Le.c
def lateR (now : Int) (l : List Le) : List Int := if rightB l = true then lateL now l else []
theorem late_len (now : Int) (l : List Le) : (lateL now l).length ≤ l.length := by simp [lateL, List.length_filter_le]
theorem late_next {now : Int} {l : List Le} {k : Nat} {x : Le} (hx : l[k]? = some x) : lateL now (l.take (k + 1)) = if x.u < now then lateL now (l.take k) ++ [x.c] else lateL now (l.take k) := by
  rw [lateL, List.take_add_one, hx, lateL]
  by_cases h : x.u < now <;> simp [h]
/-- A slice of numbers of the call's own. -/
structure OwnI (w w' : World) (v : Value) (q : List Int) : Prop where
  own : w'.ownsRow 0 3 1 v q.length (flatI q)
  new : ∀ g, v.ownBlock = some g → w.heap.size ≤ g

/-- How long a client has. -/
def untilU (c : Int) (l : List Le) : Int := if rightB l = true then match l.find? (fun x => x.c == c) with | some x => x.u | none => 0 else 0
def untilB (c : Int) (l : List Le) : Bool := rightB l && (l.find? (fun x => x.c == c)).isSome
theorem find_next {c : Int} {l : List Le} {k : Nat} {x : Le} (hx : l[k]? = some x) (h : (l.take k).find? (fun x => x.c == c) = none) (hc : x.c ≠ c) : (l.take (k + 1)).find? (fun x => x.c == c) = none := by
  rw [List.take_add_one, hx, List.find?_append, h]; simp [hc]
theorem find_here {c : Int} {l : List Le} {k : Nat} {x : Le} (hx : l[k]? = some x) (h : (l.take k).find? (fun x => x.c == c) = none) (hc : x.c = c) : l.find? (fun x => x.c == c) = some x := by
  have hk := (List.getElem?_eq_some_iff.1 hx).1
  have e : l = l.take (k + 1) ++ l.drop (k + 1) := (List.take_append_drop _ _).symm
  rw [e, List.find?_append, List.take_add_one, hx, List.find?_append, h]; simp [hc]

theorem until_hit {c : Int} {l : List Le} {x : Le} (hR : rightB l = true) (h : l.find? (fun x => x.c == c) = some x) : untilU c l = x.u ∧ untilB c l = true := by simp [untilU, untilB, hR, h]
theorem until_miss {c : Int} {l : List Le} (h : l.find? (fun x => x.c == c) = none) : untilU c l = 0 ∧ untilB c l = false := by
  by_cases hR : rightB l = true <;> simp [untilU, untilB, hR, h]
theorem until_bad {c : Int} {l : List Le} (h : rightB l = false) : untilU c l = 0 ∧ untilB c l = false := by simp [untilU, untilB, h]

set_option maxHeartbeats 2000000 in
theorem runtil_calls (w : World) (v : Value) (l : List Le) (c : Int) (h : Rd w 2 encL v l) (hn : l.length ≤ 8796093022208) :
    Calls Tryd.prog 33 #[v, .int .i64 c] w fun e w' => e = .returned (.tuple #[.int .i64 (untilU c l), .bool (untilB c l)]) ∧ Below w.heap.size w w' := by
  have hr := rright_calls w v l h hn
  obtain ⟨ao, cap, rfl, hcap, _, hcell⟩ := rd_cells h
  have Hcell := Lib.hid hcell; clear hcell h
  by_cases hR : rightB l = true
  · rw [hR] at hr
    have HR := Lib.hid hR; clear hR
    go_enter Tryd.func33, Tryd.ntmps33
    go_wp2_with (go_at_call 31; refine hr.mono ?_; rintro e w1 ⟨rfl, hb1⟩)
    clear hr
    go_loopw [7] (fun vk wr => ∃ k : Nat, vk = .int .i64 k ∧ k ≤ l.length ∧ (l.take k).find? (fun x => x.c == c) = none ∧ Below w.heap.size w wr) (fun vk _ => l.length - (intOf vk).toNat)
    case atStart => exact ⟨0, rfl, Nat.zero_le _, rfl, hb1⟩
    case round =>
      obtain ⟨k, rfl, hk, hf, hb⟩ := hrel
      have Hf := Lib.hid hf; clear hf
      by_cases hlt : k < l.length
      · obtain ⟨x, hx⟩ : ∃ x, l[k]? = some x := ⟨l[k], by simp [hlt]⟩
        obtain ⟨b, off, rfl, hbl, c0, c1⟩ := Hcell.out wr hb k x hx
        have Hb := Lib.hid hb; clear hb
        have Hx := Lib.hid hx; clear hx
        by_cases hc : x.c = c
        · have Hh := Lib.hid (find_here Hx.out Hf.out hc)
          have Hc := Lib.hid hc
          have hcc : (x.c == c) = true := by simp [hc]
          clear hc
          go_wp2
          go_ret2
          exact ⟨by rw [(until_hit HR.out Hh.out).1, (until_hit HR.out Hh.out).2]; rfl, Hb.out⟩
        · have hcc : (x.c == c) = false := by simp [hc]
          have Hc := Lib.hid hc; clear hc
          go_wp2
          go_roundw
          case rel => exact ⟨k + 1, by go_num, by omega, find_next Hx.out Hf.out Hc.out, Hb.out⟩
          case measure => simp [intOf]; omega
      · obtain rfl : k = l.length := by omega
        have Hl : Hid (l.find? (fun x => x.c == c) = none) := by have := Hf.out; rw [List.take_length] at this; exact this
        go_wp2
        go_ret2
        exact ⟨by rw [(until_miss Hl.out).1, (until_miss Hl.out).2]; rfl, hb⟩
  · rw [Bool.not_eq_true] at hR
    rw [(until_bad hR).1, (until_bad hR).2]
    rw [hR] at hr
    clear hR
    by_cases hl : 0 < l.length
    · go_enter Tryd.func33, Tryd.ntmps33
      go_wp2_with (go_at_call 31; refine hr.mono ?_; rintro e w1 ⟨rfl, hb1⟩)
      go_loopw [7] (fun vk wr => vk = .int .i64 0 ∧ Below w.heap.size w wr) (fun vk _ => 0)
      case atStart => exact ⟨rfl, hb1⟩
      case round =>
        obtain ⟨rfl, hb⟩ := hrel
        go_wp2
        go_ret2
        exact ⟨rfl, hb⟩
    · go_enter Tryd.func33, Tryd.ntmps33
      go_wp2_with (go_at_call 31; refine hr.mono ?_; rintro e w1 ⟨rfl, hb1⟩)
      go_loopw [7] (fun vk wr => vk = .int .i64 0 ∧ Below w.heap.size w wr) (fun vk _ => 0)
      case atStart => exact ⟨rfl, hb1⟩
      case round =>
        obtain ⟨rfl, hb⟩ := hrel
        go_wp2
        go_ret2
        exact ⟨rfl, hb⟩
end Go.Proofs.YtgpddngbccecfaaDoor.Lease
