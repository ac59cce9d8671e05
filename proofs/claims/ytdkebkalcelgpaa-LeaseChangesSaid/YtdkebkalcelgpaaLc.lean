/- Leases: who is late, by the program and by the document. -/
import Derived.Test.YtdkebkalcelgpaaLb
namespace Go.Proofs.Ytdkebkalcelgpaa.Lease
open Go.RowKit

def lateL (now : Int) (l : List Le) : List Int := (l.filter fun x => decide (x.u < now)).map Le.c
def lateR (now : Int) (l : List Le) : List Int := if rightB l = true then lateL now l else []
theorem late_len (now : Int) (l : List Le) : (lateL now l).length ≤ l.length := by simp [lateL, List.length_filter_le]
theorem late_next {now : Int} {l : List Le} {k : Nat} {x : Le} (hx : l[k]? = some x) : lateL now (l.take (k + 1)) = if x.u < now then lateL now (l.take k) ++ [x.c] else lateL now (l.take k) := by
  rw [lateL, List.take_add_one, hx, lateL]
  by_cases h : x.u < now <;> simp [h]
/-- A slice of numbers of the call's own. -/
structure OwnI (w w' : World) (v : Value) (q : List Int) : Prop where
  own : w'.ownsRow 0 3 1 v q.length (flatI q)
  new : ∀ g, v.ownBlock = some g → w.heap.size ≤ g

set_option maxHeartbeats 2000000 in
theorem late_calls (w : World) (v : Value) (l : List Le) (now : Int) (h : Rd w 2 encL v l) (hn : l.length ≤ 8796093022208) :
    Calls Try.prog 26 #[v, .int .i64 now] w fun e w' => ∃ v', e = .returned (.tuple #[v', .int .i64 (if rightB l = true then 0 else 1)]) ∧ OwnI w w' v' (lateR now l) ∧ Below w.heap.size w w' := by
  have hr := right_calls w v l h hn
  obtain ⟨ao, cap, rfl, hcap, _, hcell⟩ := rd_cells h
  have Hcell := Lib.hid hcell; clear hcell h
  by_cases hR : rightB l = true
  · simp only [hR, if_true, lateR] at *
    clear hR
    go_enter Try.func26, Try.ntmps26
    go_wp2_with (go_at_call 27; refine hr.mono ?_; rintro e w1 ⟨rfl, hb1⟩)
    clear hr
    go_loopw [6, 14] (fun vo vk wr => ∃ k : Nat, vk = .int .i64 k ∧ k ≤ l.length ∧ OwnI w wr vo (lateL now (l.take k)) ∧ Below w.heap.size w wr) (fun _ vk _ => l.length - (intOf vk).toNat)
    case atStart => exact ⟨0, rfl, Nat.zero_le _, ⟨World.ownsRow_nil _ _ _ _, fun g h => by simp [Value.ownBlock] at h⟩, hb1⟩
    case round =>
      obtain ⟨k, rfl, hk, hO, hb⟩ := hrel
      have hsz := hb.size
      by_cases hlt : k < l.length
      · obtain ⟨x, hx⟩ : ∃ x, l[k]? = some x := ⟨l[k], by simp [hlt]⟩
        obtain ⟨b, off, rfl, hbl, c0, c1⟩ := Hcell.out wr hb k x hx
        have hbr : b < wr.heap.size := by omega
        have hnx := late_next (now := now) hx
        have hln := late_len now (l.take k)
        rw [List.length_take] at hln
        have Hb := Lib.hid hb; clear hb
        have Hx := Lib.hid hx; clear hx
        have HO := Lib.hid hO; clear hO
        by_cases hu : x.u < now
        · rw [if_pos hu] at hnx
          have Hnx := Lib.hid hnx; clear hnx
          go_wp2_with (at_builtin; (with_reducible refine etI.wpList1 ((HO.out.1.alloc _).alloc _) (heap_alloc2_new _ _ _) rfl (by simp [Value.oneCell']) (by omega) (by unfold maxLen; omega) rfl (.tmp 22) (.tmp 25) rfl rfl rfl ?_); intro g1 cap1 w2 hown1 hgrow hat hlt1)
          go_roundw
          case rel =>
            refine ⟨k + 1, by go_num, by omega, ⟨?_, fun g hg => ?_⟩, (((Hb.out.alloc hsz _).alloc (by simp; omega) _).grown hgrow (by simp; omega) (fun q hq => HO.out.2 q hq))⟩
            · rw [Hnx.out, flatI_snoc, List.length_append]; exact hown1
            · simp only [Value.ownBlock, Option.some.injEq] at hg
              subst hg
              rcases hat with h | h
              · exact HO.out.2 _ h
              · simp at h; omega
          case measure => simp [intOf]; omega
        · rw [if_neg hu] at hnx
          have Hnx := Lib.hid hnx; clear hnx
          go_wp2
          go_roundw
          case rel => exact ⟨k + 1, by go_num, by omega, by rw [Hnx.out]; exact ⟨HO.out.1.alloc _, HO.out.2⟩, Hb.out.alloc hsz _⟩
          case measure => simp [intOf]; omega
      · obtain rfl : k = l.length := by omega
        rw [List.take_length] at hO
        have HO := Lib.hid hO; clear hO
        go_wp2
        go_ret2
        exact ⟨_, rfl, HO.out, hb⟩
  · have e1 : (if rightB l = true then (0 : Int) else 1) = 1 := if_neg hR
    have e2 : lateR now l = [] := if_neg hR
    rw [e1, e2]
    rw [Bool.not_eq_true] at hR
    rw [hR] at hr
    clear hR e1 e2
    go_enter Try.func26, Try.ntmps26
    go_wp2_with (go_at_call 27; refine hr.mono ?_; rintro e w1 ⟨rfl, hb1⟩)
    go_ret2
    exact ⟨_, rfl, ⟨World.ownsRow_nil _ _ _ _, fun g h => by simp [Value.ownBlock] at h⟩, hb1⟩

set_option maxHeartbeats 2000000 in
theorem rlate_calls (w : World) (v : Value) (l : List Le) (now : Int) (h : Rd w 2 encL v l) (hn : l.length ≤ 8796093022208) :
    Calls Try.prog 30 #[v, .int .i64 now] w fun e w' => ∃ v', e = .returned (.tuple #[v', .bool (rightB l)]) ∧ OwnI w w' v' (lateR now l) ∧ Below w.heap.size w w' := by
  have hr := rright_calls w v l h hn
  obtain ⟨ao, cap, rfl, hcap, _, hcell⟩ := rd_cells h
  have Hcell := Lib.hid hcell; clear hcell h
  by_cases hR : rightB l = true
  · simp only [hR, if_true, lateR] at *
    clear hR
    go_enter Try.func30, Try.ntmps30
    go_wp2_with (go_at_call 32; refine hr.mono ?_; rintro e w1 ⟨rfl, hb1⟩)
    clear hr
    go_loopw [7, 8] (fun vo vk wr => ∃ k : Nat, vk = .int .i64 k ∧ k ≤ l.length ∧ OwnI w wr vo (lateL now (l.take k)) ∧ Below w.heap.size w wr) (fun _ vk _ => l.length - (intOf vk).toNat)
    case atStart => exact ⟨0, rfl, Nat.zero_le _, ⟨World.ownsRow_nil _ _ _ _, fun g h => by simp [Value.ownBlock] at h⟩, hb1⟩
    case round =>
      obtain ⟨k, rfl, hk, hO, hb⟩ := hrel
      have hsz := hb.size
      by_cases hlt : k < l.length
      · obtain ⟨x, hx⟩ : ∃ x, l[k]? = some x := ⟨l[k], by simp [hlt]⟩
        obtain ⟨b, off, rfl, hbl, c0, c1⟩ := Hcell.out wr hb k x hx
        have hbr : b < wr.heap.size := by omega
        have hnx := late_next (now := now) hx
        have hln := late_len now (l.take k)
        rw [List.length_take] at hln
        have Hb := Lib.hid hb; clear hb
        have Hx := Lib.hid hx; clear hx
        have HO := Lib.hid hO; clear hO
        by_cases hu : x.u < now
        · rw [if_pos hu] at hnx
          have Hnx := Lib.hid hnx; clear hnx
          go_wp2_with (at_builtin; (with_reducible refine etI.wpList1 (HO.out.1.alloc _) (heap_alloc_new _ _) rfl (by simp [Value.oneCell']) (by omega) (by unfold maxLen; omega) rfl (.tmp 26) (.tmp 32) rfl rfl rfl ?_); intro g1 cap1 w2 hown1 hgrow hat hlt1)
          go_roundw
          case rel =>
            refine ⟨k + 1, by go_num, by omega, ⟨?_, fun g hg => ?_⟩, ((Hb.out.alloc hsz _).grown hgrow (by simp; omega) (fun q hq => HO.out.2 q hq))⟩
            · rw [Hnx.out, flatI_snoc, List.length_append]; exact hown1
            · simp only [Value.ownBlock, Option.some.injEq] at hg
              subst hg
              rcases hat with h | h
              · exact HO.out.2 _ h
              · simp at h; omega
          case measure => simp [intOf]; omega
        · rw [if_neg hu] at hnx
          have Hnx := Lib.hid hnx; clear hnx
          go_wp2
          go_roundw
          case rel => exact ⟨k + 1, by go_num, by omega, by rw [Hnx.out]; exact HO.out, Hb.out⟩
          case measure => simp [intOf]; omega
      · obtain rfl : k = l.length := by omega
        rw [List.take_length] at hO
        have HO := Lib.hid hO; clear hO
        go_wp2
        go_ret2
        exact ⟨_, rfl, HO.out, hb⟩
  · have e2 : lateR now l = [] := if_neg hR
    rw [e2]
    rw [Bool.not_eq_true] at hR
    rw [hR] at hr ⊢
    clear hR e2
    go_enter Try.func30, Try.ntmps30
    go_wp2_with (go_at_call 32; refine hr.mono ?_; rintro e w1 ⟨rfl, hb1⟩)
    go_ret2
    exact ⟨_, rfl, ⟨World.ownsRow_nil _ _ _ _, fun g h => by simp [Value.ownBlock] at h⟩, hb1⟩

/-- How long a client has. -/
def untilU (c : Int) (l : List Le) : Int := if rightB l = true then match l.find? (fun x => x.c == c) with | some x => x.u | none => 0 else 0
def untilB (c : Int) (l : List Le) : Bool := rightB l && (l.find? (fun x => x.c == c)).isSome
theorem find_next {c : Int} {l : List Le} {k : Nat} {x : Le} (hx : l[k]? = some x) (h : (l.take k).find? (fun x => x.c == c) = none) (hc : x.c ≠ c) : (l.take (k + 1)).find? (fun x => x.c == c) = none := by
  rw [List.take_add_one, hx, List.find?_append, h]; simp [hc]
theorem find_here {c : Int} {l : List Le} {k : Nat} {x : Le} (hx : l[k]? = some x) (h : (l.take k).find? (fun x => x.c == c) = none) (hc : x.c = c) : l.find? (fun x => x.c == c) = some x := by
  have hk := (List.getElem?_eq_some_iff.1 hx).1
  have e : l = l.take (k + 1) ++ l.drop (k + 1) := (List.take_append_drop _ _).symm
  rw [e, List.find?_append, List.take_add_one, hx, List.find?_append, h]; simp [hc]

theorem until_hit {c : Int} {l : List Le} {x : Le} (hR : rightB l = true) (h : l.find? (fun x => x.c == c) = some x) : untilU c l = x.u ∧ untilB c l = true := by simp [untilU, untilB, hR, h]
theorem until_miss {c : Int} {l : List Le} (h : l.find? (fun x => x.c == c) = none) : untilU c l = 0 ∧ untilB c l = false := by
  by_cases hR : rightB l = true <;> simp [untilU, untilB, hR, h]
theorem until_bad {c : Int} {l : List Le} (h : rightB l = false) : untilU c l = 0 ∧ untilB c l = false := by simp [untilU, untilB, h]

set_option maxHeartbeats 2000000 in
theorem runtil_calls (w : World) (v : Value) (l : List Le) (c : Int) (h : Rd w 2 encL v l) (hn : l.length ≤ 8796093022208) :
    Calls Try.prog 29 #[v, .int .i64 c] w fun e w' => e = .returned (.tuple #[.int .i64 (untilU c l), .bool (untilB c l)]) ∧ Below w.heap.size w w' := by
  have hr := rright_calls w v l h hn
  obtain ⟨ao, cap, rfl, hcap, _, hcell⟩ := rd_cells h
  have Hcell := Lib.hid hcell; clear hcell h
  by_cases hR : rightB l = true
  · rw [hR] at hr
    have HR := Lib.hid hR; clear hR
    go_enter Try.func29, Try.ntmps29
    go_wp2_with (go_at_call 32; refine hr.mono ?_; rintro e w1 ⟨rfl, hb1⟩)
    clear hr
    go_loopw [7] (fun vk wr => ∃ k : Nat, vk = .int .i64 k ∧ k ≤ l.length ∧ (l.take k).find? (fun x => x.c == c) = none ∧ Below w.heap.size w wr) (fun vk _ => l.length - (intOf vk).toNat)
    case atStart => exact ⟨0, rfl, Nat.zero_le _, rfl, hb1⟩
    case round =>
      obtain ⟨k, rfl, hk, hf, hb⟩ := hrel
      have Hf := Lib.hid hf; clear hf
      by_cases hlt : k < l.length
      · obtain ⟨x, hx⟩ : ∃ x, l[k]? = some x := ⟨l[k], by simp [hlt]⟩
        obtain ⟨b, off, rfl, hbl, c0, c1⟩ := Hcell.out wr hb k x hx
        have Hb := Lib.hid hb; clear hb
        have Hx := Lib.hid hx; clear hx
        by_cases hc : x.c = c
        · have Hh := Lib.hid (find_here Hx.out Hf.out hc)
          have Hc := Lib.hid hc
          have hcc : (x.c == c) = true := by simp [hc]
          clear hc
          go_wp2
          go_ret2
          exact ⟨by rw [(until_hit HR.out Hh.out).1, (until_hit HR.out Hh.out).2]; rfl, Hb.out⟩
        · have hcc : (x.c == c) = false := by simp [hc]
          have Hc := Lib.hid hc; clear hc
          go_wp2
          go_roundw
          case rel => exact ⟨k + 1, by go_num, by omega, find_next Hx.out Hf.out Hc.out, Hb.out⟩
          case measure => simp [intOf]; omega
      · obtain rfl : k = l.length := by omega
        have Hl : Hid (l.find? (fun x => x.c == c) = none) := by have := Hf.out; rw [List.take_length] at this; exact this
        go_wp2
        go_ret2
        exact ⟨by rw [(until_miss Hl.out).1, (until_miss Hl.out).2]; rfl, hb⟩
  · rw [Bool.not_eq_true] at hR
    rw [(until_bad hR).1, (until_bad hR).2]
    rw [hR] at hr
    clear hR
    by_cases hl : 0 < l.length
    · go_enter Try.func29, Try.ntmps29
      go_wp2_with (go_at_call 32; refine hr.mono ?_; rintro e w1 ⟨rfl, hb1⟩)
      go_loopw [7] (fun vk wr => vk = .int .i64 0 ∧ Below w.heap.size w wr) (fun vk _ => 0)
      case atStart => exact ⟨rfl, hb1⟩
      case round =>
        obtain ⟨rfl, hb⟩ := hrel
        go_wp2
        go_ret2
        exact ⟨rfl, hb⟩
    · go_enter Try.func29, Try.ntmps29
      go_wp2_with (go_at_call 32; refine hr.mono ?_; rintro e w1 ⟨rfl, hb1⟩)
      go_loopw [7] (fun vk wr => vk = .int .i64 0 ∧ Below w.heap.size w wr) (fun vk _ => 0)
      case atStart => exact ⟨rfl, hb1⟩
      case round =>
        obtain ⟨rfl, hb⟩ := hrel
        go_wp2
        go_ret2
        exact ⟨rfl, hb⟩
end Go.Proofs.Ytdkebkalcelgpaa.Lease
