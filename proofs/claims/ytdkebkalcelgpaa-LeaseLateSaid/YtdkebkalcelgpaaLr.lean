/- LeaseLate, LeaseTells: the walks of the laws. -/
import Derived.Test.YtdkebkalcelgpaaLq
namespace Go.Proofs.Ytdkebkalcelgpaa.Lease
open Go.RowKit
set_option linter.unusedSimpArgs false

theorem late_more {now later : Int} (h : now ≤ later) (l : List Le) : (lateL now l).length ≤ (lateL later l).length := by
  rw [lateL, lateL, List.length_map, List.length_map, ← List.countP_eq_length_filter, ← List.countP_eq_length_filter]
  exact List.countP_mono_left fun x _ hx => by simp at hx ⊢; omega
theorem late_at {now : Int} {l : List Le} {k : Nat} {x : Le} (hx : l[k]? = some x) (hu : x.u < now) : (lateL now l)[(lateL now (l.take k)).length]? = some x.c := by
  have hk := (List.getElem?_eq_some_iff.1 hx)
  have e : lateL now l = lateL now (l.take k) ++ x.c :: lateL now (l.drop (k + 1)) := by
    conv => lhs; rw [← List.take_append_drop k l, List.drop_eq_getElem_cons hk.1, hk.2]
    simp [lateL, hu]
  rw [e, List.getElem?_append_right (Nat.le_refl _), Nat.sub_self]
  rfl

set_option maxHeartbeats 4000000 in
theorem law_late (v : Value) (l : List Le) (now later : Int) (w : World) (hw : Rd w 2 encL v l ∧ (∀ a ∈ l, OkL a) ∧ l.length * 16 ≤ 140737488351232) (_ : inI now) (_ : inI later) :
    Calls Try.prog 7 #[v, .int .i64 now, .int .i64 later] w fun e w' => e = .returned (.bool true) ∧ Below w.heap.size w w' := by
  have h := hw.1
  have hn : l.length ≤ 8796093022208 := by have := hw.2.2; omega
  have hex := ex_calls w
  have hla := fun t W (hW : Below w.heap.size w W) => late_calls W v l t (h.below hW (Nat.le_refl _)) hn
  have hri := fun W (hW : Below w.heap.size w W) => right_calls W v l (h.below hW (Nat.le_refl _)) hn
  obtain ⟨ao, cap, rfl, _, _, hcell⟩ := rd_cells h
  have Hcell := Lib.hid hcell; have Hla := Lib.hid hla; have Hri := Lib.hid hri; clear hcell hla hri h
  go_enter Try.func7, Try.ntmps7
  go_wp2_with (fail)
  refine hex.mono ?_
  rintro e w1 ⟨rfl, hb1⟩
  go_wp2_with (fail)
  refine (Hla.out now _ hb1).mono ?_
  by_cases hR : rightB l = true
  · rw [if_pos hR]
    rintro e w2 ⟨v2, rfl, hO2, hb2⟩
    have hl2 : lateR now l = lateL now l := if_pos hR
    rw [hl2] at hO2
    obtain ⟨a2, c2, rfl, _, hcell2⟩ := rd_cellsI (Rd.of_own encI_len hO2.own)
    have hll := late_len now l
    obtain ⟨q, hq⟩ : ∃ q, q = lateL now l := ⟨_, rfl⟩
    rw [← hq] at hcell2 hO2 hl2 hll ⊢
    have Hc2 := Lib.hid hcell2; have Hq := Lib.hid hq; have HO2 := Lib.hid hO2; clear hcell2 hq hl2 hO2 hex
    have hB2 := hb1.trans (hb2.mono hb1.size)
    have hzz := hB2.size
    go_wp2_with (fail)
    go_loopw [10, 11] (fun va vk wr => ∃ k : Nat, vk = .int .i64 k ∧ k ≤ l.length ∧ va = .int .i64 (lateL now (l.take k)).length ∧ Below w2.heap.size w2 wr) (fun _ vk _ => l.length - (intOf vk).toNat)
    case atStart => exact ⟨0, rfl, Nat.zero_le _, rfl, Below.refl _ _⟩
    case round =>
      obtain ⟨k, rfl, hk, rfl, hb⟩ := hrel
      have hsz := hb.size
      by_cases hlt : k < l.length
      · obtain ⟨x, hx⟩ : ∃ x, l[k]? = some x := ⟨l[k], by simp [hlt]⟩
        obtain ⟨b, off, rfl, hbl, c0, c1⟩ := Hcell.out wr (hB2.trans (hb.mono hzz)) k x hx
        have hnx := late_next (now := now) hx
        by_cases hu : x.u < now
        · rw [if_pos hu] at hnx
          have hat := late_at hx hu
          rw [← Hq.out] at hat
          have hln := (List.getElem?_eq_some_iff.1 hat).1
          obtain ⟨b2, off2, rfl, hbl2, d0⟩ := Hc2.out wr hb _ _ hat
          have hnu : ¬ now ≤ x.u := by omega
          have Hnx := Lib.hid hnx; have Hx := Lib.hid hx; clear hnx hx hat
          generalize hm : (lateL now (l.take k)).length = m at *
          have Hm := Lib.hid hm; clear hm
          have hc1 : (x.c != x.c) = false := by simp
          have hmq : ¬ ((q.length : Int) ≤ (m : Int)) := by omega
          go_wp2_with (fail)
          go_quiet (fail)
          go_wp2_with (fail)
          go_roundw
          case rel => exact ⟨k + 1, by go_num, by omega, by rw [Hnx.out, List.length_append, Hm.out]; rfl, ⟨hb.os, hb.tape, hb.output, hb.size, hb.block⟩⟩
          case measure => simp [intOf]; omega
        · rw [if_neg hu] at hnx
          have Hnx := Lib.hid hnx; have Hx := Lib.hid hx; clear hnx hx
          have hnu : now ≤ x.u := by omega
          generalize hm : (lateL now (l.take k)).length = m at *
          have Hm := Lib.hid hm; clear hm
          go_wp2_with (fail)
          go_roundw
          case rel => exact ⟨k + 1, by go_num, by omega, by rw [Hnx.out, Hm.out], hb⟩
          case measure => simp [intOf]; omega
      · obtain rfl : k = l.length := by omega
        rw [List.take_length, ← Hq.out]
        have hB3 := hB2.trans (hb.mono hzz)
        go_wp2_with (fail)
        refine (Hla.out later _ hB3).mono ?_
        rw [if_pos hR]
        rintro e w4 ⟨v4, rfl, hO4, hb4⟩
        have hl4 : lateR later l = lateL later l := if_pos hR
        rw [hl4] at hO4
        obtain ⟨a4, c4, rfl, _, _⟩ := rd_cellsI (Rd.of_own encI_len hO4.own)
        have hmo := fun h => late_more (now := now) (later := later) h l
        rw [← Hq.out] at hmo
        clear hO4
        generalize (lateL later l).length = m at *
        have hB4 := hB3.trans (hb4.mono hB3.size)
        by_cases hnl : later < now
        · go_wp2_with (fail)
          go_ret
          exact ⟨rfl, hB4⟩
        · have hge : (q.length : Int) ≤ (m : Int) := by have := hmo (by omega); omega
          go_wp2_with (fail)
          go_ret
          exact ⟨rfl, hB4⟩
  · rw [if_neg hR]
    rw [Bool.not_eq_true] at hR
    rintro e w2 ⟨v2, rfl, _, hb2⟩
    have hB2 := hb1.trans (hb2.mono hb1.size)
    go_wp2_with (fail)
    refine (Hri.out _ hB2).mono ?_
    rw [hR]
    rintro e w3 ⟨rfl, hb3⟩
    go_wp2_with (fail)
    go_ret
    exact ⟨rfl, hB2.trans (hb3.mono hB2.size)⟩

end Go.Proofs.Ytdkebkalcelgpaa.Lease
