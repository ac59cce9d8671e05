/- LeaseLasts: the walk of the law. -/
import Derived.Test.YtdkebkalcelgpaaLu
namespace Go.Proofs.Ytdkebkalcelgpaa.Lease
open Go.RowKit
set_option linter.unusedSimpArgs false

set_option maxRecDepth 4000 in
set_option maxHeartbeats 4000000 in
theorem law_lasts (v : Value) (l : List Le) (c now o t : Int) (w : World) (hw : Rd w 2 encL v l ∧ (∀ a ∈ l, OkL a) ∧ l.length * 16 ≤ 140737488351232) (_ : inI c) (_ : inI now) (_ : inI o) (_ : inI t) :
    Calls Try.prog 10 #[v, .int .i64 c, .int .i64 now, .int .i64 o, .int .i64 t] w fun e w' => e = .returned (.bool true) ∧ Below w.heap.size w w' := by
  have h := hw.1
  have hb16 := hw.2.2
  have hn : l.length ≤ 8796093022208 := by omega
  have hex := ex_calls w
  have hren := fun W (hW : Below w.heap.size w W) => renew_calls W v l c now (h.below hW (Nat.le_refl _)) hn
  obtain ⟨ao, cap, rfl, _, _, _⟩ := rd_cells h
  clear hw h
  rw [renR] at hren
  by_cases hK : renOk c now l = true
  · rw [if_pos hK, if_pos hK] at hren
    obtain ⟨hR, g1, g2, g3, g4⟩ := renOk_iff.1 hK
    have hAR := ren_right hK
    have hAU := ren_until hK
    have hAlen : (renQ c now l).length = (others c l).length + 1 := ren_len
    have hAo : others c (renQ c now l) = others c l := others_ren
    have hAot : (renOk o t (renQ c now l) = true) → untilU c (renQ c now l) ≤ untilU c (renQ o t (renQ c now l)) ∧ untilB c (renQ o t (renQ c now l)) = true := fun h => ren_other h hAU.2
    have hAl := ren_not_late hK
    have hDR := others_right (c := c) hAR
    have hDg : untilB c (others c (renQ c now l)) = false := others_gone
    have hAl4 := right_len hAR
    have hlo := others_len c l
    have hlen4 := right_len hR
    have hUge : now + 10 ≤ untilU c (renQ c now l) := by rw [hAU.1]; omega
    replace hAU := hAU.2
    rw [← hAo] at hAlen hlo
    clear hAo hK hR
    generalize renQ c now l = A at *
    have Hot := Lib.hid hAot; have Hl := Lib.hid hAl; have HDR := Lib.hid hDR; have HDg := Lib.hid hDg; have HAR := Lib.hid hAR; have HAU := Lib.hid hAU; have Hren := Lib.hid hren
    clear hAot hAl hDR hDg hAR hAU hren
    have k1 : IntKind.i64.wrap (now + 10) = now + 10 := by rw [IntKind.wrap_i64]; omega
    have k2 : IntKind.i64.wrap ((l.length : Int) + 1) = (l.length : Int) + 1 := by rw [IntKind.wrap_i64]; omega
    have k3 : IntKind.i64.wrap ((A.length : Int) - 1) = (A.length : Int) - 1 := by rw [IntKind.wrap_i64]; omega
    have k4 : ¬ ((l.length : Int) + 1 < (A.length : Int)) := by omega
    have k5 : (((others c A).length : Int) == (A.length : Int) - 1) = true := by simp; omega
    have k6 : ¬ untilU c A < now + 10 := by omega
    have hnA : A.length ≤ 8796093022208 := by omega
    clear hAlen
    go_enter Try.func10, Try.ntmps10
    go_wp2_with (fail)
    refine hex.mono ?_
    rintro e w1 ⟨rfl, hB1⟩
    go_wp2_with (fail)
    refine (Hren.out _ hB1).mono ?_
    rintro e w2 ⟨v2, rfl, hO2, hb2⟩
    have hB2 := hB1.trans (hb2.mono hB1.size)
    have hA2 := Rd.of_own encL_len hO2.own
    obtain ⟨a2, c2, rfl, _, _, _⟩ := rd_cells hA2
    clear hO2
    go_wp2_with (fail)
    refine (until_calls w2 _ A c hA2 hnA).mono ?_
    rw [HAU.out]
    rintro e w3 ⟨rfl, hb3⟩
    have hB3 := hB2.trans (hb3.mono hB2.size)
    have hA3 := hA2.below hb3 (Nat.le_refl _)
    go_wp2_with (fail)
    refine (right_calls w3 _ A hA3 hnA).mono ?_
    rw [HAR.out]
    rintro e w4 ⟨rfl, hb4⟩
    have hB4 := hB3.trans (hb4.mono hB3.size)
    have hA4 := hA3.below hb4 (Nat.le_refl _)
    go_wp2_with (fail)
    refine (renew_calls w4 _ A o t hA4 hnA).mono ?_
    rw [renR]
    rcases Classical.em (renOk o t A = true) with hOt | hOt
    focus
      rw [if_pos hOt, if_pos hOt]
      have hq := Hot.out hOt
      have hqR := ren_right hOt
      have hq4 := right_len hqR
      generalize renQ o t A = Q at *
      have k7 : ¬ untilU c Q < untilU c A := by omega
      have HqB := Lib.hid hq.2
      clear hq hqR
      rintro e w5 ⟨v5, rfl, hO5, hb5⟩
      have hB5 := hB4.trans (hb5.mono hB4.size)
      have hA5 := hA4.below hb5 (Nat.le_refl _)
      go_wp2_with (fail)
      refine (until_calls w5 _ Q c (Rd.of_own encL_len hO5.own) (by omega)).mono ?_
      rw [HqB.out]
      rintro e w6 ⟨rfl, hb6⟩
      have hB6 := hB5.trans (hb6.mono hB5.size)
      have hA6 := hA5.below hb6 (Nat.le_refl _)
      clear hO5
      go_wp2_with (fail)
    rotate_left
    focus
      rw [if_neg hOt, if_neg hOt]
      rintro e w6 ⟨v5, rfl, _, hb6⟩
      have hB6 := hB4.trans (hb6.mono hB4.size)
      have hA6 := hA4.below hb6 (Nat.le_refl _)
      go_wp2_with (fail)
    all_goals
      refine (late_calls w6 _ A (now + 10) hA6 hnA).mono ?_
      rw [if_pos HAR.out]
      have hla : lateR (now + 10) A = lateL (now + 10) A := if_pos HAR.out
      have hll := late_len (now + 10) A
      have hnl := Hl.out
      rw [hla]
      clear hla
      generalize lateL (now + 10) A = q at *
      rintro e w7 ⟨v7, rfl, hO7, hb7⟩
      have hB7 := hB6.trans (hb7.mono hB6.size)
      have hA7 := hA6.below hb7 (Nat.le_refl _)
      obtain ⟨a7, c7, rfl, _, hcell⟩ := rd_cellsI (Rd.of_own encI_len hO7.own)
      have Hcell := Lib.hid hcell; have Hnl := Lib.hid hnl; clear hcell hO7 hnl
      go_wp2_with (fail)
      go_loopw [22] (fun vk wr => ∃ k : Nat, vk = .int .i64 k ∧ k ≤ q.length ∧ Below w7.heap.size w7 wr) (fun vk _ => q.length - (intOf vk).toNat)
      case atStart => exact ⟨0, rfl, Nat.zero_le _, Below.refl _ _⟩
      case round =>
        obtain ⟨k, rfl, hk, hb⟩ := hrel
        by_cases hlt : k < q.length
        · obtain ⟨x, hx⟩ : ∃ x, q[k]? = some x := ⟨q[k], by simp [hlt]⟩
          obtain ⟨b, off, rfl, hbl, c0⟩ := Hcell.out wr hb k x hx
          have hxc : (x == c) = false := by simpa using Hnl.out x (List.mem_of_getElem? hx)
          have Hx := Lib.hid hx; clear hx
          go_wp2_with (fail)
          go_roundw
          case rel => exact ⟨k + 1, by go_num, by omega, hb⟩
          case measure => simp [intOf]; omega
        · obtain rfl : k = q.length := by omega
          have hB8 := hB7.trans (hb.mono hB7.size)
          have hA8 := hA7.below hb (Nat.le_refl _)
          go_wp2_with (fail)
          refine (drop_calls wr _ A c hA8 hnA).mono ?_
          rw [if_pos HAR.out]
          have hdr : dropR c A = others c A := if_pos HAR.out
          rw [hdr]
          clear hdr
          have hD4 := right_len HDR.out
          generalize others c A = D at *
          rintro e w9 ⟨v9, rfl, hO9, hb9⟩
          have hB9 := hB8.trans (hb9.mono hB8.size)
          have hD9 := Rd.of_own encL_len hO9.own
          obtain ⟨a9, c9, rfl, _, _, _⟩ := rd_cells hD9
          clear hO9
          go_wp2_with (fail)
          refine (until_calls w9 _ D c hD9 (by omega)).mono ?_
          rw [HDg.out]
          rintro e w10 ⟨rfl, hb10⟩
          have hB10 := hB9.trans (hb10.mono hB9.size)
          have hD10 := hD9.below hb10 (Nat.le_refl _)
          go_wp2_with (fail)
          refine (right_calls w10 _ D hD10 (by omega)).mono ?_
          rw [HDR.out]
          rintro e w11 ⟨rfl, hb11⟩
          have hB11 := hB10.trans (hb11.mono hB10.size)
          go_wp2_with (fail)
          go_ret
          exact ⟨rfl, hB11⟩
  · rw [if_neg hK, if_neg hK] at hren
    clear hK
    go_enter Try.func10, Try.ntmps10
    go_wp2_with (fail)
    refine hex.mono ?_
    rintro e w1 ⟨rfl, hB1⟩
    go_wp2_with (fail)
    refine (hren _ hB1).mono ?_
    rintro e w2 ⟨v2, rfl, hO2, hb2⟩
    have hB2 := hB1.trans (hb2.mono hB1.size)
    obtain ⟨a2, c2, rfl, _, _, _⟩ := rd_cells (Rd.of_own encL_len hO2.own)
    go_wp2_with (fail)
    go_ret
    exact ⟨rfl, hB2⟩
end Go.Proofs.Ytdkebkalcelgpaa.Lease
