/- Quotas: the chapter's tree, its examples. -/
import Derived.Test.YtbgeiebfjlgcmaaDoorQf
namespace Go.Proofs.YtbgeiebfjlgcmaaDoor.Quota
open Go.RowKit
open Path (Bs bs mk bs_mk mk_bs tl_bs splitE splitL MaxC parD parE parN underL under_iff under_anti OwnS encS rd_cellsS)
open Tree
set_option linter.unusedSimpArgs false
set_option linter.unusedVariables false

set_option maxHeartbeats 2000000 in
theorem texts_calls (w : World) (u v : Value) (l : List ByteArray) (ha : Rd w 1 encS u l) (hb : Rd w 1 encS v l) (hn : l.length ≤ 8796093022208) :
    Calls Tryd.prog 24 #[u, v] w fun e w' => e = .returned (.bool true) ∧ Below w.heap.size w w' := by
  obtain ⟨ao, ca, rfl, _, _, hca⟩ := rd_cellsS ha
  obtain ⟨bo, cb, rfl, _, _, hcb⟩ := rd_cellsS hb
  clear ha hb
  have hll : ((l.length : Int) != (l.length : Int)) = false := by simp
  have Hca := Lib.hid hca; have Hcb := Lib.hid hcb; clear hca hcb
  go_enter Tryd.func24, Tryd.ntmps24
  go_wp2_with (fail)
  go_loopw [5] (fun vk wr => ∃ k : Nat, k ≤ l.length ∧ vk = .int .i64 k ∧ Below w.heap.size w wr) (fun vk _ => l.length - (intOf vk).toNat)
  case atStart => exact ⟨0, Nat.zero_le _, rfl, Below.refl _ _⟩
  case round =>
    obtain ⟨k, hk, rfl, hbr⟩ := hrel
    by_cases hlt : k < l.length
    · obtain ⟨x, hx⟩ : ∃ x, l[k]? = some x := ⟨l[k], by simp [hlt]⟩
      obtain ⟨bx, ox, rfl, _, c0⟩ := Hca.out wr hbr k x hx
      obtain ⟨by', oy, rfl, _, d0⟩ := Hcb.out wr hbr k x hx
      have hxx : (x.toList == x.toList) = true := by simp
      clear hx
      go_wp2_with (fail)
      go_quiet (fail)
      go_wp2_with (fail)
      go_roundw
      case rel => exact ⟨k + 1, by omega, by go_num, ⟨hbr.os, hbr.tape, hbr.output, hbr.size, hbr.block⟩⟩
      case measure => simp [intOf]; omega
    · obtain rfl : k = l.length := by omega
      go_wp2_with (fail)
      go_ret
      exact ⟨rfl, hbr⟩

def baseL : List Nd := [⟨⟨#[47]⟩, true, -1, [], .slice none 0 0, -1⟩, ⟨⟨#[47, 97]⟩, true, 3, [], .slice none 0 0, -1⟩, ⟨⟨#[47, 97, 47, 120]⟩, false, -1, [], .slice none 0 0, -1⟩]
theorem rdB_nil (w : World) : Rd w 3 encB (.slice none 0 0) [] := ⟨_, _, rfl, Nat.le_refl _, Nat.zero_le _, fun i x hx => by cases hx⟩
theorem base_rd {w : World} {B : Nat} (h : w.heap[B]? = some (.cells #[.string ⟨#[47]⟩, .bool true, .int .i64 (-1), .slice none 0 0, .int .i64 (-1), .string ⟨#[47, 97]⟩, .bool true, .int .i64 3, .slice none 0 0, .int .i64 (-1), .string ⟨#[47, 97, 47, 120]⟩, .bool false, .int .i64 (-1), .slice none 0 0, .int .i64 (-1)] 45 (0, 0))) :
    RdN w (.slice (some ⟨B, 0, none⟩) 3 3) baseL := by
  refine ⟨⟨_, _, rfl, Nat.le_refl _, by decide, fun i x hx => ⟨B, 0, rfl, lt_of_block h, fun j u hu => ?_⟩⟩, fun x hx => ?_⟩
  · rw [cell_of_blk h]
    rcases i with _ | _ | _ | i
    all_goals simp only [baseL, List.getElem?_cons_zero, List.getElem?_cons_succ, Option.some.injEq, List.getElem?_nil, reduceCtorEq, Nat.zero_add, Nat.reduceAdd, Nat.reduceMul] at hx
    all_goals
      subst hx
      rcases j with _ | _ | _ | _ | _ | j
      all_goals first | (simp [encN] at hu; done) | (simpa [encN] using hu)
  · simp only [baseL, List.mem_cons, List.not_mem_nil, or_false] at hx
    rcases hx with rfl | rfl | rfl <;> exact rdB_nil w
theorem base_calls (w : World) : Calls Tryd.prog 44 #[] w fun e w' => ∃ v, e = .returned v ∧ RdN w' v baseL ∧ Below w.heap.size w w' := by
  go_enter Tryd.func44, Tryd.ntmps44
  go_wp2_with (fail)
  go_ret
  exact ⟨_, rfl, base_rd (heap_alloc_new w _), (Below.refl _ _).alloc (Nat.le_refl _) _⟩
theorem ex_facts : cntT baseL (bs ⟨#[47, 97]⟩) = 2 ∧ cntT baseL (bs ⟨#[47]⟩) = 3 ∧ roomT baseL (bs ⟨#[47, 97]⟩) = 1 ∧ roomT baseL (bs ⟨#[47]⟩) = 57 ∧ (overL baseL).length = 0 := by decide +kernel

set_option maxHeartbeats 4000000 in
theorem ex_calls (w : World) (hM : MaxC w) : Calls Tryd.prog 23 #[] w fun e w' => e = .returned (.bool true) ∧ Below w.heap.size w w' := by
  have h0 := base_calls
  have h1 : ∀ W, Below w.heap.size w W → ∀ v, RdN W v baseL → Calls Tryd.prog 27 #[v, .string ⟨#[47, 97]⟩] W fun e w' => e = .returned (.int .i64 2) ∧ Below W.heap.size W w' := fun W hW v hv => by
    have := count_calls W v baseL ⟨#[47, 97]⟩ hv (by decide) (hM.below hW) (by decide)
    rwa [ex_facts.1] at this
  have h2 : ∀ W, Below w.heap.size w W → ∀ v, RdN W v baseL → Calls Tryd.prog 29 #[v, .string ⟨#[47, 97]⟩] W fun e w' => e = .returned (.int .i64 1) ∧ Below W.heap.size W w' := fun W hW v hv => by
    have := room_calls W v baseL ⟨#[47, 97]⟩ hv (by decide) (hM.below hW)
    rwa [ex_facts.2.2.1] at this
  have h3 : ∀ W, Below w.heap.size w W → ∀ v, RdN W v baseL → Calls Tryd.prog 27 #[v, .string ⟨#[47]⟩] W fun e w' => e = .returned (.int .i64 3) ∧ Below W.heap.size W w' := fun W hW v hv => by
    have := count_calls W v baseL ⟨#[47]⟩ hv (by decide) (hM.below hW) (by decide)
    rwa [ex_facts.2.1] at this
  have h4 : ∀ W, Below w.heap.size w W → ∀ v, RdN W v baseL → Calls Tryd.prog 29 #[v, .string ⟨#[47]⟩] W fun e w' => e = .returned (.int .i64 57) ∧ Below W.heap.size W w' := fun W hW v hv => by
    have := room_calls W v baseL ⟨#[47]⟩ hv (by decide) (hM.below hW)
    rwa [ex_facts.2.2.2.1] at this
  have h5 : ∀ W, Below w.heap.size w W → ∀ v, RdN W v baseL → _ := fun W hW v hv => over_calls W v baseL hv (by decide) (hM.below hW)
  have H1 := Lib.hid h1; have H2 := Lib.hid h2; have H3 := Lib.hid h3; have H4 := Lib.hid h4; have H5 := Lib.hid h5
  have H0 := Lib.hid h0
  clear h1 h2 h3 h4 h5 hM h0
  go_enter Tryd.func23, Tryd.ntmps23
  go_wp2_with (fail)
  refine (H0.out _).mono ?_
  rintro e w1 ⟨v1, rfl, hr1, hB1⟩
  go_wp2_with (fail)
  refine (H1.out _ hB1 _ hr1).mono ?_
  rintro e w2 ⟨rfl, hb2⟩
  have hB2 := hB1.trans (hb2.mono hB1.size)
  clear hr1
  go_wp2_with (fail)
  refine (H0.out _).mono ?_
  rintro e w3 ⟨v3, rfl, hr3, hb3⟩
  have hB3 := hB2.trans (hb3.mono hB2.size)
  go_wp2_with (fail)
  refine (H2.out _ hB3 _ hr3).mono ?_
  rintro e w4 ⟨rfl, hb4⟩
  have hB4 := hB3.trans (hb4.mono hB3.size)
  clear hr3
  go_wp2_with (fail)
  refine (H0.out _).mono ?_
  rintro e w5 ⟨v5, rfl, hr5, hb5⟩
  have hB5 := hB4.trans (hb5.mono hB4.size)
  go_wp2_with (fail)
  refine (H3.out _ hB5 _ hr5).mono ?_
  rintro e w6 ⟨rfl, hb6⟩
  have hB6 := hB5.trans (hb6.mono hB5.size)
  clear hr5
  go_wp2_with (fail)
  refine (H0.out _).mono ?_
  rintro e w7 ⟨v7, rfl, hr7, hb7⟩
  have hB7 := hB6.trans (hb7.mono hB6.size)
  go_wp2_with (fail)
  refine (H4.out _ hB7 _ hr7).mono ?_
  rintro e w8 ⟨rfl, hb8⟩
  have hB8 := hB7.trans (hb8.mono hB7.size)
  clear hr7
  go_wp2_with (fail)
  refine (H0.out _).mono ?_
  rintro e w9 ⟨v9, rfl, hr9, hb9⟩
  have hB9 := hB8.trans (hb9.mono hB8.size)
  go_wp2_with (fail)
  refine (H5.out _ hB9 _ hr9).mono ?_
  rintro e w10 ⟨v10, rfl, hO, hb10⟩
  have hB10 := hB9.trans (hb10.mono hB9.size)
  obtain ⟨a10, c10, rfl, _, _, _⟩ := rd_cellsS hO.rd
  rw [ex_facts.2.2.2.2]
  clear hO hr9
  go_wp2_with (fail)
  go_ret
  exact ⟨rfl, hB10⟩
end Go.Proofs.YtbgeiebfjlgcmaaDoor.Quota
