/- Trees (chapter 7): the chapter's tree and examples. -/
import Derived.Test.YtpghaghmejgjbaaGreatDoorGc
namespace Go.Proofs.YtpghaghmejgjbaaGreatDoor.Tree
open Go.RowKit
open Path (Bs bs mk bs_mk mk_bs tl_bs splitE splitL MaxC rd_cellsS OwnS)
set_option linter.unusedSimpArgs false
set_option linter.unusedVariables false

def dirN (p : ByteArray) : Nd := ⟨p, true, -1, [], .slice none 0 0, -1⟩
def fileN (p : ByteArray) : Nd := ⟨p, false, -1, [], .slice none 0 0, -1⟩
theorem dirF_calls (w : World) (p : ByteArray) : Calls Tryz.prog 23 #[.string p] w fun e w' => e = .returned (.agg #[.string p, .bool true, .int .i64 (-1), .slice none 0 0, .int .i64 (-1)]) ∧ Below w.heap.size w w' := by
  go_enter Tryz.func23, Tryz.ntmps23
  go_wp2_with (fail)
  refine bodyPost_ret (results_cell_row rfl _ _ w.heap.size _ _ _ _ rfl (heap_alloc_new w _) Tryz.underlying25 rfl (by kernel_rfl)) rfl ⟨rfl, (Below.refl _ _).alloc (Nat.le_refl _) _⟩
theorem fileF_calls (w : World) (p : ByteArray) : Calls Tryz.prog 22 #[.string p] w fun e w' => e = .returned (.agg #[.string p, .bool false, .int .i64 (-1), .slice none 0 0, .int .i64 (-1)]) ∧ Below w.heap.size w w' := by
  go_enter Tryz.func22, Tryz.ntmps22
  go_wp2_with (fail)
  refine bodyPost_ret (results_cell_row rfl _ _ w.heap.size _ _ _ _ rfl (heap_alloc_new w _) Tryz.underlying25 rfl (by kernel_rfl)) rfl ⟨rfl, (Below.refl _ _).alloc (Nat.le_refl _) _⟩
theorem rdB_nil (w : World) : Rd w 3 encB (.slice none 0 0) [] := ⟨_, _, rfl, Nat.le_refl _, Nat.zero_le _, fun i x hx => by cases hx⟩
/-- A row of nodes without blocks, laid in a block of its own. -/
theorem lit_rd {w : World} {B n : Nat} {cs : Array Value} {l : List Nd} (h : w.heap[B]? = some (.cells cs 25 (0, 0))) (hl : l.length = n) (hm : n ≤ maxLen) (hc : cs.toList = flatN l) (hz : ∀ x ∈ l, x.bv = .slice none 0 0 ∧ x.blocks = []) : RdN w (.slice (some ⟨B, 0, none⟩) n n) l := by
  subst hl
  refine ⟨⟨_, _, rfl, Nat.le_refl _, hm, fun i x hx => ⟨B, 0, rfl, lt_of_block h, fun j u hu => ?_⟩⟩, fun x hx => ?_⟩
  · rw [cell_of_blk h]
    have hj := (List.getElem?_eq_some_iff.1 hu).1
    have h2 := flat_get encN 5 encN_len l i j _ hx (by simpa [encN_len] using hj)
    rw [← Array.getElem?_toList, hc, Nat.zero_add, flatN, h2, hu]
  · rw [(hz x hx).1, (hz x hx).2]; exact rdB_nil w
def baseL : List Nd := [dirN ⟨#[47]⟩, dirN ⟨#[47, 97]⟩, fileN ⟨#[47, 97, 47, 120]⟩, dirN ⟨#[47, 98]⟩]
def movedL : List Nd := [dirN ⟨#[47]⟩, dirN ⟨#[47, 98]⟩, dirN ⟨#[47, 98, 47, 99]⟩, fileN ⟨#[47, 98, 47, 99, 47, 120]⟩]
set_option maxHeartbeats 2000000 in
theorem base_calls (w : World) : Calls Tryz.prog 31 #[] w fun e w' => ∃ v, e = .returned v ∧ RdN w' v baseL ∧ Below w.heap.size w w' := by
  have hd := fun W p => dirF_calls W p
  have hf := fun W p => fileF_calls W p
  go_enter Tryz.func31, Tryz.ntmps31
  go_wp2_with (fail)
  refine (hd _ _).mono ?_
  rintro e w1 ⟨rfl, hb1⟩
  go_wp2_with (fail)
  refine (hd _ _).mono ?_
  rintro e w2 ⟨rfl, hb2⟩
  have hB2 := hb1.trans (hb2.mono hb1.size)
  go_wp2_with (fail)
  refine (hf _ _).mono ?_
  rintro e w3 ⟨rfl, hb3⟩
  have hB3 := hB2.trans (hb3.mono hB2.size)
  go_wp2_with (fail)
  refine (hd _ _).mono ?_
  rintro e w4 ⟨rfl, hb4⟩
  have hB4 := hB3.trans (hb4.mono hB3.size)
  go_wp2_with (fail)
  go_ret
  exact ⟨_, rfl, lit_rd (heap_alloc_new w4 _) rfl (by decide) rfl (fun x hx => by simp only [baseL, List.mem_cons, List.not_mem_nil, or_false] at hx; rcases hx with rfl | rfl | rfl | rfl <;> exact ⟨rfl, rfl⟩), hB4.alloc hB4.size _⟩
theorem ex_facts : listE baseL (bs ⟨#[47]⟩) = 0 ∧ (listN baseL (bs ⟨#[47]⟩)).map bs = [[97], [98]] ∧ addE baseL (fileN ⟨#[47, 97, 47, 120, 47, 121]⟩) = 7 ∧ mvE baseL (bs ⟨#[47, 97]⟩) (bs ⟨#[47, 97, 47, 98]⟩) = 1 ∧ mvE baseL (bs ⟨#[47, 97]⟩) (bs ⟨#[47, 98, 47, 99]⟩) = 0 ∧ rightT baseL = true := by decide +kernel
theorem ex_facts2 : mvL baseL (bs ⟨#[47, 97]⟩) (bs ⟨#[47, 98, 47, 99]⟩) = movedL := by kernel_rfl
theorem two_rd {w : World} {B : Nat} {t : TypeId} {a b : ByteArray} (h : w.heap[B]? = some (.cells #[.string a, .string b] t (0, 0))) : Rd w 1 Path.encS (.slice (some ⟨B, 0, none⟩) 2 2) [a, b] := by
  refine ⟨_, _, rfl, Nat.le_refl _, by decide, fun i x hx => ⟨B, 0, rfl, lt_of_block h, fun j u hu => ?_⟩⟩
  rw [cell_of_blk h]
  rcases i with _ | _ | i
  all_goals simp only [List.getElem?_cons_zero, List.getElem?_cons_succ, Option.some.injEq, List.getElem?_nil, reduceCtorEq, Nat.zero_add, Nat.reduceAdd, Nat.reduceMul] at hx
  all_goals
    subst hx
    rcases j with _ | j
    all_goals first | (simp [Path.encS] at hu; done) | (simpa [Path.encS] using hu)
set_option maxHeartbeats 8000000 in
theorem ex_calls (w : World) (hM : MaxC w) : Calls Tryz.prog 9 #[] w fun e w' => e = .returned (.bool true) ∧ Below w.heap.size w w' := by
  have h0 := base_calls
  have hd := fun W p => dirF_calls W p
  have hf := fun W p => fileF_calls W p
  obtain ⟨x1, x2, x3, x4, x5, x6⟩ := ex_facts
  have x2' : listN baseL (bs ⟨#[47]⟩) = [⟨#[97]⟩, ⟨#[98]⟩] := by
    have := congrArg (fun q => q.map mk) x2
    simp only [List.map_map] at this
    rw [show (mk ∘ bs : ByteArray → ByteArray) = id from funext fun b => mk_bs b, List.map_id] at this
    exact this
  have h1 : ∀ W, Below w.heap.size w W → ∀ v, RdN W v baseL → Calls Tryz.prog 10 #[v, .string ⟨#[47]⟩] W fun e w' => (∃ v', e = .returned (.tuple #[v', .int .i64 0]) ∧ Rd w' 1 Path.encS v' [⟨#[97]⟩, ⟨#[98]⟩]) ∧ Below W.heap.size W w' := fun W hW v hv => by
    refine (list_calls W v baseL ⟨#[47]⟩ hv (by decide) (hM.below hW)).mono ?_
    rintro e w' ⟨⟨v', rfl, hO⟩, hb⟩
    rw [x1]
    rw [x2'] at hO
    exact ⟨⟨v', rfl, hO.rd⟩, hb⟩
  have h2 : ∀ W, Below w.heap.size w W → ∀ v, RdN W v baseL → Calls Tryz.prog 21 #[v, .agg #[.string ⟨#[47, 97, 47, 120, 47, 121]⟩, .bool false, .int .i64 (-1), .slice none 0 0, .int .i64 (-1)]] W fun e w' => (∃ v', e = .returned (.tuple #[v', .int .i64 7])) ∧ Below W.heap.size W w' := fun W hW v hv => by
    have := add_calls W v baseL (fileN ⟨#[47, 97, 47, 120, 47, 121]⟩) hv (rdB_nil W) (by decide) (hM.below hW)
    rw [x3] at this
    refine this.mono ?_
    rintro e w' ⟨⟨v', q, rfl, _⟩, hb⟩
    exact ⟨⟨v', rfl⟩, hb⟩
  have h3 : ∀ W, Below w.heap.size w W → ∀ v, RdN W v baseL → Calls Tryz.prog 19 #[v, .string ⟨#[47, 97]⟩, .string ⟨#[47, 97, 47, 98]⟩] W fun e w' => (∃ v', e = .returned (.tuple #[v', .int .i64 1])) ∧ Below W.heap.size W w' := fun W hW v hv => by
    have := move_callsT W v baseL ⟨#[47, 97]⟩ ⟨#[47, 97, 47, 98]⟩ hv (by decide) (hM.below hW)
    rw [x4] at this
    refine this.mono ?_
    rintro e w' ⟨⟨v', q, rfl, _⟩, hb⟩
    exact ⟨⟨v', rfl⟩, hb⟩
  have h4 : ∀ W, Below w.heap.size w W → ∀ v, RdN W v baseL → Calls Tryz.prog 19 #[v, .string ⟨#[47, 97]⟩, .string ⟨#[47, 98, 47, 99]⟩] W fun e w' => (∃ v' q, e = .returned (.tuple #[v', .int .i64 0]) ∧ RdN w' v' q ∧ q.map pur = movedL.map pur) ∧ Below W.heap.size W w' := fun W hW v hv => by
    have := move_callsT W v baseL ⟨#[47, 97]⟩ ⟨#[47, 98, 47, 99]⟩ hv (by decide) (hM.below hW)
    rw [x5, ex_facts2] at this
    refine this.mono ?_
    rintro e w' ⟨⟨v', q, rfl, hO, hq⟩, hb⟩
    exact ⟨⟨v', q, rfl, hO.rd, by rw [hq]; rfl⟩, hb⟩
  have h5 : ∀ W, Below w.heap.size w W → ∀ v, RdN W v baseL → Calls Tryz.prog 15 #[v] W fun e w' => e = .returned (.bool true) ∧ Below W.heap.size W w' := fun W hW v hv => by
    have := right_calls W v baseL hv (by decide) (hM.below hW)
    rwa [x6] at this
  clear x1 x2 x2' x3 x4 x5 x6 hM
  have H1 := Lib.hid h1; have H2 := Lib.hid h2; have H3 := Lib.hid h3; have H4 := Lib.hid h4; have H5 := Lib.hid h5
  clear h1 h2 h3 h4 h5
  go_enter Tryz.func9, Tryz.ntmps9
  go_wp2_with (fail)
  refine (h0 _).mono ?_
  rintro e w1 ⟨v1, rfl, r1, b1⟩
  go_wp2_with (fail)
  refine (H1.out _ b1 _ r1).mono ?_
  rintro e w2 ⟨⟨v2, rfl, r2⟩, b2⟩
  have B2 := b1.trans (b2.mono b1.size)
  go_wp2_with (fail)
  refine (h0 _).mono ?_
  rintro e w3 ⟨v3, rfl, r3, b3⟩
  have B3 := B2.trans (b3.mono B2.size)
  have C3 := b3
  go_wp2_with (fail)
  refine (hf _ _).mono ?_
  rintro e w4 ⟨rfl, b4⟩
  have B4 := B3.trans (b4.mono B3.size)
  have C4 := C3.trans (b4.mono C3.size)
  go_wp2_with (fail)
  refine (H2.out _ B4 _ (r3.below b4)).mono ?_
  rintro e w5 ⟨⟨v5, rfl⟩, b5⟩
  have B5 := B4.trans (b5.mono B4.size)
  have C5 := C4.trans (b5.mono C4.size)
  go_wp2_with (fail)
  refine (h0 _).mono ?_
  rintro e w6 ⟨v6, rfl, r6, b6⟩
  have B6 := B5.trans (b6.mono B5.size)
  have C6 := C5.trans (b6.mono C5.size)
  go_wp2_with (fail)
  refine (H3.out _ B6 _ r6).mono ?_
  rintro e w7 ⟨⟨v7, rfl⟩, b7⟩
  have B7 := B6.trans (b7.mono B6.size)
  have C7 := C6.trans (b7.mono C6.size)
  go_wp2_with (fail)
  refine (h0 _).mono ?_
  rintro e w8 ⟨v8, rfl, r8, b8⟩
  have B8 := B7.trans (b8.mono B7.size)
  have C8 := C7.trans (b8.mono C7.size)
  go_wp2_with (fail)
  refine (H4.out _ B8 _ r8).mono ?_
  rintro e w9 ⟨⟨v9, q9, rfl, r9, e9⟩, b9⟩
  have B9 := B8.trans (b9.mono B8.size)
  have C9 := C8.trans (b9.mono C8.size)
  have E9 := Lib.hid e9; clear e9
  have ht := textsT_calls (w9.alloc (.cells #[.string ⟨#[97]⟩, .string ⟨#[98]⟩] 9 (0, 0))) v2 _ [⟨#[97]⟩, ⟨#[98]⟩] (r2.below (C9.alloc C9.size _) (Nat.le_refl _)) (two_rd (heap_alloc_new w9 _)) (by decide)
  go_wp2_with (fail)
  refine ht.mono ?_
  rintro e w10 ⟨rfl, b10⟩
  have D10 : Below w9.heap.size w9 w10 := ((Below.refl _ _).alloc (Nat.le_refl _) _).trans (b10.mono (by simp))
  have B10 := B9.trans (D10.mono B9.size)
  go_wp2_with (fail)
  refine (hd _ _).mono ?_
  rintro e w11 ⟨rfl, b11⟩
  have D11 := D10.trans (b11.mono D10.size)
  go_wp2_with (fail)
  refine (hd _ _).mono ?_
  rintro e w12 ⟨rfl, b12⟩
  have D12 := D11.trans (b12.mono D11.size)
  go_wp2_with (fail)
  refine (hd _ _).mono ?_
  rintro e w13 ⟨rfl, b13⟩
  have D13 := D12.trans (b13.mono D12.size)
  go_wp2_with (fail)
  refine (hf _ _).mono ?_
  rintro e w14 ⟨rfl, b14⟩
  have D14 := D13.trans (b14.mono D13.size)
  have hlit : RdN (w14.alloc (.cells #[.string ⟨#[47]⟩, .bool true, .int .i64 (-1), .slice none 0 0, .int .i64 (-1), .string ⟨#[47, 98]⟩, .bool true, .int .i64 (-1), .slice none 0 0, .int .i64 (-1), .string ⟨#[47, 98, 47, 99]⟩, .bool true, .int .i64 (-1), .slice none 0 0, .int .i64 (-1), .string ⟨#[47, 98, 47, 99, 47, 120]⟩, .bool false, .int .i64 (-1), .slice none 0 0, .int .i64 (-1)] 25 (0, 0))) (.slice (some ⟨w14.heap.size, 0, none⟩) 4 4) movedL := lit_rd (heap_alloc_new w14 _) rfl (by decide) rfl (fun x hx => by simp only [movedL, List.mem_cons, List.not_mem_nil, or_false] at hx; rcases hx with rfl | rfl | rfl | rfl <;> exact ⟨rfl, rfl⟩)
  have hns := nodesT_calls (w14.alloc (.cells #[.string ⟨#[47]⟩, .bool true, .int .i64 (-1), .slice none 0 0, .int .i64 (-1), .string ⟨#[47, 98]⟩, .bool true, .int .i64 (-1), .slice none 0 0, .int .i64 (-1), .string ⟨#[47, 98, 47, 99]⟩, .bool true, .int .i64 (-1), .slice none 0 0, .int .i64 (-1), .string ⟨#[47, 98, 47, 99, 47, 120]⟩, .bool false, .int .i64 (-1), .slice none 0 0, .int .i64 (-1)] 25 (0, 0))) v9 _ q9 movedL E9.out (r9.below (D14.alloc D14.size _)) hlit (by have := congrArg List.length E9.out; simp [movedL] at this; omega) (fun x hx => by
    have hx2 : pur x ∈ movedL.map pur := by rw [← E9.out]; exact List.mem_map_of_mem hx
    simp only [movedL, List.map_cons, List.map_nil, List.mem_cons, List.not_mem_nil, or_false] at hx2
    have h0 : (pur x).blocks.length = 0 := by rcases hx2 with h | h | h | h <;> rw [h] <;> rfl
    have h1 : (pur x).blocks = x.blocks := rfl
    rw [h1] at h0
    omega)
  have D15 : Below w9.heap.size w9 (w14.alloc (.cells #[.string ⟨#[47]⟩, .bool true, .int .i64 (-1), .slice none 0 0, .int .i64 (-1), .string ⟨#[47, 98]⟩, .bool true, .int .i64 (-1), .slice none 0 0, .int .i64 (-1), .string ⟨#[47, 98, 47, 99]⟩, .bool true, .int .i64 (-1), .slice none 0 0, .int .i64 (-1), .string ⟨#[47, 98, 47, 99, 47, 120]⟩, .bool false, .int .i64 (-1), .slice none 0 0, .int .i64 (-1)] 25 (0, 0))) := D14.alloc D14.size _
  clear hlit ht
  go_wp2_with (fail)
  refine hns.mono ?_
  rintro e w16 ⟨rfl, b16⟩
  have D16 := D15.trans (b16.mono D15.size)
  have B16 := B9.trans (D16.mono B9.size)
  go_wp2_with (fail)
  refine (h0 _).mono ?_
  rintro e w17 ⟨v17, rfl, r17, b17⟩
  have B17 := B16.trans (b17.mono B16.size)
  go_wp2_with (fail)
  refine (H5.out _ B17 _ r17).mono ?_
  rintro e w18 ⟨rfl, b18⟩
  go_wp2_with (fail)
  go_ret
  exact ⟨rfl, B17.trans (b18.mono B17.size)⟩
end Go.Proofs.YtpghaghmejgjbaaGreatDoor.Tree
