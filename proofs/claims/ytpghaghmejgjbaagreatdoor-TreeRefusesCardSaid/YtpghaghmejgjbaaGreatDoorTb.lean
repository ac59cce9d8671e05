/- Trees: tree.Fits. -/
import Derived.Test.YtpghaghmejgjbaaGreatDoorTa
import Derived.Laws.EntriesVeiled
namespace Go.Proofs.YtpghaghmejgjbaaGreatDoor.Tree
open Go.RowKit
open Path (Bs bs mk bs_mk mk_bs tl_bs splitE splitL MaxC)
set_option linter.unusedSimpArgs false
set_option linter.unusedVariables false

/-- Which way a node goes. -/
theorem fits_ways (x : Nd) :
    ((splitE (bs x.path) != 0) = true ∧ fitsN x = false) ∨
    (splitE (bs x.path) = 0 ∧ x.quota < -1 ∧ fitsN x = false) ∨
    (splitE (bs x.path) = 0 ∧ ¬ x.quota < -1 ∧ x.writer < -1 ∧ fitsN x = false) ∨
    (splitE (bs x.path) = 0 ∧ ¬ x.quota < -1 ∧ ¬ x.writer < -1 ∧ x.dir = true ∧ ((x.blocks.length : Int) == 0) = false ∧ fitsN x = false) ∨
    (splitE (bs x.path) = 0 ∧ ¬ x.quota < -1 ∧ ¬ x.writer < -1 ∧ x.dir = true ∧ ((x.blocks.length : Int) == 0) = true ∧ (x.writer == -1) = false ∧ fitsN x = false) ∨
    (splitE (bs x.path) = 0 ∧ ¬ x.quota < -1 ∧ ¬ x.writer < -1 ∧ x.dir = true ∧ ((x.blocks.length : Int) == 0) = true ∧ (x.writer == -1) = true ∧ fitsN x = decide (x.quota ≤ 9007199254740991)) ∨
    (splitE (bs x.path) = 0 ∧ ¬ x.quota < -1 ∧ ¬ x.writer < -1 ∧ x.dir = false ∧ (x.path.toList == [47]) = true ∧ fitsN x = false) ∨
    (splitE (bs x.path) = 0 ∧ ¬ x.quota < -1 ∧ ¬ x.writer < -1 ∧ x.dir = false ∧ (x.path.toList == [47]) = false ∧ (x.quota == -1) = false ∧ fitsN x = false) ∨
    (splitE (bs x.path) = 0 ∧ ¬ x.quota < -1 ∧ ¬ x.writer < -1 ∧ x.dir = false ∧ (x.path.toList == [47]) = false ∧ (x.quota == -1) = true ∧ ¬ x.writer < 4 ∧ fitsN x = false) ∨
    (splitE (bs x.path) = 0 ∧ ¬ x.quota < -1 ∧ ¬ x.writer < -1 ∧ x.dir = false ∧ (x.path.toList == [47]) = false ∧ (x.quota == -1) = true ∧ x.writer < 4 ∧ ¬ (x.blocks.length : Int) ≤ 8 ∧ fitsN x = false) ∨
    (splitE (bs x.path) = 0 ∧ ¬ x.quota < -1 ∧ ¬ x.writer < -1 ∧ x.dir = false ∧ (x.path.toList == [47]) = false ∧ (x.quota == -1) = true ∧ x.writer < 4 ∧ (x.blocks.length : Int) ≤ 8 ∧ fitsN x = !(x.blocks.any badB)) := by
  rw [tl_bs]
  by_cases h1 : splitE (bs x.path) = 0
  · by_cases h2 : x.quota < -1
    · exact .inr (.inl ⟨h1, h2, by rw [fitsN, decide_eq_false (by omega : ¬ -1 ≤ x.quota)]; simp⟩)
    · by_cases h3 : x.writer < -1
      · exact .inr (.inr (.inl ⟨h1, h2, h3, by rw [fitsN, decide_eq_false (by omega : ¬ -1 ≤ x.writer)]; simp⟩))
      · have hf : fitsN x = (if x.dir = true then decide (x.blocks.length = 0) && decide (x.writer = -1) && decide (x.quota ≤ 9007199254740991) else !(bs x.path == [47]) && decide (x.quota = -1) && decide (x.writer < 4) && decide (x.blocks.length ≤ 8) && x.blocks.all okBl) := by
          rw [fitsN, decide_eq_true h1, decide_eq_true (by omega : -1 ≤ x.quota), decide_eq_true (by omega : -1 ≤ x.writer)]; rfl
        rw [hf]
        cases hd : x.dir
        · rw [if_neg (by simp)]
          cases h4 : (bs x.path == [47])
          · by_cases h5 : x.quota = -1
            · by_cases h6 : x.writer < 4
              · by_cases h7 : (x.blocks.length : Int) ≤ 8
                · refine .inr (.inr (.inr (.inr (.inr (.inr (.inr (.inr (.inr (.inr ⟨h1, h2, h3, rfl, rfl, beq_iff_eq.2 h5, h6, h7, ?_⟩)))))))))
                  rw [decide_eq_true h5, decide_eq_true h6, decide_eq_true (by omega : x.blocks.length ≤ 8)]
                  simp only [Bool.not_false, Bool.and_true, Bool.true_and]
                  rw [List.all_eq_not_any_not]
                  rfl
                · exact .inr (.inr (.inr (.inr (.inr (.inr (.inr (.inr (.inr (.inl ⟨h1, h2, h3, rfl, rfl, beq_iff_eq.2 h5, h6, h7, by rw [decide_eq_false (by omega : ¬ x.blocks.length ≤ 8)]; simp⟩)))))))))
              · exact .inr (.inr (.inr (.inr (.inr (.inr (.inr (.inr (.inl ⟨h1, h2, h3, rfl, rfl, beq_iff_eq.2 h5, h6, by rw [decide_eq_false h6]; simp⟩))))))))
            · exact .inr (.inr (.inr (.inr (.inr (.inr (.inr (.inl ⟨h1, h2, h3, rfl, rfl, beq_false_of_ne h5, by rw [decide_eq_false h5]; simp⟩)))))))
          · exact .inr (.inr (.inr (.inr (.inr (.inr (.inl ⟨h1, h2, h3, rfl, rfl, by simp⟩))))))
        · rw [if_pos rfl]
          by_cases h4 : x.blocks.length = 0
          · by_cases h5 : x.writer = -1
            · exact .inr (.inr (.inr (.inr (.inr (.inl ⟨h1, h2, h3, rfl, beq_iff_eq.2 (by omega), beq_iff_eq.2 h5, by rw [decide_eq_true h4, decide_eq_true h5]; rfl⟩)))))
            · exact .inr (.inr (.inr (.inr (.inl ⟨h1, h2, h3, rfl, beq_iff_eq.2 (by omega), beq_false_of_ne h5, by rw [decide_eq_false h5]; simp⟩))))
          · exact .inr (.inr (.inr (.inl ⟨h1, h2, h3, rfl, beq_false_of_ne (by omega), by rw [decide_eq_false h4]; simp⟩)))
  · exact .inl ⟨bne_iff_ne.2 h1, by rw [fitsN, decide_eq_false h1]; rfl⟩

set_option maxRecDepth 4000 in
set_option maxHeartbeats 8000000 in
theorem fits_calls (w : World) (x : Nd) (hB : Rd w 3 encB x.bv x.blocks) (hM : MaxC w) :
    Calls Tryz.prog 13 #[.agg #[.string x.path, .bool x.dir, .int .i64 x.quota, x.bv, .int .i64 x.writer]] w fun e w' => e = .returned (.bool (fitsN x)) ∧ Below w.heap.size w w' := by
  have h1 := fun W (hW : Below w.heap.size w W) => Path.split_calls W x.path (hM.below hW)
  have hbl := fun W (hW : Below w.heap.size w W) => hB.below hW (Nat.le_refl _)
  have ways := fits_ways x
  obtain ⟨ao, cap, hbv, hcap, _, _⟩ := rd_cellsB hB
  rw [hbv] at hbl ⊢
  generalize fitsN x = r at *
  generalize splitE (bs x.path) = E at *
  generalize splitL (bs x.path) = L at *
  generalize x.path = P at *
  generalize x.dir = D at *
  generalize x.quota = Q at *
  generalize x.writer = Wr at *
  generalize x.blocks = B at *
  clear hB hbv hM
  have H1 := Lib.hid h1; have Hbl := Lib.hid hbl; clear h1 hbl
  have hb0 : Below w.heap.size w (w.alloc (.cells #[.string P, .bool D, .int .i64 Q, .slice ao B.length cap, .int .i64 Wr] 25)) := (Below.refl _ _).alloc (Nat.le_refl _) _
  have Hb0 := Lib.hid hb0; clear hb0
  rcases ways with ⟨c1, rfl⟩ | ⟨rfl, c2, rfl⟩ | ⟨rfl, c2, c3, rfl⟩ | ⟨rfl, c2, c3, rfl, c4, rfl⟩ | ⟨rfl, c2, c3, rfl, c4, c5, rfl⟩ | ⟨rfl, c2, c3, rfl, c4, c5, rfl⟩ | ⟨rfl, c2, c3, rfl, c4, rfl⟩ | ⟨rfl, c2, c3, rfl, c4, c5, rfl⟩ | ⟨rfl, c2, c3, rfl, c4, c5, c6, rfl⟩ | ⟨rfl, c2, c3, rfl, c4, c5, c6, c7, rfl⟩ | ⟨rfl, c2, c3, rfl, c4, c5, c6, c7, rfl⟩
  all_goals
    go_enter Tryz.func13, Tryz.ntmps13
    go_wp2_with (fail)
    refine (H1.out _ Hb0.out).mono ?_
    rintro e w1 ⟨v1, rfl, _, hb1⟩
    have hk := (hb1.block w.heap.size (by simp)).trans (heap_alloc_new w _)
    have hB1 := Hb0.out.trans (hb1.mono Hb0.out.size)
    have hz1 := hB1.size
    have k0 := cell_of_blk (j := 0) hk
    have k1 := cell_of_blk (j := 1) hk
    have k2 := cell_of_blk (j := 2) hk
    have k3 := cell_of_blk (j := 3) hk
    have k4 := cell_of_blk (j := 4) hk
    simp only [List.getElem?_toArray, List.getElem?_cons_zero, List.getElem?_cons_succ] at k0 k1 k2 k3 k4
    have hlt1 := lt_of_block hk
    clear hk hb1
  rotate_right
  focus
    have c4' : (P.toList != [47]) = true := by rw [bne, c4]; rfl
    have hh := hasb_calls (w1.alloc (.cells #[.func (.func 39) #[] #[]] 63)) w1.heap.size (.slice ao B.length cap) B (heap_alloc_new w1 _) (Hbl.out _ (hB1.alloc hz1 _)) (by omega)
    have hB2 := hB1.alloc hz1 (.cells #[.func (.func 39) #[] #[]] 63)
    have hz2 := hB2.size
    go_wp2_with (fail)
    refine hh.mono ?_
    rintro e w2 ⟨rfl, hb2⟩
    cases hany : B.any badB
    · go_wp2_with (fail)
      go_ret
      exact ⟨ret_bool (by rw [hany]; rfl), hB2.trans (hb2.mono hz2)⟩
    · go_wp2_with (fail)
      go_ret
      exact ⟨ret_bool (by rw [hany]; rfl), hB2.trans (hb2.mono hz2)⟩
  all_goals
    try have c4' : (P.toList != [47]) = !(P.toList == [47]) := rfl
    try rw [c4] at c4'
    go_wp2_with (fail)
    go_ret
    first
    | exact ⟨rfl, hB1⟩
    | exact ⟨rfl, hB1.alloc hz1 _⟩
    | exact ⟨ret_bool (by simp; omega), hB1⟩
    | exact ⟨ret_bool (by simp; omega), hB1.alloc hz1 _⟩
end Go.Proofs.YtpghaghmejgjbaaGreatDoor.Tree
