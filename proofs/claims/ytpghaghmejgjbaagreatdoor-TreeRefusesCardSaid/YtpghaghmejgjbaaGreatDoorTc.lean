/- Trees: the document's Fits. -/
import Derived.Test.YtpghaghmejgjbaaGreatDoorTb
namespace Go.Proofs.YtpghaghmejgjbaaGreatDoor.Tree
open Go.RowKit
open Path (Bs bs mk bs_mk mk_bs tl_bs splitE splitL MaxC)
set_option linter.unusedSimpArgs false
set_option linter.unusedVariables false

theorem bl_ways2 (x : Bl) : (x.id < 1 ∧ okBl x = false) ∨ (¬ x.id < 1 ∧ 9007199254740991 < x.id ∧ okBl x = false) ∨ (¬ x.id < 1 ∧ ¬ 9007199254740991 < x.id ∧ x.gen < 1 ∧ okBl x = false) ∨
    (¬ x.id < 1 ∧ ¬ 9007199254740991 < x.id ∧ ¬ x.gen < 1 ∧ 9007199254740991 < x.gen ∧ okBl x = false) ∨ (¬ x.id < 1 ∧ ¬ 9007199254740991 < x.id ∧ ¬ x.gen < 1 ∧ ¬ 9007199254740991 < x.gen ∧ x.len < 0 ∧ okBl x = false) ∨
    (¬ x.id < 1 ∧ ¬ 9007199254740991 < x.id ∧ ¬ x.gen < 1 ∧ ¬ 9007199254740991 < x.gen ∧ ¬ x.len < 0 ∧ 64 < x.len ∧ okBl x = false) ∨
    (¬ x.id < 1 ∧ ¬ 9007199254740991 < x.id ∧ ¬ x.gen < 1 ∧ ¬ 9007199254740991 < x.gen ∧ ¬ x.len < 0 ∧ ¬ 64 < x.len ∧ okBl x = true) := by
  have hiff : okBl x = true ↔ (1 ≤ x.id ∧ x.id ≤ 9007199254740991) ∧ (1 ≤ x.gen ∧ x.gen ≤ 9007199254740991) ∧ 0 ≤ x.len ∧ x.len ≤ 64 := by
    simp only [okBl, oneB, Bool.and_eq_true, decide_eq_true_eq, and_assoc]
  cases h : okBl x
  · have hn : ¬ ((1 ≤ x.id ∧ x.id ≤ 9007199254740991) ∧ (1 ≤ x.gen ∧ x.gen ≤ 9007199254740991) ∧ 0 ≤ x.len ∧ x.len ≤ 64) := fun hh => by
      have := hiff.2 hh; rw [h] at this; cases this
    simp only [and_true, Bool.false_eq_true, and_false, or_false]
    omega
  · have := hiff.1 h
    simp only [and_true, Bool.true_eq_false, and_false, false_or]
    omega

theorem rfits_ways (x : Nd) :
    ((splitE (bs x.path) != 0) = true ∧ fitsN x = false) ∨
    (splitE (bs x.path) = 0 ∧ x.dir = true ∧ ((x.blocks.length : Int) == 0) = false ∧ fitsN x = false) ∨
    (splitE (bs x.path) = 0 ∧ x.dir = true ∧ ((x.blocks.length : Int) == 0) = true ∧ (x.writer == -1) = false ∧ fitsN x = false) ∨
    (splitE (bs x.path) = 0 ∧ x.dir = true ∧ ((x.blocks.length : Int) == 0) = true ∧ (x.writer == -1) = true ∧ ¬ -1 ≤ x.quota ∧ fitsN x = false) ∨
    (splitE (bs x.path) = 0 ∧ x.dir = true ∧ ((x.blocks.length : Int) == 0) = true ∧ (x.writer == -1) = true ∧ -1 ≤ x.quota ∧ fitsN x = decide (x.quota ≤ 9007199254740991)) ∨
    (splitE (bs x.path) = 0 ∧ x.dir = false ∧ (x.path.toList == [47]) = true ∧ fitsN x = false) ∨
    (splitE (bs x.path) = 0 ∧ x.dir = false ∧ (x.path.toList == [47]) = false ∧ (x.quota != -1) = true ∧ fitsN x = false) ∨
    (splitE (bs x.path) = 0 ∧ x.dir = false ∧ (x.path.toList == [47]) = false ∧ (x.quota != -1) = false ∧ x.writer < -1 ∧ fitsN x = false) ∨
    (splitE (bs x.path) = 0 ∧ x.dir = false ∧ (x.path.toList == [47]) = false ∧ (x.quota != -1) = false ∧ ¬ x.writer < -1 ∧ 4 ≤ x.writer ∧ fitsN x = false) ∨
    (splitE (bs x.path) = 0 ∧ x.dir = false ∧ (x.path.toList == [47]) = false ∧ (x.quota != -1) = false ∧ ¬ x.writer < -1 ∧ ¬ 4 ≤ x.writer ∧ 8 < (x.blocks.length : Int) ∧ fitsN x = false) ∨
    (splitE (bs x.path) = 0 ∧ x.dir = false ∧ (x.path.toList == [47]) = false ∧ (x.quota != -1) = false ∧ ¬ x.writer < -1 ∧ ¬ 4 ≤ x.writer ∧ ¬ 8 < (x.blocks.length : Int) ∧ fitsN x = !(x.blocks.any badB)) := by
  have hne : ∀ a : Int, (a == -1) = true → (a != -1) = false := fun a h => by rw [bne, h]; rfl
  rcases fits_ways x with ⟨c1, r⟩ | ⟨c1, c2, r⟩ | ⟨c1, c2, c3, r⟩ | ⟨c1, c2, c3, d, c4, r⟩ | ⟨c1, c2, c3, d, c4, c5, r⟩ | ⟨c1, c2, c3, d, c4, c5, r⟩ | ⟨c1, c2, c3, d, c4, r⟩ | ⟨c1, c2, c3, d, c4, c5, r⟩ | ⟨c1, c2, c3, d, c4, c5, c6, r⟩ | ⟨c1, c2, c3, d, c4, c5, c6, c7, r⟩ | ⟨c1, c2, c3, d, c4, c5, c6, c7, r⟩
  · exact .inl ⟨c1, r⟩
  · cases hd : x.dir
    · cases hp : (x.path.toList == [47])
      · exact .inr (.inr (.inr (.inr (.inr (.inr (.inl ⟨c1, rfl, rfl, bne_iff_ne.2 (by omega), r⟩))))))
      · exact .inr (.inr (.inr (.inr (.inr (.inl ⟨c1, rfl, rfl, r⟩)))))
    · cases h4 : ((x.blocks.length : Int) == 0)
      · exact .inr (.inl ⟨c1, rfl, rfl, r⟩)
      · cases h5 : (x.writer == -1)
        · exact .inr (.inr (.inl ⟨c1, rfl, rfl, rfl, r⟩))
        · exact .inr (.inr (.inr (.inl ⟨c1, rfl, rfl, rfl, by omega, r⟩)))
  · cases hd : x.dir
    · cases hp : (x.path.toList == [47])
      · cases h6 : (x.quota != -1)
        · exact .inr (.inr (.inr (.inr (.inr (.inr (.inr (.inl ⟨c1, rfl, rfl, rfl, c3, r⟩)))))))
        · exact .inr (.inr (.inr (.inr (.inr (.inr (.inl ⟨c1, rfl, rfl, rfl, r⟩))))))
      · exact .inr (.inr (.inr (.inr (.inr (.inl ⟨c1, rfl, rfl, r⟩)))))
    · cases h4 : ((x.blocks.length : Int) == 0)
      · exact .inr (.inl ⟨c1, rfl, rfl, r⟩)
      · exact .inr (.inr (.inl ⟨c1, rfl, rfl, beq_false_of_ne (by omega), r⟩))
  · exact .inr (.inl ⟨c1, d, c4, r⟩)
  · exact .inr (.inr (.inl ⟨c1, d, c4, c5, r⟩))
  · exact .inr (.inr (.inr (.inr (.inl ⟨c1, d, c4, c5, by omega, r⟩))))
  · exact .inr (.inr (.inr (.inr (.inr (.inl ⟨c1, d, c4, r⟩)))))
  · exact .inr (.inr (.inr (.inr (.inr (.inr (.inl ⟨c1, d, c4, by rw [bne, c5]; rfl, r⟩))))))
  · exact .inr (.inr (.inr (.inr (.inr (.inr (.inr (.inr (.inl ⟨c1, d, c4, hne _ c5, c3, by omega, r⟩))))))))
  · exact .inr (.inr (.inr (.inr (.inr (.inr (.inr (.inr (.inr (.inl ⟨c1, d, c4, hne _ c5, c3, by omega, by omega, r⟩)))))))))
  · exact .inr (.inr (.inr (.inr (.inr (.inr (.inr (.inr (.inr (.inr ⟨c1, d, c4, hne _ c5, c3, by omega, by omega, r⟩)))))))))

set_option maxRecDepth 4000 in
set_option maxHeartbeats 8000000 in
theorem rfits_calls (w : World) (x : Nd) (hB : Rd w 3 encB x.bv x.blocks) :
    Calls Tryz.prog 14 #[.agg #[.string x.path, .bool x.dir, .int .i64 x.quota, x.bv, .int .i64 x.writer]] w fun e w' => e = .returned (.bool (fitsN x)) ∧ Below w.heap.size w w' := by
  have h1 := fun W => Path.rsplit_calls W x.path
  have ways := rfits_ways x
  obtain ⟨ao, cap, hbv, hcap, _, hcell⟩ := rd_cellsB hB
  rw [hbv]
  generalize fitsN x = r at *
  generalize splitE (bs x.path) = E at *
  generalize splitL (bs x.path) = L at *
  generalize x.path = P at *
  generalize x.dir = D at *
  generalize x.quota = Q at *
  generalize x.writer = Wr at *
  generalize x.blocks = B at *
  clear hB hbv
  have H1 := Lib.hid h1; have Hcell := Lib.hid hcell; clear h1 hcell
  have hb0 : Below w.heap.size w (w.alloc (.cells #[.string P, .bool D, .int .i64 Q, .slice ao B.length cap, .int .i64 Wr] 25)) := (Below.refl _ _).alloc (Nat.le_refl _) _
  have Hb0 := Lib.hid hb0; clear hb0
  rcases ways with ⟨c1, rfl⟩ | ⟨rfl, rfl, c4, rfl⟩ | ⟨rfl, rfl, c4, c5, rfl⟩ | ⟨rfl, rfl, c4, c5, c6, rfl⟩ | ⟨rfl, rfl, c4, c5, c6, rfl⟩ | ⟨rfl, rfl, c4, rfl⟩ | ⟨rfl, rfl, c4, c5, rfl⟩ | ⟨rfl, rfl, c4, c5, c6, rfl⟩ | ⟨rfl, rfl, c4, c5, c6, c7, rfl⟩ | ⟨rfl, rfl, c4, c5, c6, c7, c8, rfl⟩ | ⟨rfl, rfl, c4, c5, c6, c7, c8, rfl⟩
  all_goals
    go_enter Tryz.func14, Tryz.ntmps14
    go_wp2_with (fail)
    refine (H1.out _).mono ?_
    rintro e w1 ⟨v1, rfl, _, hb1⟩
    have hk := (hb1.block w.heap.size (by simp)).trans (heap_alloc_new w _)
    have hB1 := Hb0.out.trans (hb1.mono Hb0.out.size)
    have hz1 := hB1.size
    have k0 := cell_of_blk (j := 0) hk
    have k1 := cell_of_blk (j := 1) hk
    have k2 := cell_of_blk (j := 2) hk
    have k3 := cell_of_blk (j := 3) hk
    have k4 := cell_of_blk (j := 4) hk
    simp only [List.getElem?_toArray, List.getElem?_cons_zero, List.getElem?_cons_succ] at k0 k1 k2 k3 k4
    have hlt1 := lt_of_block hk
    have Hk := Lib.hid hk
    clear hk hb1
  rotate_right
  focus
    have hB8 : B.length ≤ 8 := by omega
    go_wp2_with (fail)
    clear k0 k1 k2 k3 k4
    go_loopw [5] (fun vk wr => ∃ k : Nat, vk = .int .i64 k ∧ k ≤ B.length ∧ (B.take k).any badB = false ∧ Below w1.heap.size w1 wr) (fun vk _ => B.length - (intOf vk).toNat)
    case atStart => exact ⟨0, rfl, Nat.zero_le _, rfl, Below.refl _ _⟩
    case round =>
      obtain ⟨k, rfl, hk, hnone, hb⟩ := hrel
      have Hnone := Lib.hid hnone; clear hnone
      have hbw := hB1.trans (hb.mono hz1)
      have hszr := hb.size
      have hkr := (hb.block w.heap.size hlt1).trans Hk.out
      have k3 := cell_of_blk (j := 3) hkr
      simp only [List.getElem?_toArray, List.getElem?_cons_zero, List.getElem?_cons_succ] at k3
      have hltr : w.heap.size < wr.heap.size := by omega
      clear hkr
      by_cases hlt : k < B.length
      · obtain ⟨x, hx⟩ : ∃ x, B[k]? = some x := ⟨B[k], by simp [hlt]⟩
        obtain ⟨b, off, rfl, hlb, d0, d1, d2⟩ := Hcell.out wr hbw k x hx
        have hbr : b < wr.heap.size := by omega
        have Hx := Lib.hid hx; clear hx
        have hend := hb.alloc hszr (.cells #[.int .i64 x.id, .int .i64 x.gen, .int .i64 x.len] 65)
        have Hend := Lib.hid hend; clear hend
        have e0 : (wr.alloc (.cells #[.int .i64 x.id, .int .i64 x.gen, .int .i64 x.len] 65)).cell? ⟨wr.heap.size, 0, none⟩ = some (.int .i64 x.id) := cell_of_blk (j := 0) (heap_alloc_new wr _)
        have e1 : (wr.alloc (.cells #[.int .i64 x.id, .int .i64 x.gen, .int .i64 x.len] 65)).cell? ⟨wr.heap.size, 1, none⟩ = some (.int .i64 x.gen) := cell_of_blk (j := 1) (heap_alloc_new wr _)
        have e2 : (wr.alloc (.cells #[.int .i64 x.id, .int .i64 x.gen, .int .i64 x.len] 65)).cell? ⟨wr.heap.size, 2, none⟩ = some (.int .i64 x.len) := cell_of_blk (j := 2) (heap_alloc_new wr _)
        rcases bl_ways2 x with ⟨m1, hr⟩ | ⟨m1, m2, hr⟩ | ⟨m1, m2, m3, hr⟩ | ⟨m1, m2, m3, m4, hr⟩ | ⟨m1, m2, m3, m4, m5, hr⟩ | ⟨m1, m2, m3, m4, m5, m6, hr⟩ | ⟨m1, m2, m3, m4, m5, m6, hr⟩
        rotate_right
        focus
          have hnx := any_nextB (p := badB) Hx.out Hnone.out (by rw [badB, hr]; rfl)
          have Hnx := Lib.hid hnx; clear hnx hr
          go_wp2_with (fail)
          go_roundw
          case rel => exact ⟨k + 1, by go_num, by omega, Hnx.out, Hend.out⟩
          case measure => simp [intOf]; omega
        all_goals
          have hany := any_hitB (p := badB) Hx.out (by rw [badB, hr]; rfl)
          have Hany := Lib.hid hany; clear hany hr
          go_wp2_with (fail)
          go_ret
          refine ⟨ret_bool (by rw [Hany.out]; rfl), ?_⟩
          exact hB1.trans (Hend.out.mono hz1)
      · obtain rfl : k = B.length := by omega
        have h0 := Hnone.out
        rw [List.take_length] at h0
        have H0 := Lib.hid h0; clear h0
        go_wp2_with (fail)
        go_ret
        exact ⟨ret_bool (by rw [H0.out]; rfl), hbw⟩
  all_goals
    go_wp2_with (fail)
    go_ret
    first
    | exact ⟨rfl, hB1⟩
    | exact ⟨ret_bool (by simp; omega), hB1⟩
end Go.Proofs.YtpghaghmejgjbaaGreatDoor.Tree
