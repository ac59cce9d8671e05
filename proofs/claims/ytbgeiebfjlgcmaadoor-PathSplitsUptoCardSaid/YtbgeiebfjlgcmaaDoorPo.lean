/- PathSplits: the walk of the law. -/
import Derived.Test.YtbgeiebfjlgcmaaDoorPn
import Derived.Test.YtbgeiebfjlgcmaaDoorPk
namespace Go.Proofs.YtbgeiebfjlgcmaaDoor.Path
open Go.RowKit
set_option linter.unusedSimpArgs false
set_option linter.unusedVariables false

set_option maxRecDepth 4000 in
set_option maxHeartbeats 4000000 in
theorem law_splits (p : ByteArray) (v : Value) (ns : List ByteArray) (w : World) (hM : MaxC w) (h : Rd w 1 encS v ns ∧ ns.length ≤ 1048576) :
    Calls Tryd.prog 3 #[.string p, v] w fun e w' => e = .returned (.bool true) ∧ Below w.heap.size w w' := by
  have hex := ex_calls w hM
  have h1 := fun W => rsplit_calls W p
  have h2 := fun W (hW : Below w.heap.size w W) => split_calls W p (hM.below hW)
  have hJ := fun W (hW : Below w.heap.size w W) => join_calls W v ns (h.1.below hW (Nat.le_refl _)) (by omega)
  have hR := fun W (hW : Below w.heap.size w W) => rjoin_calls W v ns (h.1.below hW (Nat.le_refl _)) (by omega)
  have hN := fun W => name_calls W p
  have hRN := fun W => rname_calls W p
  obtain ⟨ao, cap, rfl, _, _, _⟩ := rd_cellsS h.1
  have hl6 := split_six (bs p)
  generalize joinS (ns.map bs) = S at *
  generalize joinE (ns.map bs) = E at *
  generalize splitE (bs p) = F at *
  generalize splitL (bs p) = L at *
  generalize nameL (bs p) = nm at *
  clear h hM
  have hFF : (F != F) = false := by simp
  have hSS : ((mk S).toList == (mk S).toList) = true := by simp
  have H1 := Lib.hid h1; have H2 := Lib.hid h2; have HJ := Lib.hid hJ; have HR := Lib.hid hR; have HN := Lib.hid hN; have HRN := Lib.hid hRN; clear h1 h2 hJ hR hN hRN
  go_enter Tryd.func3, Tryd.ntmps3
  go_wp2_with (fail)
  refine hex.mono ?_
  rintro e w1 ⟨rfl, hB1⟩
  go_wp2_with (fail)
  refine (H1.out _).mono ?_
  rintro e w2 ⟨v2, rfl, hO2, hb2⟩
  have hB2 := hB1.trans (hb2.mono hB1.size)
  have hrd2 := hO2.rd
  obtain ⟨a2, c2, rfl, _, _, _⟩ := rd_cellsS hrd2
  rw [List.length_map] at *
  have hz2 := hB2.size
  clear hO2
  go_wp2_with (fail)
  go_loopw [8] (fun vk wr => ∃ k : Nat, vk = .int .i64 k ∧ k ≤ 2 ∧ Below w2.heap.size w2 wr) (fun vk _ => 2 - (intOf vk).toNat)
  case atStart => exact ⟨0, rfl, by omega, Below.refl _ _⟩
  case round =>
    obtain ⟨k, rfl, hk, hb⟩ := hrel
    generalize wr = W0 at *
    have hB := hB2.trans (hb.mono hz2)
    by_cases hlt : k < 2
    · have hlt' : (k : Int) < 2 := by omega
      go_wp2_with (fail)
      refine (H2.out _ hB).mono ?_
      rintro e w3 ⟨va, rfl, hO3, hb3⟩
      have hb23 := hb.trans (hb3.mono hb.size)
      have ht := texts_calls w3 va _ _ hO3.rd (hrd2.below hb23 (Nat.le_refl _)) (by rw [List.length_map]; omega)
      have hga : ∀ g, va.ownBlock = some g → w2.heap.size ≤ g := fun g hg => Nat.le_trans hb.size (hO3.new g hg)
      have hown3 := hO3.own
      obtain ⟨aa, ca, rfl, _⟩ := own_slice hown3
      rw [List.length_map] at *
      clear hO3
      have Hga := Lib.hid hga; have HO3 := Lib.hid hown3; clear hga hown3
      go_wp2_with (fail)
      refine ht.mono ?_
      rintro e w4 ⟨rfl, hb4⟩
      have hb24 := hb23.trans (hb4.mono hb23.size)
      have hown4 := below_ownsRow hb4 HO3.out (fun g hg => (HO3.out.lt g hg).2)
      go_wp2_with (fail)
      go_loopw [12] (fun vj wr => ∃ (j : Nat) (xs : List Value), vj = .int .i64 j ∧ j ≤ L.length ∧ wr.ownsRow 0 9 1 (.slice aa L.length ca) L.length xs ∧ Below w2.heap.size w2 wr) (fun vj _ => L.length - (intOf vj).toNat)
      case atStart => exact ⟨0, _, rfl, Nat.zero_le _, hown4, hb24⟩
      case round =>
        obtain ⟨j, xs, rfl, hj, hown, hbr⟩ := hrel
        have Hbr := Lib.hid hbr; clear hbr hown4 hb24
        by_cases hjl : j < L.length
        · obtain ⟨g, cap', hvv, _, hgl⟩ := hown.form (by omega)
          simp only [Value.slice.injEq, true_and] at hvv
          obtain ⟨rfl, rfl⟩ := hvv
          have hxl := hown.1
          obtain ⟨z0, d0⟩ : ∃ z, wr.cell? ⟨g, j, none⟩ = some z := ⟨xs[j]'(by omega), by rw [hown.cellAt j (by omega)]; simp⟩
          have f0 := hown.frozenAt j
          have hg2 := Hga.out g rfl
          go_wp2_with (fail)
          go_roundw
          case rel => exact ⟨j + 1, _, by go_num, by omega, (hown.stored j (.string ⟨#[63]⟩)).1, Hbr.out.setCell hg2 _⟩
          case measure => simp [intOf]; omega
        · obtain rfl : j = L.length := by omega
          clear hown
          go_wp2_with (fail)
          go_roundw
          case rel => exact ⟨k + 1, by go_num, by omega, Hbr.out⟩
          case measure => simp [intOf]; omega
    · obtain rfl : k = 2 := by omega
      go_wp2_with (fail)
      refine (HJ.out _ hB).mono ?_
      rintro e w5 ⟨rfl, hb5⟩
      have hB5 := hB.trans (hb5.mono hB.size)
      go_wp2_with (fail)
      refine (HR.out _ hB5).mono ?_
      rintro e w6 ⟨rfl, hb6⟩
      have hB6 := hB5.trans (hb6.mono hB5.size)
      go_wp2_with (fail)
      refine (HN.out _).mono ?_
      rintro e w7 ⟨rfl, hb7⟩
      have hB7 := hB6.trans (hb7.mono hB6.size)
      go_wp2_with (fail)
      refine (HRN.out _).mono ?_
      rintro e w8 ⟨rfl, rfl⟩
      go_wp2_with (fail)
      go_ret
      exact ⟨ret_bool (by simp), hB7⟩
end Go.Proofs.YtbgeiebfjlgcmaaDoor.Path
