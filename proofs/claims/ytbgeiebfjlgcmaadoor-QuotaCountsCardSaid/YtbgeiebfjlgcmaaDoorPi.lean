/- Paths: two lists of texts that are the same; the chapter's examples. -/
import Derived.Test.YtbgeiebfjlgcmaaDoorPh
namespace Go.Proofs.YtbgeiebfjlgcmaaDoor.Path
open Go.RowKit
set_option linter.unusedSimpArgs false

theorem below_drewN (w : World) (n : Nat) : Below w.heap.size w (w.drewN n) := ⟨rfl, rfl, rfl, Nat.le_refl _, fun _ _ => rfl⟩
set_option maxHeartbeats 2000000 in
theorem texts_calls (w : World) (u v : Value) (l : List ByteArray) (ha : Rd w 1 encS u l) (hb : Rd w 1 encS v l) (hn : l.length ≤ 8796093022208) :
    Calls Tryd.prog 16 #[u, v] w fun e w' => e = .returned (.bool true) ∧ Below w.heap.size w w' := by
  obtain ⟨ao, ca, rfl, _, _, hca⟩ := rd_cellsS ha
  obtain ⟨bo, cb, rfl, _, _, hcb⟩ := rd_cellsS hb
  clear ha hb
  have hll : ((l.length : Int) != (l.length : Int)) = false := by simp
  have Hca := Lib.hid hca; have Hcb := Lib.hid hcb; clear hca hcb
  go_enter Tryd.func16, Tryd.ntmps16
  go_wp2_with (fail)
  go_loopw [5] (fun vk wr => ∃ k : Nat, k ≤ l.length ∧ vk = .int .i64 k ∧ Below w.heap.size w wr) (fun vk _ => l.length - (intOf vk).toNat)
  case atStart => exact ⟨0, Nat.zero_le _, rfl, Below.refl _ _⟩
  case round =>
    obtain ⟨k, hk, rfl, hbr⟩ := hrel
    by_cases hlt : k < l.length
    · obtain ⟨x, hx⟩ : ∃ x, l[k]? = some x := ⟨l[k], by simp [hlt]⟩
      obtain ⟨bx, ox, rfl, _, c0⟩ := Hca.out wr hbr k x hx
      obtain ⟨by', oy, rfl, _, d0⟩ := Hcb.out wr hbr k x hx
      have hxx : (x.toList == x.toList) = true := by simp
      clear hx
      go_wp2_with (fail)
      go_quiet (fail)
      go_wp2_with (fail)
      go_roundw
      case rel => exact ⟨k + 1, by omega, by go_num, ⟨hbr.os, hbr.tape, hbr.output, hbr.size, hbr.block⟩⟩
      case measure => simp [intOf]; omega
    · obtain rfl : k = l.length := by omega
      go_wp2_with (fail)
      go_ret
      exact ⟨rfl, hbr⟩

theorem ex_facts : splitE (bs ⟨#[47, 97, 47, 98]⟩) = 0 ∧ splitL (bs ⟨#[47, 97, 47, 98]⟩) = [[97], [98]] ∧ splitE (bs ⟨#[47, 97, 47]⟩) = 1 ∧ splitE (bs ⟨#[47, 46, 46]⟩) = 1 := by decide +kernel
theorem ex_facts2 : moveE (bs ⟨#[47, 97, 47, 98, 47, 99]⟩) (bs ⟨#[47, 97]⟩) (bs ⟨#[47, 120, 47, 121]⟩) = 0 ∧ moveS (bs ⟨#[47, 97, 47, 98, 47, 99]⟩) (bs ⟨#[47, 97]⟩) (bs ⟨#[47, 120, 47, 121]⟩) = [47, 120, 47, 121, 47, 98, 47, 99] ∧ underL (bs ⟨#[47]⟩) (bs ⟨#[47, 97]⟩) = true := by decide +kernel

set_option maxHeartbeats 4000000 in
theorem ex_calls (w : World) (hM : MaxC w) : Calls Tryd.prog 13 #[] w fun e w' => e = .returned (.bool true) ∧ Below w.heap.size w w' := by
  have h1 := split_calls w ⟨#[47, 97, 47, 98]⟩ hM
  have h2 := fun W (hW : Below w.heap.size w W) => split_calls W ⟨#[47, 97, 47]⟩ (hM.below hW)
  have h3 := fun W (hW : Below w.heap.size w W) => split_calls W ⟨#[47, 46, 46]⟩ (hM.below hW)
  have h4 := fun W (hW : Below w.heap.size w W) => move_calls W ⟨#[47, 97, 47, 98, 47, 99]⟩ ⟨#[47, 97]⟩ ⟨#[47, 120, 47, 121]⟩ (hM.below hW)
  have h5 := fun W (hW : Below w.heap.size w W) => under_calls W ⟨#[47]⟩ ⟨#[47, 97]⟩ (hM.below hW)
  obtain ⟨e1, e2, e3, e4⟩ := ex_facts
  obtain ⟨e5, e6, e7⟩ := ex_facts2
  rw [e1, e2] at h1
  rw [e3] at h2
  rw [e4] at h3
  rw [e5, e6] at h4
  rw [e7] at h5
  clear e1 e2 e3 e4 e5 e6 e7 hM
  have H2 := Lib.hid h2; have H3 := Lib.hid h3; have H4 := Lib.hid h4; have H5 := Lib.hid h5; clear h2 h3 h4 h5
  go_enter Tryd.func13, Tryd.ntmps13
  go_wp2_with (fail)
  refine h1.mono ?_
  rintro e w1 ⟨v1, rfl, hO1, hB1⟩
  obtain ⟨a1, c1, rfl, _, _, hc⟩ := rd_cellsS hO1.rd
  have Hc := Lib.hid hc; clear hc hO1
  go_wp2_with (fail)
  refine (H2.out _ hB1).mono ?_
  rintro e w2 ⟨v2, rfl, _, hb2⟩
  have hB2 := hB1.trans (hb2.mono hB1.size)
  have hb12 := hb2
  go_wp2_with (fail)
  refine (H3.out _ hB2).mono ?_
  rintro e w3 ⟨v3, rfl, _, hb3⟩
  have hB3 := hB2.trans (hb3.mono hB2.size)
  have hb13 := hb12.trans (hb3.mono hb12.size)
  go_wp2_with (fail)
  refine (H4.out _ hB3).mono ?_
  rintro e w4 ⟨rfl, hb4⟩
  have hB4 := hB3.trans (hb4.mono hB3.size)
  have hb14 := hb13.trans (hb4.mono hb13.size)
  obtain ⟨bx, ox, rfl, _, d1⟩ := Hc.out w4 hb14 1 (mk [98]) rfl
  have s1 : ((mk [98]).toList == [98]) = true := by rw [tl_bs, bs_mk]; rfl
  have s2 : ((mk [47, 120, 47, 121, 47, 98, 47, 99]).toList == [47, 120, 47, 121, 47, 98, 47, 99]) = true := by rw [tl_bs, bs_mk]; rfl
  go_wp2_with (fail)
  refine (H5.out _ hB4).mono ?_
  rintro e w5 ⟨rfl, hb5⟩
  go_wp2_with (fail)
  go_ret
  exact ⟨rfl, hB4.trans (hb5.mono hB4.size)⟩
end Go.Proofs.YtbgeiebfjlgcmaaDoor.Path
