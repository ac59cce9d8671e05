/- Paths: path.Under. -/
import Derived.Test.YtpghaghmejgjbaaGreatDoorPe
import Derived.WalkMore
namespace Go.Proofs.YtpghaghmejgjbaaGreatDoor.Path
open Go.RowKit
set_option linter.unusedSimpArgs false

theorem under_ways (a b : Bs) :
    (splitE a ≠ 0 ∧ underL a b = false) ∨ (splitE a = 0 ∧ splitE b ≠ 0 ∧ underL a b = false) ∨
    (splitE a = 0 ∧ splitE b = 0 ∧ (splitL b).length < (splitL a).length ∧ underL a b = false) ∨
    (splitE a = 0 ∧ splitE b = 0 ∧ ¬ (splitL b).length < (splitL a).length ∧ underL a b = (splitL a).isPrefixOf (splitL b)) := by
  by_cases h1 : splitE a = 0
  · by_cases h2 : splitE b = 0
    · by_cases h3 : (splitL b).length < (splitL a).length
      · refine .inr (.inr (.inl ⟨h1, h2, h3, ?_⟩))
        rw [underL]
        cases h : (splitL a).isPrefixOf (splitL b)
        · simp
        · have := (List.isPrefixOf_iff_prefix.1 h).length_le
          omega
      · exact .inr (.inr (.inr ⟨h1, h2, h3, by rw [underL, h1, h2]; simp⟩))
    · exact .inr (.inl ⟨h1, h2, by rw [underL]; simp [h2]⟩)
  · exact .inl ⟨h1, by rw [underL]; simp [h1]⟩
theorem pre_all {L M : List Bs} (h : L = M.take L.length) : L.isPrefixOf M = true := by
  rw [List.isPrefixOf_iff_prefix, h]
  exact List.take_prefix _ _
theorem pre_not {L M : List Bs} {k : Nat} {x y : Bs} (hx : L[k]? = some x) (hy : M[k]? = some y) (hne : x ≠ y) : L.isPrefixOf M = false := by
  rw [Bool.eq_false_iff]
  intro h
  obtain ⟨t, rfl⟩ := List.isPrefixOf_iff_prefix.1 h
  have hk := (List.getElem?_eq_some_iff.1 hx).1
  rw [List.getElem?_append_left hk, hx] at hy
  exact hne (Option.some.inj hy)
theorem split_six (p : Bs) : (splitL p).length ≤ 6 := by
  by_cases h : splitE p = 0
  · exact (joinE_ok.1 (split_ok h).1).2.1
  · rw [split_bad h]; simp

set_option maxHeartbeats 4000000 in
theorem under_calls (w : World) (a b : ByteArray) (hM : MaxC w) :
    Calls Tryz.prog 48 #[.string a, .string b] w fun e w' => e = .returned (.bool (underL (bs a) (bs b))) ∧ Below w.heap.size w w' := by
  have h1 := split_calls w a hM
  have h2 := fun W (hW : Below w.heap.size w W) => split_calls W b (hM.below hW)
  have hl1 := split_six (bs a)
  have hl2 := split_six (bs b)
  have ways := under_ways (bs a) (bs b)
  generalize underL (bs a) (bs b) = u at *
  generalize splitE (bs a) = E at *
  generalize splitE (bs b) = F at *
  generalize splitL (bs a) = L at *
  generalize splitL (bs b) = M at *
  have H2 := Lib.hid h2; clear h2 hM
  rcases ways with ⟨hE, rfl⟩ | ⟨hE, hF, rfl⟩ | ⟨hE, hF, hlt, rfl⟩ | ⟨hE, hF, hge, hu⟩
  focus
    have q1 : (E != 0) = true := bne_iff_ne.2 hE
  rotate_left
  focus
    subst hE
    have q2 : (F != 0) = true := bne_iff_ne.2 hF
  rotate_left
  focus
    subst hE hF
    have q3 : (M.length : Int) < (L.length : Int) := by omega
  rotate_left
  focus
    subst hE hF
    have q3 : ¬ (M.length : Int) < (L.length : Int) := by omega
    have Hu := Lib.hid hu; clear hu
  rotate_left
  all_goals
    go_enter Tryz.func48, Tryz.ntmps48
    go_wp2_with (fail)
    go_step3
    go_wp2_with (fail)
    refine h1.mono ?_
    rintro e w1 ⟨v1, rfl, hO1, hb1⟩
    go_wp2_with (fail)
    refine (H2.out _ hb1).mono ?_
    rintro e w2 ⟨v2, rfl, hO2, hb2⟩
    have hB2 := hb1.trans (hb2.mono hb1.size)
    obtain ⟨a1, c1, rfl, _, _, hc1⟩ := rd_cellsS (hO1.rd.below hb2 (Nat.le_refl _))
    obtain ⟨a2, c2, rfl, _, _, hc2⟩ := rd_cellsS hO2.rd
    rw [List.length_map] at *
    have Hc1 := Lib.hid hc1; have Hc2 := Lib.hid hc2; clear hc1 hc2 hO1 hO2
    go_wp2_with (fail)
  rotate_left
  rotate_left
  rotate_left
  focus
    go_step3
    go_wp2_with (fail)
    go_loopw [36] (fun vk wr => ∃ k : Nat, vk = .int .i64 k ∧ k ≤ L.length ∧ L.take k = M.take k ∧ Below w2.heap.size w2 wr) (fun vk _ => L.length - (intOf vk).toNat)
    case atStart => exact ⟨0, rfl, Nat.zero_le _, rfl, Below.refl _ _⟩
    case round =>
      obtain ⟨k, rfl, hk, heq, hb⟩ := hrel
      have Heq := Lib.hid heq; clear heq
      by_cases hlt : k < L.length
      · have hlt2 : k < M.length := by omega
        obtain ⟨x, hx⟩ : ∃ x, L[k]? = some x := ⟨L[k], by simp [hlt]⟩
        obtain ⟨y, hy⟩ : ∃ y, M[k]? = some y := ⟨M[k], by simp [hlt2]⟩
        obtain ⟨b1, o1, rfl, _, d1⟩ := Hc1.out wr hb k (mk x) (by simp [hx])
        obtain ⟨b2, o2, rfl, _, d2⟩ := Hc2.out wr hb k (mk y) (by simp [hy])
        have Hx := Lib.hid hx; have Hy := Lib.hid hy; clear hx hy
        by_cases hxy : x = y
        · subst hxy
          have hn : L.take (k + 1) = M.take (k + 1) := by rw [List.take_add_one, List.take_add_one, Heq.out, Hx.out, Hy.out]
          have Hn := Lib.hid hn; clear hn
          go_wp2_with (fail)
          go_roundw
          case rel => exact ⟨k + 1, by go_num, by omega, Hn.out, hb⟩
          case measure => simp [intOf]; omega
        · have hn := pre_not Hx.out Hy.out hxy
          have Hn := Lib.hid hn; clear hn
          have z1 : ((mk x).toList == (mk y).toList) = false := by rw [tl_bs, tl_bs, bs_mk, bs_mk]; simpa using hxy
          have Hxy := Lib.hid hxy; clear hxy
          go_wp2_with (fail)
          rw [Exit.noGoto_ret]
          go_ret
          exact ⟨ret_bool (Hu.out.trans Hn.out).symm, hB2.trans (hb.mono hB2.size)⟩
      · obtain rfl : k = L.length := by omega
        have he := Heq.out
        rw [List.take_length] at he
        have hn := pre_all he
        have Hn := Lib.hid hn; clear hn he
        go_wp2_with (fail)
        rw [Exit.noGoto_ret]
        go_ret
        exact ⟨ret_bool (Hu.out.trans Hn.out).symm, hB2.trans (hb.mono hB2.size)⟩
  all_goals
    rw [Exit.noGoto_ret]
    go_ret
    exact ⟨rfl, hB2⟩
end Go.Proofs.YtpghaghmejgjbaaGreatDoor.Path
