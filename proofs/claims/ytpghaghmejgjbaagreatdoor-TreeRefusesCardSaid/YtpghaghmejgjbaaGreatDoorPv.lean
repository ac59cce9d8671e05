/- Paths: the document's Under, Parent. -/
import Derived.Test.YtpghaghmejgjbaaGreatDoorPn
import Derived.Test.YtpghaghmejgjbaaGreatDoorPq
namespace Go.Proofs.YtpghaghmejgjbaaGreatDoor.Path
open Go.RowKit
set_option linter.unusedSimpArgs false
set_option linter.unusedVariables false

set_option maxHeartbeats 4000000 in
theorem runder_calls (w : World) (a b : ByteArray) :
    Calls Tryz.prog 60 #[.string a, .string b] w fun e w' => e = .returned (.bool (underL (bs a) (bs b))) ∧ Below w.heap.size w w' := by
  have h1 := rsplit_calls w a
  have h2 := fun W => rsplit_calls W b
  have hl1 := split_six (bs a)
  have hl2 := split_six (bs b)
  have ways := under_ways (bs a) (bs b)
  generalize underL (bs a) (bs b) = u at *
  generalize splitE (bs a) = E at *
  generalize splitE (bs b) = F at *
  generalize splitL (bs a) = L at *
  generalize splitL (bs b) = M at *
  have H2 := Lib.hid h2; clear h2
  rcases ways with ⟨hE, rfl⟩ | ⟨hE, hF, rfl⟩ | ⟨hE, hF, hlt, rfl⟩ | ⟨hE, hF, hge, hu⟩
  focus
    have q1 : (E != 0) = true := bne_iff_ne.2 hE
  rotate_left
  focus
    subst hE
    have q2 : (F != 0) = true := bne_iff_ne.2 hF
  rotate_left
  focus
    subst hE hF
    have q3 : (M.length : Int) < (L.length : Int) := by omega
  rotate_left
  focus
    subst hE hF
    have q3 : ¬ (M.length : Int) < (L.length : Int) := by omega
    have Hu := Lib.hid hu; clear hu
  rotate_left
  all_goals
    go_enter Tryz.func60, Tryz.ntmps60
    go_wp2_with (fail)
    refine h1.mono ?_
    rintro e w1 ⟨v1, rfl, hO1, hb1⟩
    go_wp2_with (fail)
    refine (H2.out _).mono ?_
    rintro e w2 ⟨v2, rfl, hO2, hb2⟩
    have hB2 := hb1.trans (hb2.mono hb1.size)
    obtain ⟨a1, c1, rfl, _, _, hc1⟩ := rd_cellsS (hO1.rd.below hb2 (Nat.le_refl _))
    obtain ⟨a2, c2, rfl, _, _, hc2⟩ := rd_cellsS hO2.rd
    rw [List.length_map] at *
    have Hc1 := Lib.hid hc1; have Hc2 := Lib.hid hc2; clear hc1 hc2 hO1 hO2
    go_wp2_with (fail)
  rotate_left
  rotate_left
  rotate_left
  focus
    go_loopw [9] (fun vk wr => ∃ k : Nat, vk = .int .i64 k ∧ k ≤ L.length ∧ L.take k = M.take k ∧ Below w2.heap.size w2 wr) (fun vk _ => L.length - (intOf vk).toNat)
    case atStart => exact ⟨0, rfl, Nat.zero_le _, rfl, Below.refl _ _⟩
    case round =>
      obtain ⟨k, rfl, hk, heq, hb⟩ := hrel
      have Heq := Lib.hid heq; clear heq
      by_cases hlt : k < L.length
      · have hlt2 : k < M.length := by omega
        obtain ⟨x, hx⟩ : ∃ x, L[k]? = some x := ⟨L[k], by simp [hlt]⟩
        obtain ⟨y, hy⟩ : ∃ y, M[k]? = some y := ⟨M[k], by simp [hlt2]⟩
        obtain ⟨b1, o1, rfl, _, d1⟩ := Hc1.out wr hb k (mk x) (by simp [hx])
        obtain ⟨b2, o2, rfl, _, d2⟩ := Hc2.out wr hb k (mk y) (by simp [hy])
        have Hx := Lib.hid hx; have Hy := Lib.hid hy; clear hx hy
        by_cases hxy : x = y
        · subst hxy
          have hn : L.take (k + 1) = M.take (k + 1) := by rw [List.take_add_one, List.take_add_one, Heq.out, Hx.out, Hy.out]
          have Hn := Lib.hid hn; clear hn
          have hxx : ((mk x).toList != (mk x).toList) = false := by simp
          go_wp2_with (fail)
          go_quiet (fail)
          go_wp2_with (fail)
          go_roundw
          case rel => exact ⟨k + 1, by go_num, by omega, Hn.out, ⟨hb.os, hb.tape, hb.output, hb.size, hb.block⟩⟩
          case measure => simp [intOf]; omega
        · have hn := pre_not Hx.out Hy.out hxy
          have Hn := Lib.hid hn; clear hn
          have z1 : ((mk x).toList == (mk y).toList) = false := by rw [tl_bs, tl_bs, bs_mk, bs_mk]; simpa using hxy
          have z2 : ((mk x).toList != (mk y).toList) = true := by rw [tl_bs, tl_bs, bs_mk, bs_mk]; simpa using hxy
          have Hxy := Lib.hid hxy; clear hxy
          go_wp2_with (fail)
          go_quiet (fail)
          go_wp2_with (fail)
          go_ret
          refine ⟨ret_bool (Hu.out.trans Hn.out).symm, ?_⟩
          have h := hB2.trans (hb.mono hB2.size)
          exact ⟨h.os, h.tape, h.output, h.size, h.block⟩
      · obtain rfl : k = L.length := by omega
        have he := Heq.out
        rw [List.take_length] at he
        have hn := pre_all he
        have Hn := Lib.hid hn; clear hn he
        go_wp2_with (fail)
        go_ret
        exact ⟨ret_bool (Hu.out.trans Hn.out).symm, hB2.trans (hb.mono hB2.size)⟩
  all_goals
    go_ret
    exact ⟨rfl, hB2⟩

theorem map_bs_mk' (ns : List Bs) : (ns.map mk).map bs = ns := by
  have := map_back0 ns
  rwa [List.append_nil] at this
theorem rd_take {w : World} {ao : Option Addr} {n cap k : Nat} {l : List ByteArray} (h : Rd w 1 encS (.slice ao n cap) l) (hk : k ≤ l.length) : Rd w 1 encS (.slice ao k cap) (l.take k) := by
  obtain ⟨ao', cap', hv, hc, hm, hcell⟩ := h
  simp only [Value.slice.injEq] at hv
  obtain ⟨rfl, rfl, rfl⟩ := hv
  refine ⟨ao, cap, by rw [List.length_take]; congr 1; omega, by rw [List.length_take]; omega, hm, fun i x hx => hcell i x ?_⟩
  rw [List.getElem?_take] at hx
  split at hx
  · exact hx
  · cases hx

set_option maxHeartbeats 4000000 in
theorem rparent_calls (w : World) (p : ByteArray) :
    Calls Tryz.prog 37 #[.string p] w (ParPost w (parD (bs p)) (parN (bs p)) (parE (bs p))) := by
  have h1 := rsplit_calls w p
  have hl6 := split_six (bs p)
  by_cases hE : splitE (bs p) = 0
  · by_cases hL : splitL (bs p) = []
    · have hpe : parE (bs p) = 1 := by rw [parE, if_pos hE, if_pos hL]
      obtain ⟨d1, d2⟩ := par_no (p := bs p) (by rw [hpe]; decide)
      rw [hpe, d1, d2]
      rw [hE, hL] at h1
      clear hpe d1 d2 hE hL hl6
      go_enter Tryz.func37, Tryz.ntmps37
      go_wp2_with (fail)
      refine h1.mono ?_
      rintro e w1 ⟨v1, rfl, hO1, hb1⟩
      obtain ⟨a1, c1, rfl, _, _, _⟩ := rd_cellsS hO1.rd
      go_wp2_with (fail)
      go_ret3
      exact ⟨rfl, hb1⟩
    · obtain ⟨init, n, pre, hp⟩ := par_yes hE hL
      have g1 := (split_ok hE).1
      rw [hp.L] at g1 hl6
      obtain ⟨v1, v2, v3⟩ := joinE_ok.1 g1
      rw [hp.E, hp.D, hp.N]
      rw [hE, hp.L] at h1
      have hI : joinE init = 0 := by
        have hle : (joinP init).length ≤ (bs p).length := by
          have := hp.dir
          rw [← this]
          rw [List.length_take]; omega
        have hb : (bs p).length ≤ 120 := by
          have := hE
          rw [splitE] at this
          split at this
          · cases this
          · omega
        exact joinE_ok.2 ⟨fun x hx => v1 x (by simp [hx]), by simp at v2; omega, by omega⟩
      have hS : joinS init = joinP init := if_pos hI
      have hlen : (init ++ [n]).length = init.length + 1 := by simp
      rw [hlen] at hl6
      have q0 : (((init.length + 1 : Nat) : Int) == 0) = false := beq_false_of_ne (by omega)
      have q0' : ((init.length : Int) + 1 == 0) = false := beq_false_of_ne (by omega)
      have q1 : IntKind.i64.wrap ((init.length : Int) + 1 - 1) = (init.length : Int) := by rw [IntKind.wrap_i64]; omega
      have q2 : (init.length : Int) < (init.length : Int) + 1 := by omega
      have HI := Lib.hid hI; have HS := Lib.hid hS
      clear hE hL hp g1 v1 v2 v3 hI hS
      go_enter Tryz.func37, Tryz.ntmps37
      go_wp2_with (fail)
      refine h1.mono ?_
      rintro e w1 ⟨v1, rfl, hO1, hb1⟩
      have hrd := hO1.rd
      obtain ⟨a1, c1, rfl, hcap, _, hcell⟩ := rd_cellsS hrd
      rw [List.length_map, hlen] at *
      have hrt := rd_take hrd (k := init.length) (by simp)
      rw [List.map_append, List.take_left' (by simp)] at hrt
      have hj := rjoin_calls w1 _ _ hrt (by simp; omega)
      rw [map_bs_mk', HI.out, HS.out] at hj
      have hcl := fun W hW => hcell W hW init.length (mk n) (by simp)
      have Hcl := Lib.hid hcl; have Hcap := Lib.hid hcap; clear hcl hcell hrt hrd hO1
      have q3 : (init.length : Int) ≤ (c1 : Int) := by have := Hcap.out; omega
      go_wp2_with (fail)
      refine hj.mono ?_
      rintro e w2 ⟨rfl, hb2⟩
      have hB2 := hb1.trans (hb2.mono hb1.size)
      obtain ⟨b, off, rfl, _, c0⟩ := Hcl.out w2 hb2
      clear hj h1
      go_wp2_with (fail)
      go_quiet (fail)
      go_wp2_with (fail)
      go_ret3
      exact ⟨rfl, hB2.trans (below_drewN w2 _ |>.mono hB2.size)⟩
  · have hpe : parE (bs p) = splitE (bs p) := by rw [parE, if_neg hE]
    obtain ⟨d1, d2⟩ := par_no (p := bs p) (by rw [hpe]; exact hE)
    rw [hpe, d1, d2]
    clear hpe d1 d2
    generalize splitE (bs p) = E at *
    have q1 : (E != 0) = true := bne_iff_ne.2 hE
    clear hl6
    go_enter Tryz.func37, Tryz.ntmps37
    go_wp2_with (fail)
    refine h1.mono ?_
    rintro e w1 ⟨v1, rfl, hO1, hb1⟩
    go_wp2_with (fail)
    go_ret3
    exact ⟨rfl, hb1⟩
end Go.Proofs.YtpghaghmejgjbaaGreatDoor.Path
