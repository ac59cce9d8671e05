/- PathMoves: the walk of the law. -/
import Derived.Test.YtbgeiebfjlgcmaaDoorPi
namespace Go.Proofs.YtbgeiebfjlgcmaaDoor.Path
open Go.RowKit
set_option linter.unusedSimpArgs false

theorem move_bad {p a b : Bs} (h : moveE p a b ≠ 0) : moveS p a b = [] := by
  cases hok : moveOk p a b
  · exact (move_no hok).2
  · obtain ⟨e1, e2, _⟩ := move_yes hok
    rw [e2, join_bad (by rw [← e1]; exact h)]
theorem move_back {p a b : Bs} (h : moveE p a b = 0) : moveE (moveS p a b) b a = 0 ∧ moveS (moveS p a b) b a = p ∧ underL b (moveS p a b) = true := by
  cases hok : moveOk p a b
  · rw [(move_no hok).1] at h; cases h
  · obtain ⟨e1, e2, hu, eA, eP, eB, hle⟩ := move_yes hok
    rw [e1] at h
    have hq : joinS (moveN p a b) = joinP (moveN p a b) := if_pos h
    rw [e2, hq]
    obtain ⟨hE, hL⟩ := join_ok h
    have hU : underL b (joinP (moveN p a b)) = true := by
      rw [underL, eB, hE, hL]
      simp [moveN, List.isPrefixOf_iff_prefix]
    have hok2 : moveOk (joinP (moveN p a b)) b a = true := by rw [moveOk, hU, eA]; rfl
    obtain ⟨f1, f2, _⟩ := move_yes hok2
    have hpre : splitL a <+: splitL p := by
      simp only [underL, Bool.and_eq_true, decide_eq_true_eq] at hu
      exact List.isPrefixOf_iff_prefix.1 hu.2
    have hN : moveN (joinP (moveN p a b)) b a = splitL p := by
      rw [moveN, hL, moveN, List.drop_left' rfl]
      obtain ⟨t, ht⟩ := hpre
      rw [← ht, List.drop_left' rfl]
    obtain ⟨g1, g2⟩ := split_ok eP
    refine ⟨by rw [f1, hN, g1], ?_, hU⟩
    rw [f2, hN, joinS, if_pos g1, g2]

set_option maxHeartbeats 4000000 in
theorem law_moves (p a b : ByteArray) (w : World) (hM : MaxC w) :
    Calls Tryd.prog 5 #[.string p, .string a, .string b] w fun e w' => e = .returned (.bool true) ∧ Below w.heap.size w w' := by
  have hex := ex_calls w hM
  have h1 := fun W (hW : Below w.heap.size w W) => move_calls W p a b (hM.below hW)
  by_cases hE : moveE (bs p) (bs a) (bs b) = 0
  · obtain ⟨f1, f2, f3⟩ := move_back hE
    have h2 := fun W (hW : Below w.heap.size w W) => move_calls W (mk (moveS (bs p) (bs a) (bs b))) b a (hM.below hW)
    have h3 := fun W (hW : Below w.heap.size w W) => under_calls W b (mk (moveS (bs p) (bs a) (bs b))) (hM.below hW)
    rw [bs_mk] at h2 h3
    rw [f1, f2] at h2
    rw [f3] at h3
    rw [hE] at h1
    generalize moveS (bs p) (bs a) (bs b) = q at *
    have hpp : (p.toList == p.toList) = true := by simp
    have H1 := Lib.hid h1; have H2 := Lib.hid h2; have H3 := Lib.hid h3; clear h1 h2 h3 f1 f2 f3 hM hE
    go_enter Tryd.func5, Tryd.ntmps5
    go_wp2_with (fail)
    refine hex.mono ?_
    rintro e w1 ⟨rfl, hB1⟩
    go_wp2_with (fail)
    refine (H1.out _ hB1).mono ?_
    rintro e w2 ⟨rfl, hb2⟩
    have hB2 := hB1.trans (hb2.mono hB1.size)
    go_wp2_with (fail)
    refine (H2.out _ hB2).mono ?_
    rintro e w3 ⟨rfl, hb3⟩
    rw [mk_bs]
    have hB3 := hB2.trans (hb3.mono hB2.size)
    go_wp2_with (fail)
    refine (H3.out _ hB3).mono ?_
    rintro e w4 ⟨rfl, hb4⟩
    go_wp2_with (fail)
    go_ret
    exact ⟨rfl, hB3.trans (hb4.mono hB3.size)⟩
  · rw [move_bad hE] at h1
    generalize moveE (bs p) (bs a) (bs b) = E at *
    have q1 : (E != 0) = true := bne_iff_ne.2 hE
    have H1 := Lib.hid h1; clear h1 hM
    go_enter Tryd.func5, Tryd.ntmps5
    go_wp2_with (fail)
    refine hex.mono ?_
    rintro e w1 ⟨rfl, hB1⟩
    go_wp2_with (fail)
    refine (H1.out _ hB1).mono ?_
    rintro e w2 ⟨rfl, hb2⟩
    have hB2 := hB1.trans (hb2.mono hB1.size)
    have hm0 : mk [] = ⟨#[]⟩ := rfl
    rw [hm0]
    go_wp2_with (fail)
    go_ret
    exact ⟨rfl, hB2⟩
end Go.Proofs.YtbgeiebfjlgcmaaDoor.Path
