/- PathTells: the walk of the law. -/
import Derived.Test.YtbgeiebfjlgcmaaDoorPw
namespace Go.Proofs.YtbgeiebfjlgcmaaDoor.Path
open Go.RowKit
set_option linter.unusedSimpArgs false
set_option linter.unusedVariables false

set_option maxRecDepth 4000 in
set_option maxHeartbeats 4000000 in
theorem law_tells (p a b : ByteArray) (w : World) (hM : MaxC w) :
    Calls Tryd.prog 9 #[.string p, .string a, .string b] w fun e w' => e = .returned (.bool true) ∧ Below w.heap.size w w' := by
  have hex := ex_calls w hM
  have h1 := fun W (hW : Below w.heap.size w W) => parent_calls W p (hM.below hW)
  have h2 := fun W => rparent_calls W p
  have h3 := fun W (hW : Below w.heap.size w W) => move_calls W p a b (hM.below hW)
  have h4 := fun W => rmove_calls W p a b
  have h5 := fun W (hW : Below w.heap.size w W) => under_calls W a p (hM.below hW)
  have h6 := fun W => runder_calls W a p
  generalize parD (bs p) = D at *
  generalize parN (bs p) = N at *
  generalize parE (bs p) = E at *
  generalize moveS (bs p) (bs a) (bs b) = S at *
  generalize moveE (bs p) (bs a) (bs b) = F at *
  generalize underL (bs a) (bs p) = u at *
  have x1 : ((mk D).toList == (mk D).toList) = true := by simp
  have x2 : ((mk N).toList == (mk N).toList) = true := by simp
  have x3 : ((mk S).toList == (mk S).toList) = true := by simp
  have x4 : (u == u) = true := by simp
  have H1 := Lib.hid h1; have H2 := Lib.hid h2; have H3 := Lib.hid h3; have H4 := Lib.hid h4; have H5 := Lib.hid h5; have H6 := Lib.hid h6; clear h1 h2 h3 h4 h5 h6 hM
  go_enter Tryd.func9, Tryd.ntmps9
  go_wp2_with (fail)
  refine hex.mono ?_
  rintro e w1 ⟨rfl, hB1⟩
  go_wp2_with (fail)
  refine (H1.out _ hB1).mono ?_
  rintro e w2 ⟨rfl, hb2⟩
  have hB2 := hB1.trans (hb2.mono hB1.size)
  go_wp2_with (fail)
  refine (H2.out _).mono ?_
  rintro e w3 ⟨rfl, hb3⟩
  have hB3 := hB2.trans (hb3.mono hB2.size)
  go_wp2_with (fail)
  refine (H3.out _ hB3).mono ?_
  rintro e w4 ⟨rfl, hb4⟩
  have hB4 := hB3.trans (hb4.mono hB3.size)
  go_wp2_with (fail)
  refine (H4.out _).mono ?_
  rintro e w5 ⟨rfl, hb5⟩
  have hB5 := hB4.trans (hb5.mono hB4.size)
  go_wp2_with (fail)
  refine (H5.out _ hB5).mono ?_
  rintro e w6 ⟨rfl, hb6⟩
  have hB6 := hB5.trans (hb6.mono hB5.size)
  go_wp2_with (fail)
  refine (H6.out _).mono ?_
  rintro e w7 ⟨rfl, hb7⟩
  go_wp2_with (fail)
  go_ret
  exact ⟨ret_bool (by simp), hB6.trans (hb7.mono hB6.size)⟩
end Go.Proofs.YtbgeiebfjlgcmaaDoor.Path
