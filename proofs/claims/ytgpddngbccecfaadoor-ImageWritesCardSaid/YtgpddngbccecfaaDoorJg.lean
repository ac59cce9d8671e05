/- Images: ImageWrites, walked. -/
import Derived.Test.YtgpddngbccecfaaDoorJf
import Derived.Test.YtgpddngbccecfaaDoorIh
namespace Go.Proofs.YtgpddngbccecfaaDoor.Image
open Go.RowKit
open Path (Bs bs mk bs_mk mk_bs tl_bs MaxC)
open Tree
open Space (Sp spC RdSp spaceB)
open Wire (numB textB sealB)
set_option linter.unusedSimpArgs false
set_option linter.unusedVariables false
set_option maxHeartbeats 2000000 in
theorem law_writes (w : World) (s : Sp) (h : RdSp w s) (hM : MaxC w) : Calls Tryd.prog 3 #[.agg (spC s)] w fun e w' => e = .returned (.bool true) ∧ Below w.heap.size w w' := by
  have hb0 := (Below.refl w.heap.size w).alloc (Nat.le_refl _) (.cells #[.int .i64 s.txid, .int .i64 s.nb, .int .i64 s.ng, .int .i64 s.now, s.vn, s.vl] 25 (0, 0))
  have hk0 := heap_alloc_new w (.cells #[.int .i64 s.txid, .int .i64 s.nb, .int .i64 s.ng, .int .i64 s.now, s.vn, s.vl] 25 (0, 0))
  have hex := ex_calls (w.alloc (.cells #[.int .i64 s.txid, .int .i64 s.nb, .int .i64 s.ng, .int .i64 s.now, s.vn, s.vl] 25 (0, 0))) (hM.below hb0)
  have hen := fun W (hW : Below w.heap.size w W) => encode_calls W s (h.below hW) (hM.below hW)
  have hre := fun W (hW : Below w.heap.size w W) => rencode_calls W s (h.below hW)
  have Hb0 := Lib.hid hb0; have Hk0 := Lib.hid hk0; have Hex := Lib.hid hex; have Hen := Lib.hid hen; have Hre := Lib.hid hre
  clear hb0 hk0 hex hen hre h hM
  go_enter Tryd.func3, Tryd.ntmps3
  rw [spC] at *
  go_wp2_with (fail)
  refine Hex.out.mono ?_
  rintro e w1 ⟨rfl, b1⟩
  have B1 := Hb0.out.trans (b1.mono (by simp))
  have k1 := (b1.block w.heap.size (by simp)).trans Hk0.out
  obtain ⟨q0, q1, q2, q3, q4, q5⟩ := cells6 k1
  have hs1 : w.heap.size < w1.heap.size := lt_of_block k1
  have hen1 := Hen.out w1 B1
  have HB1 := Lib.hid B1; have K1 := Lib.hid k1; have Hen1 := Lib.hid hen1
  clear hen1 b1 k1 B1 Hen Hex Hb0 Hk0
  go_wp2_with (fail)
  refine Hen1.out.mono ?_
  rintro e w2 ⟨rfl, b2⟩
  have B2 := HB1.out.trans (b2.mono HB1.out.size)
  have k2 := (b2.block w.heap.size hs1).trans K1.out
  obtain ⟨p0, p1, p2, p3, p4, p5⟩ := cells6 k2
  have hre2 := Hre.out w2 B2
  have HB2 := Lib.hid B2; have Hre2 := Lib.hid hre2
  clear hre2 b2 k2 B2 Hre Hen1 q0 q1 q2 q3 q4 q5
  go_wp2_with (fail)
  refine Hre2.out.mono ?_
  rintro e w3 ⟨rfl, b3⟩
  have B3 := HB2.out.trans (b3.mono HB2.out.size)
  have hE : encE s = if encB s = true then 0 else 1 := rfl
  have q : ((mk (encS s)).toList == (mk (encS s)).toList) = true := by simp
  have HB3 := Lib.hid B3; have HE := Lib.hid hE
  clear B3 hE b3 Hre2 p0 p1 p2 p3 p4 p5
  generalize mk (encS s) = S at *
  generalize encE s = E at *
  rcases Bool.eq_false_or_eq_true (encB s) with e | e
  · rw [e]
    obtain rfl : E = 0 := by have := HE.out; rw [e] at this; exact this
    clear e
    go_wp2_with (fail)
    go_ret
    exact ⟨rfl, HB3.out⟩
  · rw [e]
    obtain rfl : E = 1 := by have := HE.out; rw [e] at this; exact this
    clear e
    go_wp2_with (fail)
    go_ret
    exact ⟨rfl, HB3.out⟩
end Go.Proofs.YtgpddngbccecfaaDoor.Image
