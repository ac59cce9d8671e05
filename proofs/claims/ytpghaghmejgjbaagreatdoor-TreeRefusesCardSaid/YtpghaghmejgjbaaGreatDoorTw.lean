/- Trees: what Move does to each node. -/
import Derived.Test.YtpghaghmejgjbaaGreatDoorTv
import Derived.Deep.RegionHeld3
namespace Go.Proofs.YtpghaghmejgjbaaGreatDoor.Tree
open Go.RowKit
open Path (Bs bs mk bs_mk mk_bs tl_bs splitE splitL MaxC parD parE parN underL under_calls moveE moveS move_calls)
set_option linter.unusedSimpArgs false
set_option linter.unusedVariables false

def mvN (a b : Bs) (x : Nd) : Nd := if underL a (bs x.path) = true then { x with path := mk (moveS (bs x.path) a b) } else x
def mvK (a b : Bs) (x : Nd) : Bool := underL a (bs x.path) || !(bs x.path == b)
def mvBad (a b : Bs) (x : Nd) : Bool := underL a (bs x.path) && decide (moveE (bs x.path) a b ≠ 0)
set_option maxHeartbeats 4000000 in
theorem mv1_calls (w : World) (A B C : Nat) (p q : ByteArray) (g : Bool) (x : Nd) (hx : ∃ ax cx, x.bv = .slice ax x.blocks.length cx) (hA : w.heap[A]? = some (.cells #[.string p] 9 (0, 0))) (hB : w.heap[B]? = some (.cells #[.string q] 9 (0, 0))) (hC : w.heap[C]? = some (.cells #[.bool g] 4 (0, 0))) (hAC : A ≠ C) (hBC : B ≠ C) (hM : MaxC w) :
    Calls Tryz.prog 50 #[.agg #[.string x.path, .bool x.dir, .int .i64 x.quota, x.bv, .int .i64 x.writer], .pointer (some ⟨A, 0, none⟩), .pointer (some ⟨B, 0, none⟩), .pointer (some ⟨C, 0, none⟩)] w fun e w' =>
      e = .returned (.tuple #[.agg #[.string (mvN (bs p) (bs q) x).path, .bool (mvN (bs p) (bs q) x).dir, .int .i64 (mvN (bs p) (bs q) x).quota, x.bv, .int .i64 (mvN (bs p) (bs q) x).writer], .bool (mvK (bs p) (bs q) x)]) ∧ Upd (fun i => i = C) w w' ∧
        w'.heap[C]? = some (.cells #[.bool (g || mvBad (bs p) (bs q) x)] 4 (0, 0)) := by
  obtain ⟨ax, cx, hv⟩ := hx
  rw [hv]
  have hU := fun W (hW : Below w.heap.size w W) => under_calls W p x.path (hM.below hW)
  have hMv := fun W (hW : Below w.heap.size w W) => move_calls W x.path p q (hM.below hW)
  have hkA : ∀ W, Below w.heap.size w W → W.cell? ⟨A, 0, none⟩ = some (.string p) := fun W hW => cell_of_blk (j := 0) ((hW.block _ (lt_of_block hA)).trans hA)
  have hkB : ∀ W, Below w.heap.size w W → W.cell? ⟨B, 0, none⟩ = some (.string q) := fun W hW => cell_of_blk (j := 0) ((hW.block _ (lt_of_block hB)).trans hB)
  have hkC : ∀ W, Below w.heap.size w W → W.cell? ⟨C, 0, none⟩ = some (.bool g) ∧ W.frozen? ⟨C, 0, none⟩ = false := fun W hW => ⟨cell_of_blk (j := 0) ((hW.block _ (lt_of_block hC)).trans hC), free_of_blk (j := 0) ((hW.block _ (lt_of_block hC)).trans hC)⟩
  have lA := lt_of_block hA
  have lB := lt_of_block hB
  have lC := lt_of_block hC
  have hb2 : Below w.heap.size w ((w.alloc (.cells #[.string x.path, .bool x.dir, .int .i64 x.quota, .slice ax x.blocks.length cx, .int .i64 x.writer] 25 (0, 0))).alloc (.cells #[.string ⟨#[]⟩, .bool false, .int .i64 0, .slice none 0 0, .int .i64 0] 25 (0, 0))) := ((Below.refl _ _).alloc (Nat.le_refl _) _).alloc (by simp) _
  have n0 : ((w.alloc (.cells #[.string x.path, .bool x.dir, .int .i64 x.quota, .slice ax x.blocks.length cx, .int .i64 x.writer] 25 (0, 0))).alloc (.cells #[.string ⟨#[]⟩, .bool false, .int .i64 0, .slice none 0 0, .int .i64 0] 25 (0, 0))).heap[w.heap.size]? = some (.cells #[.string x.path, .bool x.dir, .int .i64 x.quota, .slice ax x.blocks.length cx, .int .i64 x.writer] 25 (0, 0)) := (heap_alloc_old _ _ (by simp)).trans (heap_alloc_new _ _)
  have n1 : ((w.alloc (.cells #[.string x.path, .bool x.dir, .int .i64 x.quota, .slice ax x.blocks.length cx, .int .i64 x.writer] 25 (0, 0))).alloc (.cells #[.string ⟨#[]⟩, .bool false, .int .i64 0, .slice none 0 0, .int .i64 0] 25 (0, 0))).heap[w.heap.size + 1]? = some (.cells #[.string ⟨#[]⟩, .bool false, .int .i64 0, .slice none 0 0, .int .i64 0] 25 (0, 0)) := by have := heap_alloc_new (w.alloc (.cells #[.string x.path, .bool x.dir, .int .i64 x.quota, .slice ax x.blocks.length cx, .int .i64 x.writer] 25 (0, 0))) (.cells #[.string ⟨#[]⟩, .bool false, .int .i64 0, .slice none 0 0, .int .i64 0] 25 (0, 0)); simpa using this
  generalize hw2 : (w.alloc (.cells #[.string x.path, .bool x.dir, .int .i64 x.quota, .slice ax x.blocks.length cx, .int .i64 x.writer] 25 (0, 0))).alloc (.cells #[.string ⟨#[]⟩, .bool false, .int .i64 0, .slice none 0 0, .int .i64 0] 25 (0, 0)) = w2 at *
  have hn := lt_of_block n1
  have kA := hkA w2 hb2
  have hS : ∀ W, Below w2.heap.size w2 W → (W.cell? ⟨w.heap.size, 0, none⟩ = some (.string x.path) ∧ W.cell? ⟨w.heap.size, 1, none⟩ = some (.bool x.dir) ∧ W.cell? ⟨w.heap.size, 2, none⟩ = some (.int .i64 x.quota) ∧ W.cell? ⟨w.heap.size, 3, none⟩ = some (.slice ax x.blocks.length cx) ∧ W.cell? ⟨w.heap.size, 4, none⟩ = some (.int .i64 x.writer)) ∧
      (W.cell? ⟨w.heap.size + 1, 0, none⟩ = some (.string ⟨#[]⟩) ∧ W.cell? ⟨w.heap.size + 1, 1, none⟩ = some (.bool false) ∧ W.cell? ⟨w.heap.size + 1, 2, none⟩ = some (.int .i64 0) ∧ W.cell? ⟨w.heap.size + 1, 3, none⟩ = some (.slice none 0 0) ∧ W.cell? ⟨w.heap.size + 1, 4, none⟩ = some (.int .i64 0)) ∧
      (∀ j, W.frozen? ⟨w.heap.size, j, none⟩ = false) ∧ (∀ j, W.frozen? ⟨w.heap.size + 1, j, none⟩ = false) ∧ W.heap[w.heap.size + 1]? = some (.cells #[.string ⟨#[]⟩, .bool false, .int .i64 0, .slice none 0 0, .int .i64 0] 25 (0, 0)) := fun W hW => by
    have e0 : W.heap[w.heap.size]? = some (.cells #[.string x.path, .bool x.dir, .int .i64 x.quota, .slice ax x.blocks.length cx, .int .i64 x.writer] 25 (0, 0)) := (hW.block _ (by omega)).trans n0
    have e1 : W.heap[w.heap.size + 1]? = some (.cells #[.string ⟨#[]⟩, .bool false, .int .i64 0, .slice none 0 0, .int .i64 0] 25 (0, 0)) := (hW.block _ hn).trans n1
    exact ⟨⟨cell_of_blk e0, cell_of_blk e0, cell_of_blk e0, cell_of_blk e0, cell_of_blk e0⟩, ⟨cell_of_blk e1, cell_of_blk e1, cell_of_blk e1, cell_of_blk e1, cell_of_blk e1⟩, fun j => free_of_blk e0, fun j => free_of_blk e1, e1⟩
  have HS := Lib.hid hS; clear hS
  have HU := Lib.hid hU; have HMv := Lib.hid hMv; have HkA := Lib.hid hkA; have HkB := Lib.hid hkB; have HkC := Lib.hid hkC; have HC := Lib.hid hC
  have e0 : w2.cell? ⟨w.heap.size, 0, none⟩ = some (.string x.path) := cell_of_blk n0
  have N0 := Lib.hid n0; have N1 := Lib.hid n1
  clear hU hMv hkA hkB hkC hA hB hC hv n0 n1
  go_enter Tryz.func50, Tryz.ntmps50
  go_wp2_with (fail)
  refine (HU.out _ hb2).mono ?_
  rintro e w3 ⟨rfl, hb3⟩
  have hB3 := hb2.trans (hb3.mono hb2.size)
  have hB23 := hb3
  obtain ⟨⟨k0, k1, k2, k3, k4⟩, ⟨y0, y1, y2, y3, y4⟩, fn, fz, N3⟩ := HS.out w3 hb3
  have ha3 := HkA.out w3 hB3
  have hq3 := HkB.out w3 hB3
  have f0 := fz 0; have f1 := fz 1; have f2 := fz 2; have f3 := fz 3; have f4 := fz 4
  clear fz
  have N3' := Lib.hid N3; clear N3
  cases hu : underL (bs p) (bs x.path)
  · have e1 : mvN (bs p) (bs q) x = x := by rw [mvN, hu]; rfl
    have e2 : mvK (bs p) (bs q) x = !(bs x.path == bs q) := by rw [mvK, hu]; rfl
    have e3 : mvBad (bs p) (bs q) x = false := by rw [mvBad, hu]; rfl
    have hsl : (x.path.toList == q.toList) = (bs x.path == bs q) := by rw [tl_bs, tl_bs]
    rw [← hsl] at e2
    have E1 := Lib.hid e1; have E2 := Lib.hid e2; have E3 := Lib.hid e3
    clear e1 e2 e3 hu hsl
    go_wp2_with (fail)
    have hne1 : ¬ B = w.heap.size + 1 := by omega
    have hne2 : B ≠ w.heap.size + 1 := hne1
    have hne3 : w.heap.size + 1 ≠ B := by omega
    go_region_held3 (fun w' => w'.cell? ⟨B, 0, none⟩ = some (.string q) ∧ w'.cell? ⟨w.heap.size, 0, none⟩ = some (.string x.path) ∧ w'.cell? ⟨w.heap.size, 1, none⟩ = some (.bool x.dir) ∧ w'.cell? ⟨w.heap.size, 2, none⟩ = some (.int .i64 x.quota) ∧ w'.cell? ⟨w.heap.size, 3, none⟩ = some (.slice ax x.blocks.length cx) ∧ w'.cell? ⟨w.heap.size, 4, none⟩ = some (.int .i64 x.writer)) (go_keep) (fail)
    go_wp2_with (fail)
    have hr := heap_setCell_same _ _ 4 _ _ (.int .i64 x.writer) (heap_setCell_same _ _ 3 _ _ (.slice ax x.blocks.length cx) (heap_setCell_same _ _ 2 _ _ (.int .i64 x.quota) (heap_setCell_same _ _ 1 _ _ (.bool x.dir) (heap_setCell_same _ _ 0 _ _ (.string x.path) N3'.out))))
    refine bodyPost_ret (results_cell_tmp rfl _ _ (w.heap.size + 1) _ _ _ rfl hr Tryz.underlying25 rfl (by kernel_rfl)) rfl ?_
    rw [E1.out, E2.out, E3.out, Bool.or_false]
    have hB9 := ((((hB3.setCell (p := ⟨w.heap.size + 1, 0, none⟩) (by simp) (.string x.path)).setCell (p := ⟨w.heap.size + 1, 1, none⟩) (by simp) (.bool x.dir)).setCell (p := ⟨w.heap.size + 1, 2, none⟩) (by simp) (.int .i64 x.quota)).setCell (p := ⟨w.heap.size + 1, 3, none⟩) (by simp) (.slice ax x.blocks.length cx)).setCell (p := ⟨w.heap.size + 1, 4, none⟩) (by simp) (.int .i64 x.writer)
    exact ⟨rfl, (Upd.of_below hB9 _).drew, (hB9.block _ lC).trans HC.out⟩
  · have e1 : mvN (bs p) (bs q) x = { x with path := mk (moveS (bs x.path) (bs p) (bs q)) } := by rw [mvN, hu]; rfl
    have e2 : mvK (bs p) (bs q) x = true := by rw [mvK, hu]; rfl
    have e3 : mvBad (bs p) (bs q) x = decide (moveE (bs x.path) (bs p) (bs q) ≠ 0) := by rw [mvBad, hu]; rfl
    have hmv : Calls Tryz.prog 51 #[.string x.path, .string p, .string q] w3 fun e w' => e = .returned (.tuple #[.string (mk (moveS (bs x.path) (bs p) (bs q))), .int .i64 (moveE (bs x.path) (bs p) (bs q))]) ∧ Below w3.heap.size w3 w' := HMv.out w3 hB3
    generalize mk (moveS (bs x.path) (bs p) (bs q)) = np at *
    generalize moveE (bs x.path) (bs p) (bs q) = E at *
    have E1 := Lib.hid e1; have E2 := Lib.hid e2; have E3 := Lib.hid e3
    clear e1 e2 e3 hu
    go_wp2_with (fail)
    refine hmv.mono ?_
    rintro e w4 ⟨rfl, hb4⟩
    clear hmv
    have hB4 := hB3.trans (hb4.mono hB3.size)
    have hB24 := hb3.trans (hb4.mono hb3.size)
    clear k0 k1 k2 k3 k4 y0 y1 y2 y3 y4 fn f0 f1 f2 f3 f4 N3' ha3 hq3
    obtain ⟨⟨k0, k1, k2, k3, k4⟩, ⟨y0, y1, y2, y3, y4⟩, fn, fz, N3⟩ := HS.out w4 hB24
    have f0 := fz 0; have f1 := fz 1; have f2 := fz 2; have f3 := fz 3; have f4 := fz 4; have f5 := fn 0
    obtain ⟨c5, f6⟩ := HkC.out w4 hB4
    have N3' := Lib.hid N3; clear N3 fz fn
    have hne1 : ¬ C = w.heap.size := by omega
    have hne2 : ¬ w.heap.size = C := by omega
    have hne3 : ¬ C = w.heap.size + 1 := by omega
    have hne4 : ¬ w.heap.size + 1 = C := by omega
    have hC4 := (hB4.block _ lC).trans HC.out
    have hend : ∀ u : Bool, ((((((((w4.setCell ⟨C, 0, none⟩ (.bool u)).setCell ⟨w.heap.size, 0, none⟩ (.string np)).setCell ⟨w.heap.size + 1, 0, none⟩ (.string np)).setCell ⟨w.heap.size + 1, 1, none⟩ (.bool x.dir)).setCell ⟨w.heap.size + 1, 2, none⟩ (.int .i64 x.quota)).setCell ⟨w.heap.size + 1, 3, none⟩ (.slice ax x.blocks.length cx)).setCell ⟨w.heap.size + 1, 4, none⟩ (.int .i64 x.writer))).heap[w.heap.size + 1]? = some (.cells #[.string np, .bool x.dir, .int .i64 x.quota, .slice ax x.blocks.length cx, .int .i64 x.writer] 25 (0, 0)) ∧ Upd (fun i => i = C) w ((((((((w4.setCell ⟨C, 0, none⟩ (.bool u)).setCell ⟨w.heap.size, 0, none⟩ (.string np)).setCell ⟨w.heap.size + 1, 0, none⟩ (.string np)).setCell ⟨w.heap.size + 1, 1, none⟩ (.bool x.dir)).setCell ⟨w.heap.size + 1, 2, none⟩ (.int .i64 x.quota)).setCell ⟨w.heap.size + 1, 3, none⟩ (.slice ax x.blocks.length cx)).setCell ⟨w.heap.size + 1, 4, none⟩ (.int .i64 x.writer))) ∧ ((((((((w4.setCell ⟨C, 0, none⟩ (.bool u)).setCell ⟨w.heap.size, 0, none⟩ (.string np)).setCell ⟨w.heap.size + 1, 0, none⟩ (.string np)).setCell ⟨w.heap.size + 1, 1, none⟩ (.bool x.dir)).setCell ⟨w.heap.size + 1, 2, none⟩ (.int .i64 x.quota)).setCell ⟨w.heap.size + 1, 3, none⟩ (.slice ax x.blocks.length cx)).setCell ⟨w.heap.size + 1, 4, none⟩ (.int .i64 x.writer))).heap[C]? = some (.cells #[.bool u] 4 (0, 0)) := fun u => by
      refine ⟨?_, ?_, ?_⟩
      · exact heap_setCell_same _ _ 4 _ _ (.int .i64 x.writer) (heap_setCell_same _ _ 3 _ _ (.slice ax x.blocks.length cx) (heap_setCell_same _ _ 2 _ _ (.int .i64 x.quota) (heap_setCell_same _ _ 1 _ _ (.bool x.dir) (heap_setCell_same _ _ 0 _ _ (.string np) ((heap_setCell_other _ ⟨w.heap.size, 0, none⟩ _ (.string np) (show w.heap.size + 1 ≠ w.heap.size by omega)).trans ((heap_setCell_other w4 ⟨C, 0, none⟩ _ (.bool u) hne4).trans N3'.out))))))
      · exact ((((((((Upd.of_below hB4 (fun i => i = C)).setCell (p := ⟨C, 0, none⟩) (.inl rfl) _).setCell (.inr (Nat.le_refl _)) _).setCell (.inr (Nat.le_succ _)) _).setCell (.inr (Nat.le_succ _)) _).setCell (.inr (Nat.le_succ _)) _).setCell (.inr (Nat.le_succ _)) _).setCell (.inr (Nat.le_succ _)) _)
      · have h7 := heap_setCell_same _ _ 0 _ _ (.bool u) hC4
        have ot : ∀ (W : World) (j : Nat) (z : Value), (W.setCell ⟨w.heap.size + 1, j, none⟩ z).heap[C]? = W.heap[C]? := fun W j z => heap_setCell_other W _ _ z hne3
        rw [ot, ot, ot, ot, ot, heap_setCell_other _ ⟨w.heap.size, 0, none⟩ _ (.string np) hne1]
        exact h7
    have Hend := Lib.hid hend; clear hend hC4
    cases g
    · go_wp2_with (fail)
      obtain ⟨r1, r2, r3⟩ := Hend.out (E != 0)
      refine bodyPost_ret (results_cell_tmp rfl _ _ (w.heap.size + 1) _ _ _ rfl r1 Tryz.underlying25 rfl (by kernel_rfl)) rfl ?_
      rw [E1.out, E2.out, E3.out]
      refine ⟨rfl, r2, r3.trans ?_⟩
      rw [Bool.false_or]
      by_cases h0 : E = 0 <;> simp [h0]
    · go_wp2_with (fail)
      obtain ⟨r1, r2, r3⟩ := Hend.out true
      refine bodyPost_ret (results_cell_tmp rfl _ _ (w.heap.size + 1) _ _ _ rfl r1 Tryz.underlying25 rfl (by kernel_rfl)) rfl ?_
      rw [E1.out, E2.out, E3.out]
      exact ⟨rfl, r2, r3⟩
end Go.Proofs.YtpghaghmejgjbaaGreatDoor.Tree
