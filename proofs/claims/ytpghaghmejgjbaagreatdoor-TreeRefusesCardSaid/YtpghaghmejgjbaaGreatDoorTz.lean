/- Trees (chapter 7): two lists that are the same. -/
import Derived.Test.YtpghaghmejgjbaaGreatDoorTy
import Derived.Lib.QuietBelow
namespace Go.Proofs.YtpghaghmejgjbaaGreatDoor.Tree
open Go.RowKit
open Path (Bs bs mk bs_mk mk_bs tl_bs splitE splitL MaxC rd_cellsS)
set_option linter.unusedSimpArgs false
set_option linter.unusedVariables false

set_option maxHeartbeats 2000000 in
theorem textsT_calls (w : World) (u v : Value) (l : List ByteArray) (ha : Rd w 1 Path.encS u l) (hb : Rd w 1 Path.encS v l) (hn : l.length ≤ 8796093022208) :
    Calls Tryz.prog 12 #[u, v] w fun e w' => e = .returned (.bool true) ∧ Below w.heap.size w w' := by
  obtain ⟨ao, ca, rfl, _, _, hca⟩ := rd_cellsS ha
  obtain ⟨bo, cb, rfl, _, _, hcb⟩ := rd_cellsS hb
  clear ha hb
  have hll : ((l.length : Int) != (l.length : Int)) = false := by simp
  have Hca := Lib.hid hca; have Hcb := Lib.hid hcb; clear hca hcb
  go_enter Tryz.func12, Tryz.ntmps12
  go_wp2_with (fail)
  go_loopw [5] (fun vk wr => ∃ k : Nat, k ≤ l.length ∧ vk = .int .i64 k ∧ Below w.heap.size w wr) (fun vk _ => l.length - (intOf vk).toNat)
  case atStart => exact ⟨0, Nat.zero_le _, rfl, Below.refl _ _⟩
  case round =>
    obtain ⟨k, hk, rfl, hbr⟩ := hrel
    by_cases hlt : k < l.length
    · obtain ⟨x, hx⟩ : ∃ x, l[k]? = some x := ⟨l[k], by simp [hlt]⟩
      obtain ⟨bx, ox, rfl, _, c0⟩ := Hca.out wr hbr k x hx
      obtain ⟨by', oy, rfl, _, d0⟩ := Hcb.out wr hbr k x hx
      have hxx : (x.toList == x.toList) = true := by simp
      clear hx
      go_wp2_with (fail)
      go_quiet (fail)
      go_wp2_with (fail)
      go_roundw
      case rel => exact ⟨k + 1, by omega, by go_num, ⟨hbr.os, hbr.tape, hbr.output, hbr.size, hbr.block⟩⟩
      case measure => simp [intOf]; omega
    · obtain rfl : k = l.length := by omega
      go_wp2_with (fail)
      go_ret
      exact ⟨rfl, hbr⟩
set_option maxHeartbeats 2000000 in
theorem blocksT_calls (w : World) (u v : Value) (l : List Bl) (ha : Rd w 3 encB u l) (hb : Rd w 3 encB v l) (hn : l.length ≤ 8796093022208) :
    Calls Tryz.prog 79 #[u, v] w fun e w' => e = .returned (.bool true) ∧ Below w.heap.size w w' := by
  obtain ⟨ao, ca, rfl, _, _, hca⟩ := rd_cellsB ha
  obtain ⟨bo, cb, rfl, _, _, hcb⟩ := rd_cellsB hb
  clear ha hb
  have hll : ((l.length : Int) != (l.length : Int)) = false := by simp
  have Hca := Lib.hid hca; have Hcb := Lib.hid hcb; clear hca hcb
  go_enter Tryz.func79, Tryz.ntmps79
  go_wp2_with (fail)
  go_loopw [5] (fun vk wr => ∃ k : Nat, k ≤ l.length ∧ vk = .int .i64 k ∧ Below w.heap.size w wr) (fun vk _ => l.length - (intOf vk).toNat)
  case atStart => exact ⟨0, Nat.zero_le _, rfl, Below.refl _ _⟩
  case round =>
    obtain ⟨k, hk, rfl, hbr⟩ := hrel
    by_cases hlt : k < l.length
    · obtain ⟨x, hx⟩ : ∃ x, l[k]? = some x := ⟨l[k], by simp [hlt]⟩
      obtain ⟨bx, ox, rfl, _, c0, c1, c2⟩ := Hca.out wr hbr k x hx
      obtain ⟨by', oy, rfl, _, d0, d1, d2⟩ := Hcb.out wr hbr k x hx
      clear hx
      go_wp2_with (fail)
      go_quiet (fail)
      go_wp2_with (fail)
      go_roundw
      case rel => exact ⟨k + 1, by omega, by go_num, ⟨hbr.os, hbr.tape, hbr.output, hbr.size, hbr.block⟩⟩
      case measure => simp [intOf]; omega
    · obtain rfl : k = l.length := by omega
      go_wp2_with (fail)
      go_ret
      exact ⟨rfl, hbr⟩
theorem pur_facts {x y : Nd} (h : pur x = pur y) : x.path = y.path ∧ x.dir = y.dir ∧ x.quota = y.quota ∧ x.blocks = y.blocks ∧ x.writer = y.writer := by
  cases x; cases y
  simp only [pur, Nd.mk.injEq] at h
  exact ⟨h.1, h.2.1, h.2.2.1, h.2.2.2.1, h.2.2.2.2.2⟩
set_option maxHeartbeats 2000000 in
theorem nodeT_calls (w : World) (x y : Nd) (h : pur x = pur y) (hx : Rd w 3 encB x.bv x.blocks) (hy : Rd w 3 encB y.bv y.blocks) (hn : x.blocks.length ≤ 8796093022208) :
    Calls Tryz.prog 52 #[.agg #[.string x.path, .bool x.dir, .int .i64 x.quota, x.bv, .int .i64 x.writer], .agg #[.string y.path, .bool y.dir, .int .i64 y.quota, y.bv, .int .i64 y.writer]] w fun e w' => e = .returned (.bool true) ∧ Below w.heap.size w w' := by
  obtain ⟨h1, h2, h3, h4, h5⟩ := pur_facts h
  obtain ⟨ax, cx, hbx⟩ := bv_slice hx
  obtain ⟨ay, cy, hby⟩ := bv_slice hy
  have hy' : Rd w 3 encB y.bv x.blocks := by rw [h4]; exact hy
  have hb2 : Below w.heap.size w ((w.alloc (.cells #[.string x.path, .bool x.dir, .int .i64 x.quota, .slice ax x.blocks.length cx, .int .i64 x.writer] 25 (0, 0))).alloc (.cells #[.string y.path, .bool y.dir, .int .i64 y.quota, .slice ay y.blocks.length cy, .int .i64 y.writer] 25 (0, 0))) := ((Below.refl _ _).alloc (Nat.le_refl _) _).alloc (by simp) _
  have hbl := blocksT_calls ((w.alloc (.cells #[.string x.path, .bool x.dir, .int .i64 x.quota, .slice ax x.blocks.length cx, .int .i64 x.writer] 25 (0, 0))).alloc (.cells #[.string y.path, .bool y.dir, .int .i64 y.quota, .slice ay y.blocks.length cy, .int .i64 y.writer] 25 (0, 0))) x.bv y.bv x.blocks (hx.below hb2 (Nat.le_refl _)) (hy'.below hb2 (Nat.le_refl _)) hn
  have n0 : ((w.alloc (.cells #[.string x.path, .bool x.dir, .int .i64 x.quota, .slice ax x.blocks.length cx, .int .i64 x.writer] 25 (0, 0))).alloc (.cells #[.string y.path, .bool y.dir, .int .i64 y.quota, .slice ay y.blocks.length cy, .int .i64 y.writer] 25 (0, 0))).heap[w.heap.size]? = some (.cells #[.string x.path, .bool x.dir, .int .i64 x.quota, .slice ax x.blocks.length cx, .int .i64 x.writer] 25 (0, 0)) := (heap_alloc_old _ _ (by simp)).trans (heap_alloc_new _ _)
  have n1 : ((w.alloc (.cells #[.string x.path, .bool x.dir, .int .i64 x.quota, .slice ax x.blocks.length cx, .int .i64 x.writer] 25 (0, 0))).alloc (.cells #[.string y.path, .bool y.dir, .int .i64 y.quota, .slice ay y.blocks.length cy, .int .i64 y.writer] 25 (0, 0))).heap[w.heap.size + 1]? = some (.cells #[.string y.path, .bool y.dir, .int .i64 y.quota, .slice ay y.blocks.length cy, .int .i64 y.writer] 25 (0, 0)) := by have := heap_alloc_new (w.alloc (.cells #[.string x.path, .bool x.dir, .int .i64 x.quota, .slice ax x.blocks.length cx, .int .i64 x.writer] 25 (0, 0))) (.cells #[.string y.path, .bool y.dir, .int .i64 y.quota, .slice ay y.blocks.length cy, .int .i64 y.writer] 25 (0, 0)); simpa using this
  have hz : ((w.alloc (.cells #[.string x.path, .bool x.dir, .int .i64 x.quota, .slice ax x.blocks.length cx, .int .i64 x.writer] 25 (0, 0))).alloc (.cells #[.string y.path, .bool y.dir, .int .i64 y.quota, .slice ay y.blocks.length cy, .int .i64 y.writer] 25 (0, 0))).heap.size = w.heap.size + 2 := by simp
  generalize hw2 : (w.alloc (.cells #[.string x.path, .bool x.dir, .int .i64 x.quota, .slice ax x.blocks.length cx, .int .i64 x.writer] 25 (0, 0))).alloc (.cells #[.string y.path, .bool y.dir, .int .i64 y.quota, .slice ay y.blocks.length cy, .int .i64 y.writer] 25 (0, 0)) = w2 at *
  rw [hbx, hby] at hbl ⊢
  obtain ⟨xp, xd, xq, xb, xv, xw⟩ := x
  obtain ⟨yp, yd, yq, yb, yv, yw⟩ := y
  dsimp only at *
  subst h1 h2 h3 h4 h5
  clear h hx hy hy' hbx hby
  have p3 : w2.cell? ⟨w.heap.size, 3, none⟩ = some (.slice ax xb.length cx) := cell_of_blk n0
  have q3 : w2.cell? ⟨w.heap.size + 1, 3, none⟩ = some (.slice ay xb.length cy) := cell_of_blk n1
  have e1 : (xp.toList == xp.toList) = true := by simp
  have e2 : (xd == xd) = true := by simp
  have e3 : (xq == xq) = true := by simp
  have e4 : (xw == xw) = true := by simp
  have Hbl := Lib.hid hbl; clear hbl
  go_enter Tryz.func52, Tryz.ntmps52
  go_wp2_with (fail)
  refine Hbl.out.mono ?_
  rintro e w3 ⟨rfl, hb3⟩
  have m0 := (hb3.block _ (by omega)).trans n0
  have m1 := (hb3.block _ (by omega)).trans n1
  have a0 : w3.cell? ⟨w.heap.size, 0, none⟩ = some (.string xp) := cell_of_blk m0
  have a1 : w3.cell? ⟨w.heap.size, 1, none⟩ = some (.bool xd) := cell_of_blk m0
  have a2 : w3.cell? ⟨w.heap.size, 2, none⟩ = some (.int .i64 xq) := cell_of_blk m0
  have a4 : w3.cell? ⟨w.heap.size, 4, none⟩ = some (.int .i64 xw) := cell_of_blk m0
  have b0 : w3.cell? ⟨w.heap.size + 1, 0, none⟩ = some (.string xp) := cell_of_blk m1
  have b1 : w3.cell? ⟨w.heap.size + 1, 1, none⟩ = some (.bool xd) := cell_of_blk m1
  have b2 : w3.cell? ⟨w.heap.size + 1, 2, none⟩ = some (.int .i64 xq) := cell_of_blk m1
  have b4 : w3.cell? ⟨w.heap.size + 1, 4, none⟩ = some (.int .i64 xw) := cell_of_blk m1
  clear m0 m1
  go_wp2_with (fail)
  go_ret
  exact ⟨rfl, hb2.trans (hb3.mono hb2.size)⟩
set_option maxHeartbeats 4000000 in
theorem nodesT_calls (w : World) (u v : Value) (l m : List Nd) (e : l.map pur = m.map pur) (ha : RdN w u l) (hb : RdN w v m) (hn : l.length ≤ 8796093022208) (hbn : ∀ x ∈ l, x.blocks.length ≤ 8796093022208) :
    Calls Tryz.prog 20 #[u, v] w fun e w' => e = .returned (.bool true) ∧ Below w.heap.size w w' := by
  have hlen : m.length = l.length := by have := congrArg List.length e; simpa using this.symm
  have hnode : ∀ (k : Nat) (x y : Nd), l[k]? = some x → m[k]? = some y → ∀ W, Below w.heap.size w W → Calls Tryz.prog 52 #[.agg #[.string x.path, .bool x.dir, .int .i64 x.quota, x.bv, .int .i64 x.writer], .agg #[.string y.path, .bool y.dir, .int .i64 y.quota, y.bv, .int .i64 y.writer]] W fun e w' => e = .returned (.bool true) ∧ Below W.heap.size W w' := fun k x y hx hy W hW => by
    have hp : pur x = pur y := by
      have := congrArg (fun q => q[k]?) e
      simpa [hx, hy] using this
    exact nodeT_calls W x y hp ((ha.bl x (List.mem_of_getElem? hx)).below hW (Nat.le_refl _)) ((hb.bl y (List.mem_of_getElem? hy)).below hW (Nat.le_refl _)) (hbn x (List.mem_of_getElem? hx))
  have hva := fun x hx => bv_slice (ha.bl x hx)
  have hvb := fun x hx => bv_slice (hb.bl x hx)
  obtain ⟨ao, ca, rfl, _, _, hca⟩ := rd_cellsN ha.rd
  obtain ⟨bo, cb, rfl, _, _, hcb⟩ := rd_cellsN hb.rd
  rw [hlen]
  have Hlen := Lib.hid hlen
  clear ha hb hlen e
  have hll : ((l.length : Int) != (l.length : Int)) = false := by simp
  have Hca := Lib.hid hca; have Hcb := Lib.hid hcb; have Hnode := Lib.hid hnode; have Hva := Lib.hid hva; have Hvb := Lib.hid hvb; clear hca hcb hnode hbn hva hvb
  go_enter Tryz.func20, Tryz.ntmps20
  go_wp2_with (fail)
  go_loopw [5, 6] (fun vk _ wr => ∃ k : Nat, k ≤ l.length ∧ vk = .int .i64 k ∧ Below w.heap.size w wr) (fun vk _ _ => l.length - (intOf vk).toNat)
  case atStart => exact ⟨0, Nat.zero_le _, rfl, Below.refl _ _⟩
  case round =>
    obtain ⟨k, hk, rfl, hbr⟩ := hrel
    by_cases hlt : k < l.length
    · obtain ⟨x, hx⟩ : ∃ x, l[k]? = some x := ⟨l[k], by simp [hlt]⟩
      obtain ⟨y, hy⟩ : ∃ y, m[k]? = some y := ⟨m[k]'(by rw [Hlen.out]; exact hlt), by rw [List.getElem?_eq_getElem]⟩
      obtain ⟨bx, ox, rfl, _, c0, c1, c2, c3, c4⟩ := Hca.out wr hbr k x hx
      obtain ⟨by', oy, rfl, _, d0, d1, d2, d3, d4⟩ := Hcb.out wr hbr k y hy
      have cF : ∀ d os, _ := fun d os => Calls.regrown_of (Hnode.out k x y hx hy (Go.Sort.grow (redrawn wr d) os) (hbr.trans ((below_regrown wr d os).mono hbr.size)))
      obtain ⟨ax, cx, hbx⟩ := Hva.out x (List.mem_of_getElem? hx)
      obtain ⟨ay, cy, hby⟩ := Hvb.out y (List.mem_of_getElem? hy)
      rw [hbx] at c3
      rw [hby] at d3
      simp only [hbx, hby] at cF
      clear hx hy hbx hby
      have C0 := fun d os => cell_regrown c0 d os; have C1 := fun d os => cell_regrown c1 d os; have C2 := fun d os => cell_regrown c2 d os; have C3 := fun d os => cell_regrown c3 d os; have C4 := fun d os => cell_regrown c4 d os
      have D0 := fun d os => cell_regrown d0 d os; have D1 := fun d os => cell_regrown d1 d os; have D2 := fun d os => cell_regrown d2 d os; have D3 := fun d os => cell_regrown d3 d os; have D4 := fun d os => cell_regrown d4 d os
      go_wp2_with (fail)
      refine wp_region_quiet_below (by kernel_rfl) (by kernel_rfl) ?_; (repeat (go_big_quiet_step ((exact cF _ _)))); refine wpQuiet_nil ?_; intro _ hw'; obtain ⟨⟨dq, osq⟩, hw''⟩ := hw'; subst hw''
      have hb9 := hbr.trans ((below_regrown wr dq osq).mono hbr.size)
      go_wp2_with (fail)
      go_roundw
      case rel => exact ⟨k + 1, by omega, by go_num, hb9⟩
      case measure => simp [intOf]; omega
    · obtain rfl : k = l.length := by omega
      go_wp2_with (fail)
      go_ret
      exact ⟨rfl, hbr⟩
end Go.Proofs.YtpghaghmejgjbaaGreatDoor.Tree
