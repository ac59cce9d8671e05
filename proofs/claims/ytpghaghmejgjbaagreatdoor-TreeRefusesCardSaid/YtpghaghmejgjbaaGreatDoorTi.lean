/- Trees: tree.Right, walked. -/
import Derived.Test.YtpghaghmejgjbaaGreatDoorTh
import Derived.Lib.QuietBelow
import Derived.Laws.Cover1
namespace Go.Proofs.YtpghaghmejgjbaaGreatDoor.Tree
open Go.RowKit
open Path (Bs bs mk bs_mk mk_bs tl_bs splitE splitL MaxC parD parE parN)
set_option linter.unusedSimpArgs false
set_option linter.unusedVariables false

set_option maxHeartbeats 4000000 in
theorem right_no (w : World) (v : Value) (l : List Nd) (h : Rd w 5 encN v l) (hn : l.length ≤ 8796093022208) (hh : headOk l = false) :
    Calls Tryz.prog 15 #[v] w fun e w' => e = .returned (.bool false) ∧ Below w.heap.size w w' := by
  obtain ⟨ao, cap, rfl, _, _, hcell⟩ := rd_cellsN h
  have Hcell := Lib.hid hcell
  have hb0 : ∀ o, Below w.heap.size w (w.alloc o) := fun o => (Below.refl _ _).alloc (Nat.le_refl _) _
  have Hb0 := Lib.hid hb0
  have hw := head_ways l
  clear hcell h hb0
  rcases hw with ⟨c1, _⟩ | ⟨c1, c2, _⟩ | ⟨x, c1, c2, hx, c3, _⟩ | ⟨x, c1, c2, hx, c3, c4, _⟩ | ⟨x, c1, c2, hx, c3, c4, h5⟩
  rotate_right
  · rw [hh] at h5; cases h5
  all_goals
    clear hh
    try
      obtain ⟨b, off, rfl, hlb, k0, k1, k2, k3, k4⟩ := Hcell.out _ (Hb0.out (.cells #[.slice ao l.length cap] 22 (0, 0))) 0 x hx
      simp only [Nat.zero_mul, Nat.add_zero] at k0 k1 k2 k3 k4
      have hpos := (List.getElem?_eq_some_iff.1 hx).1
      clear hx
    try rw [c4] at k1
    try have c3' : (x.path.toList == [47]) = false := by simpa [bne] using c3
    try have c3' : (x.path.toList == [47]) = true := by simpa [bne] using c3
    go_enter Tryz.func15, Tryz.ntmps15
    go_wp2_with (fail)
    go_ret
    exact ⟨rfl, Hb0.out _⟩

set_option maxHeartbeats 8000000 in
theorem right_calls (w : World) (v : Value) (l : List Nd) (h : RdN w v l) (hn : l.length ≤ 8796093022208) (hM : MaxC w) :
    Calls Tryz.prog 15 #[v] w fun e w' => e = .returned (.bool (rightT l)) ∧ Below w.heap.size w w' := by
  by_cases hh0 : headOk l = false
  · rw [rightT, rightA, hh0]
    exact right_no w v l h.rd hn hh0
  have hh : headOk l = true := by simpa using hh0
  clear hh0
  obtain ⟨x0, c1, c2, hx0, c3, c4⟩ : ∃ x, ((l.length : Int) == 0) = false ∧ ¬ 60 < (l.length : Int) ∧ l[0]? = some x ∧ (x.path.toList == [47]) = true ∧ x.dir = true := by
    rcases head_ways l with ⟨_, h5⟩ | ⟨_, _, h5⟩ | ⟨x, _, _, _, _, h5⟩ | ⟨x, _, _, _, _, _, h5⟩ | ⟨x, c1, c2, hx, c3, c4, h5⟩
    all_goals try (rw [hh] at h5; cases h5)
    exact ⟨x, c1, c2, hx, by simpa [bne] using c3, c4⟩
  have hfit := fun W (hW : Below w.heap.size w W) x (hx : x ∈ l) => fits_calls W x ((h.bl x hx).below hW (Nat.le_refl _)) (hM.below hW)
  have hany := fun bt W (hW : Below w.heap.size w W) (hc : W.heap[bt]? = some (.cells #[v] 22 (0, 0))) (hs : Rises l) => hasn_calls W 44 (.pointer (some ⟨bt, 0, none⟩)) (dirBad l)
  have hR : ∀ W, Below w.heap.size w W → RdN W v l := fun W hW => h.below hW
  have hMM : ∀ W, Below w.heap.size w W → MaxC W := fun W hW => hM.below hW
  have hbvs : ∀ x ∈ l, ∃ ao cap, x.bv = .slice ao x.blocks.length cap := fun x hx => bv_slice (h.bl x hx)
  obtain ⟨ao, cap, rfl, hcap, _, hcell⟩ := rd_cellsN h.rd
  have Hcell := Lib.hid hcell; have Hfit := Lib.hid hfit; have HR := Lib.hid hR; have HM := Lib.hid hMM; have Hbvs := Lib.hid hbvs
  have Hh := Lib.hid hh
  clear hcell h hfit hany hR hMM hM hbvs hh
  have hb0 : Below w.heap.size w (w.alloc (.cells #[.slice ao l.length cap] 22 (0, 0))) := (Below.refl _ _).alloc (Nat.le_refl _) _
  have hk0 := heap_alloc_new w (.cells #[.slice ao l.length cap] 22 (0, 0))
  obtain ⟨b, off, rfl, hlb, k0, k1, k2, k3, k4⟩ := Hcell.out _ hb0 0 x0 hx0
  simp only [Nat.zero_mul, Nat.add_zero] at k0 k1 k2 k3 k4
  rw [c4] at k1
  have hpos := (List.getElem?_eq_some_iff.1 hx0).1
  clear hx0 k2 k3 k4 c4
  go_enter Tryz.func15, Tryz.ntmps15
  go_wp2_with (fail)
  generalize hw0 : w.alloc (.cells #[.slice (some ⟨b, off, none⟩) l.length cap] 22) = w0 at *
  have hbt : w.heap.size < w0.heap.size := lt_of_block hk0
  have hsz0 := hb0.size
  generalize hgt : w.heap.size = bt at *
  clear k0 k1 hw0 c1 c3
  have Hb0 := Lib.hid hb0; have Hk0 := Lib.hid hk0; clear hb0 hk0
  go_loopw [29] (fun vk wr => ∃ k : Nat, vk = .int .i64 k ∧ k ≤ l.length ∧ (∀ j, j < k → okA l j = true) ∧ Below w0.heap.size w0 wr) (fun vk _ => l.length - (intOf vk).toNat)
  case atStart => exact ⟨0, rfl, Nat.zero_le _, fun j hj => by omega, Below.refl _ _⟩
  case round =>
    obtain ⟨k, rfl, hk, hall, hb⟩ := hrel
    have Hall := Lib.hid hall; clear hall
    have hsz := hb.size
    have hbw : Below bt w wr := Hb0.out.trans (hb.mono hsz0)
    have hkr : wr.heap[bt]? = _ := (hb.block bt hbt).trans Hk0.out
    have Hkr := Lib.hid hkr
    have kr := cell_of_one hkr
    have hbtr : bt < wr.heap.size := by omega
    clear hkr
    by_cases hlt : k < l.length
    · obtain ⟨x, hx⟩ : ∃ x, l[k]? = some x := ⟨l[k], by simp [hlt]⟩
      obtain ⟨b', off', he, _, d0, d1, d2, d3, d4⟩ := Hcell.out wr hbw k x hx
      simp only [Option.some.injEq, Addr.mk.injEq, and_true] at he
      obtain ⟨rfl, rfl⟩ := he
      have hbr : b < wr.heap.size := by omega
      have hxm := List.mem_of_getElem? hx
      obtain ⟨ax, cx, hbvx⟩ := Hbvs.out x hxm
      have hfx := fun W hW => Hfit.out W hW x hxm
      rw [hbvx] at hfx d3
      have ways := okA_ways hx
      have Hx := Lib.hid hx; have Hxm := Lib.hid hxm
      clear hx hxm hbvx
      have hA := hb.alloc hsz (.cells #[.string x.path, .bool x.dir, .int .i64 x.quota, .slice ax x.blocks.length cx, .int .i64 x.writer] 25 (0, 0))
      have hAk := heap_alloc_new wr (.cells #[.string x.path, .bool x.dir, .int .i64 x.quota, .slice ax x.blocks.length cx, .int .i64 x.writer] 25 (0, 0))
      have hA0 : (wr.alloc (.cells #[.string x.path, .bool x.dir, .int .i64 x.quota, .slice ax x.blocks.length cx, .int .i64 x.writer] 25 (0, 0))).heap[bt]? = _ := (hA.block bt hbt).trans Hk0.out
      have HA := Lib.hid hA; have HAk := Lib.hid hAk; have HA0 := Lib.hid hA0
      have Hb := Lib.hid hb
      clear hA hAk hA0 hb
      have Hways := Lib.hid ways
      clear ways
      go_wp2_with (fail)
      generalize wr.alloc (.cells #[.string x.path, .bool x.dir, .int .i64 x.quota, .slice ax x.blocks.length cx, .int .i64 x.writer] 25) = wA at *
      generalize hnt : wr.heap.size = nt at *
      have a0 := cell_of_blk (j := 0) HAk.out
      have a1 := cell_of_blk (j := 1) HAk.out
      have a2 := cell_of_blk (j := 2) HAk.out
      have a3 := cell_of_blk (j := 3) HAk.out
      have a4 := cell_of_blk (j := 4) HAk.out
      have ab := cell_of_one HA0.out
      have hntA := lt_of_block HAk.out
      have hbtA := lt_of_block HA0.out
      simp only [List.getElem?_toArray, List.getElem?_cons_zero, List.getElem?_cons_succ] at a0 a1 a2 a3 a4
      clear kr d0 d1 d2 d3 d4
      have hszA := HA.out.size
      have Hfx := Lib.hid hfx; clear hfx
      have hbwA : Below bt w wA := Hb0.out.trans (HA.out.mono hsz0)
      have e0 := cell_regrown a0
      have e1 := cell_regrown a1
      have e2 := cell_regrown a2
      have e3 := cell_regrown a3
      have e4 := cell_regrown a4
      have eb := cell_regrown ab
      rcases Hways.out with ⟨c1, c2⟩ | ⟨c1, rfl, c2⟩ | ⟨j, y, rfl, hy, c1, c3, c2⟩ | ⟨j, y, rfl, hy, c1, c3, c2⟩
      · have hfin : rightT l = false := by
          rw [rightT, rightA, show (List.range l.length).all (okA l) = false from List.all_eq_false.2 ⟨k, List.mem_range.2 hlt, by rw [c2]; decide⟩, Bool.and_false]; rfl
        have Hfin := Lib.hid hfin
        have hfx := Hfx.out; rw [c1] at hfx
        have cF := fun d os => Calls.regrown_of (hfx _ (hbwA.trans ((below_regrown wA d os).mono (Nat.le_of_lt hbtA))))
        clear hfin c2 hfx Hfx c1
        refine wp_region_quiet_below (by kernel_rfl) (by kernel_rfl) ?_; (repeat (go_big_quiet_step ((exact cF _ _)))); refine wpQuiet_nil ?_; intro _ hw'; obtain ⟨⟨dq, osq⟩, hw''⟩ := hw'; subst hw''
        go_wp2_with (fail)
        go_ret
        exact ⟨ret_bool Hfin.out.symm, hgt ▸ hbwA.trans ((below_regrown wA dq osq).mono (Nat.le_of_lt hbtA))⟩
      · have hokn : ∀ i, i < 1 → okA l i = true := fun i hi => by obtain rfl : i = 0 := by omega
                                                                  exact c2
        have Hokn := Lib.hid hokn
        have hfx := Hfx.out; rw [c1] at hfx
        have cF := fun d os => Calls.regrown_of (hfx _ (hbwA.trans ((below_regrown wA d os).mono (Nat.le_of_lt hbtA))))
        clear hokn c2 hfx Hfx c1
        refine wp_region_quiet_below (by kernel_rfl) (by kernel_rfl) ?_; (repeat (go_big_quiet_step ((exact cF _ _)))); refine wpQuiet_nil ?_; intro _ hw'; obtain ⟨⟨dq, osq⟩, hw''⟩ := hw'; subst hw''
        go_wp2_with (fail)
        go_roundw
        case rel => exact ⟨1, by go_num, by omega, Hokn.out, HA.out.trans ((below_regrown wA dq osq).mono hszA)⟩
        case measure => simp [intOf]; omega
      · have hokn : ∀ i, i < j + 1 + 1 → okA l i = true := fun i hi => by
          by_cases e : i < j + 1
          · exact Hall.out i e
          · obtain rfl : i = j + 1 := by omega
            exact c2
        have Hokn := Lib.hid hokn
        have hfx := Hfx.out; rw [c1] at hfx
        have cF := fun d os => Calls.regrown_of (hfx _ (hbwA.trans ((below_regrown wA d os).mono (Nat.le_of_lt hbtA))))
        obtain ⟨b'', off'', he, _, d0, d1, d2, d3, d4⟩ := Hcell.out wA hbwA j y hy
        simp only [Option.some.injEq, Addr.mk.injEq, and_true] at he
        obtain ⟨rfl, rfl⟩ := he
        have ed := cell_regrown d0
        have hle1 : Op.bytesLess x.path.toList y.path.toList = false := by
          rw [tl_bs, tl_bs]; exact lt_asym c3
        have hle2 : (x.path.toList == y.path.toList) = false := by
          rw [tl_bs, tl_bs]; exact beq_false_of_ne (fun e => lt_ne c3 e.symm)
        clear hokn c2 hfx Hfx c1 d1 d2 d3 d4 hy
        refine wp_region_quiet_below (by kernel_rfl) (by kernel_rfl) ?_; (repeat (go_big_quiet_step ((exact cF _ _)))); refine wpQuiet_nil ?_; intro _ hw'; obtain ⟨⟨dq, osq⟩, hw''⟩ := hw'; subst hw''
        go_wp2_with (fail)
        go_roundw
        case rel => exact ⟨j + 1 + 1, by go_num, by omega, Hokn.out, HA.out.trans ((below_regrown wA dq osq).mono hszA)⟩
        case measure => simp [intOf]; omega
      · have hfin : rightT l = false := by
          rw [rightT, rightA, show (List.range l.length).all (okA l) = false from List.all_eq_false.2 ⟨j + 1, List.mem_range.2 hlt, by rw [c2]; decide⟩, Bool.and_false]; rfl
        have Hfin := Lib.hid hfin
        have hfx := Hfx.out; rw [c1] at hfx
        have cF := fun d os => Calls.regrown_of (hfx _ (hbwA.trans ((below_regrown wA d os).mono (Nat.le_of_lt hbtA))))
        obtain ⟨b'', off'', he, _, d0, d1, d2, d3, d4⟩ := Hcell.out wA hbwA j y hy
        simp only [Option.some.injEq, Addr.mk.injEq, and_true] at he
        obtain ⟨rfl, rfl⟩ := he
        have ed := cell_regrown d0
        have hle : (Op.bytesLess x.path.toList y.path.toList || x.path.toList == y.path.toList) = true := by
          rw [tl_bs, tl_bs]
          rcases lt_tri (bs x.path) (bs y.path) with h | h | h
          · rw [ltB] at h; rw [h, Bool.true_or]
          · rw [beq_iff_eq.2 h, Bool.or_true]
          · rw [c3] at h; cases h
        rw [Bool.or_eq_true] at hle
        clear hfin c2 hfx Hfx c1 d1 d2 d3 d4 hy
        rcases hle with h1 | h1
        all_goals
          refine wp_region_quiet_below (by kernel_rfl) (by kernel_rfl) ?_; (repeat (go_big_quiet_step ((exact cF _ _)))); refine wpQuiet_nil ?_; intro _ hw'; obtain ⟨⟨dq, osq⟩, hw''⟩ := hw'; subst hw''
          go_wp2_with (fail)
          go_ret
          exact ⟨ret_bool Hfin.out.symm, hgt ▸ hbwA.trans ((below_regrown wA dq osq).mono (Nat.le_of_lt hbtA))⟩
    · obtain rfl : k = l.length := by omega
      have hR := HR.out wr hbw
      have hs := rises_of Hall.out
      have hp := any_dir Hkr.out hR hs hn (HM.out wr hbw)
      have hRA : rightT l = !((l.drop 1).any (dirBad l)) := by
        rw [rightT, rightA, Hh.out, show (List.range l.length).all (okA l) = true from List.all_eq_true.2 fun i hi => Hall.out i (List.mem_range.1 hi)]; rfl
      have HRA := Lib.hid hRA
      have eg := enters Tryz.func44 (P := Tryz.prog) (by kernel_rfl) rfl
      have hln : (l.drop 1).length ≤ 8796093022208 := by rw [List.length_drop]; omega
      by_cases hc1 : cap = 1
      · have hd0 : l.drop 1 = [] := List.drop_eq_nil_of_le (by omega)
        have hl1 : l.length = 1 := by omega
        have hr1 : Rd wr 5 encN (.slice (some ⟨b, off, none⟩) 0 0) (l.drop 1) := by
          rw [hd0]
          exact ⟨_, _, rfl, Nat.le_refl _, Nat.zero_le _, fun i x hx => by cases hx⟩
        have hh := hasn_calls wr 44 (.pointer (some ⟨bt, 0, none⟩)) (dirBad l) _ _ eg hp hr1 hln
        have Hhh := Lib.hid hh
        have hlc : l.length ≤ cap := hcap
        clear hh hr1 hp hs hR hRA hd0 hl1 eg
        subst hc1
        go_wp2_with (fail)
        refine Hhh.out.mono ?_
        rintro e w2 ⟨rfl, hb2⟩
        go_wp2_with (fail)
        go_ret
        exact ⟨ret_bool (by rw [HRA.out, List.drop_one]), hgt ▸ hbw.trans (hb2.mono (by omega))⟩
      · have hh := hasn_calls wr 44 (.pointer (some ⟨bt, 0, none⟩)) (dirBad l) _ _ eg hp (rd_dropN hR.rd hpos) hln
        have Hhh := Lib.hid hh
        have hlc : 1 < cap := by omega
        clear hh hp hs hR hRA hc1 eg
        go_wp2_with (fail)
        refine Hhh.out.mono ?_
        rintro e w2 ⟨rfl, hb2⟩
        go_wp2_with (fail)
        go_ret
        exact ⟨ret_bool (by rw [HRA.out, List.drop_one]), hgt ▸ hbw.trans (hb2.mono (by omega))⟩
end Go.Proofs.YtpghaghmejgjbaaGreatDoor.Tree
