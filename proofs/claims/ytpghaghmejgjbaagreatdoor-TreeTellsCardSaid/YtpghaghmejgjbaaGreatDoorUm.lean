/- Trees (chapter 7): TreeTells, walked. -/
import Derived.Test.YtpghaghmejgjbaaGreatDoorUl
import Derived.Test.YtpghaghmejgjbaaGreatDoorUa
import Derived.Test.YtpghaghmejgjbaaGreatDoorUk
namespace Go.Proofs.YtpghaghmejgjbaaGreatDoor.Tree
open Go.RowKit
open Path (Bs bs mk bs_mk mk_bs tl_bs splitE splitL MaxC parD parE parN OwnS)
set_option linter.unusedSimpArgs false
set_option linter.unusedVariables false

theorem list_small {l : List Nd} {p : Bs} : (listN l p).length ≤ 8796093022208 := by
  rw [listN]
  split
  · rename_i h
    have : rightT l = true := by
      rw [listE] at h
      split at h
      · rename_i hc; exact hc.1
      · cases h
    have h1 := right_len this
    have h2 : (childL l p).length ≤ (l.drop 1).length := List.length_filter_le _ _
    rw [List.length_map]
    rw [List.length_drop] at h2
    omega
  · simp
set_option maxRecDepth 4000 in
set_option maxHeartbeats 8000000 in
theorem law_tells (v : Value) (l : List Nd) (n : Nd) (p : ByteArray) (w : World) (hM : MaxC w) (h0 : RdN w v l ∧ (∀ x ∈ l, OkN w x) ∧ l.length ≤ 8796093022208) (hx : OkN w n) :
    Calls Tryz.prog 3 #[v, .agg #[.string n.path, .bool n.dir, .int .i64 n.quota, n.bv, .int .i64 n.writer], .string p] w fun e w' => e = .returned (.bool true) ∧ Below w.heap.size w w' := by
  obtain ⟨h, _, hn⟩ := h0
  have hex := fun W (hW : Below w.heap.size w W) => ex_calls W (hM.below hW)
  have hli := fun W (hW : Below w.heap.size w W) => list_calls W v l p (h.below hW) hn (hM.below hW)
  have hlr := fun W (hW : Below w.heap.size w W) => rlist_calls W v l p (h.below hW) hn
  have hfit := fun W (hW : Below w.heap.size w W) => fits_calls W n (hx.bl.below hW (Nat.le_refl _)) (hM.below hW)
  have hfir := fun W (hW : Below w.heap.size w W) => rfits_calls W n (hx.bl.below hW (Nat.le_refl _))
  have hri := fun W (hW : Below w.heap.size w W) => right_calls W v l (h.below hW) hn (hM.below hW)
  have hrr := fun W (hW : Below w.heap.size w W) => rright_calls W v l (h.below hW) hn
  have hfi := fun W (hW : Below w.heap.size w W) => find_calls W v l p (h.below hW) hn
  have hfr := fun W (hW : Below w.heap.size w W) => rfind_calls W v l p (h.below hW).rd hn
  obtain ⟨ax, cx, hbv⟩ := bv_slice hx.bl
  obtain ⟨ao, cap, rfl, _, _, _⟩ := rd_cellsN h.rd
  rw [hbv]
  simp only [hbv] at hfit hfir
  have hsm := list_small (l := l) (p := bs p)
  generalize listE l (bs p) = E at *
  generalize listN l (bs p) = q at *
  generalize rightT l = R at *
  generalize fitsN n = F at *
  generalize findI (bs p) l = I at *
  have Hex := Lib.hid hex; have Hli := Lib.hid hli; have Hlr := Lib.hid hlr; have Hfit := Lib.hid hfit; have Hfir := Lib.hid hfir; have Hri := Lib.hid hri; have Hrr := Lib.hid hrr; have Hfi := Lib.hid hfi; have Hfr := Lib.hid hfr
  clear hex hli hlr hfit hfir hri hrr hfi hfr h hM hbv hx
  have b0 : Below w.heap.size w (w.alloc (.cells #[.string n.path, .bool n.dir, .int .i64 n.quota, .slice ax n.blocks.length cx, .int .i64 n.writer] 25 (0, 0))) := (Below.refl _ _).alloc (Nat.le_refl _) _
  have n0 := heap_alloc_new w (.cells #[.string n.path, .bool n.dir, .int .i64 n.quota, .slice ax n.blocks.length cx, .int .i64 n.writer] 25 (0, 0))
  have N0 := Lib.hid n0
  clear n0
  go_enter Tryz.func3, Tryz.ntmps3
  go_wp2_with (fail)
  refine (Hex.out _ b0).mono ?_
  rintro e w1 ⟨rfl, b1⟩
  have B1 := b0.trans (b1.mono b0.size)
  go_wp2_with (fail)
  refine (Hli.out w1 B1).mono ?_
  rintro e w2 ⟨⟨v2, rfl, hO2⟩, b2⟩
  have B2 := B1.trans (b2.mono B1.size)
  have HO2 := Lib.hid hO2; clear hO2
  go_wp2_with (fail)
  refine (Hlr.out w2 B2).mono ?_
  rintro e w3 ⟨⟨v3, rfl, hO3⟩, b3⟩
  have B3 := B2.trans (b3.mono B2.size)
  have ht := textsT_calls w3 v2 v3 q (ownS_below HO2.out b3).rd hO3.rd hsm
  have Ht := Lib.hid ht
  clear ht hO3
  go_wp2_with (fail)
  refine Ht.out.mono ?_
  rintro e w4 ⟨rfl, b4⟩
  have B4 := B3.trans (b4.mono B3.size)
  have n4 := ((b1.trans (b2.mono b1.size)).trans ((b3.trans (b4.mono b3.size)).mono (Nat.le_trans b1.size b2.size))).block _ (lt_of_block N0.out) |>.trans N0.out
  have c0 := cell_of_blk (j := 0) n4; have c1 := cell_of_blk (j := 1) n4; have c2 := cell_of_blk (j := 2) n4; have c3 := cell_of_blk (j := 3) n4; have c4 := cell_of_blk (j := 4) n4
  (simp only [List.getElem?_toArray, List.getElem?_cons_zero, List.getElem?_cons_succ] at c0 c1 c2 c3 c4)
  clear n4
  have e0 := cell_regrown c0; have e1 := cell_regrown c1; have e2 := cell_regrown c2; have e3 := cell_regrown c3; have e4 := cell_regrown c4
  clear c0 c1 c2 c3 c4
  go_wp2_with (fail)
  have cA := fun d os => Calls.regrown_of (Hfit.out _ (B4.trans ((below_regrown w4 d os).mono B4.size)))
  have cB := fun d os => Calls.regrown_of (Hfir.out _ (B4.trans ((below_regrown w4 d os).mono B4.size)))
  have cC := fun d os => Calls.regrown_of (Hri.out _ (B4.trans ((below_regrown w4 d os).mono B4.size)))
  have cD := fun d os => Calls.regrown_of (Hrr.out _ (B4.trans ((below_regrown w4 d os).mono B4.size)))
  have cE := fun d os => Calls.regrown_of (Hfi.out _ (B4.trans ((below_regrown w4 d os).mono B4.size)))
  have cG := fun d os => Calls.regrown_of (Hfr.out _ (B4.trans ((below_regrown w4 d os).mono B4.size)))
  refine wp_region_quiet_below (by kernel_rfl) (by kernel_rfl) ?_
  (repeat (go_big_quiet_step ((first | (go_at_call 13; exact cA _ _) | (go_at_call 14; exact cB _ _) | (go_at_call 15; exact cC _ _) | (go_at_call 16; exact cD _ _) | (go_at_call 17; exact cE _ _) | (go_at_call 18; exact cG _ _)))))
  refine wpQuiet_nil ?_
  intro _ hw'; obtain ⟨⟨dq, osq⟩, hw''⟩ := hw'; subst hw''
  go_wp2_with (fail)
  go_ret
  exact ⟨rfl, B4.trans ((below_regrown w4 dq osq).mono B4.size)⟩
end Go.Proofs.YtpghaghmejgjbaaGreatDoor.Tree
