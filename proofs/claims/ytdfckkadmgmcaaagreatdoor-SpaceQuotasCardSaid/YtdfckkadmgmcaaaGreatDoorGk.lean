/- Parts of the proof, one behind the other: Zr, Zs, Zt, Zu, Zv, Zw, Zx. -/
import Derived.Test.YtdfckkadmgmcaaaGreatDoorGj
import Derived.Test.YtdfckkadmgmcaaaGreatDoorGd
import Derived.Deep.DeepCutAuto
/- Edits of spaces: (*work).do, kind by kind (printed by gen_zn.py): SetQuota. -/
namespace Go.Proofs.YtdfckkadmgmcaaaGreatDoor.Space
open Go.RowKit
open Path (Bs bs mk bs_mk mk_bs tl_bs MaxC splitE splitL parD)
open Tree
open Quota (overL cntT roomT)
set_option linter.unusedSimpArgs false
set_option linter.unusedVariables false
theorem DoP.drew {w0 w : World} {g : Nat} {R : Res} {e : Ed} {e' : Ending} (h : DoP w0 g R e e' w) : DoP w0 g R e e' w.drew := by
  obtain ⟨hb, h2⟩ := h
  refine ⟨hb.drew, ?_⟩
  by_cases hR : R.err ≠ 0
  · rw [if_pos hR] at h2 ⊢; exact h2
  · rw [if_neg hR] at h2 ⊢
    obtain ⟨⟨t, ht, hO⟩, he⟩ := h2
    exact ⟨⟨t, ht, hO.drew⟩, he⟩
set_option maxRecDepth 100000 in
set_option maxHeartbeats 8000000 in
theorem do_quota (w0 w : World) (g : Nat) (s : Sp) (e : Ed) (h : WkO w0 w g s e) (hA : Apart s.nodes) (hM : MaxC w0) (hs : RightS s) (he : EdOk e) (hk : e.kind = 7) :
    Calls Tryz.prog 48 #[.pointer (some ⟨g, 0, none⟩)] w (DoP w0 g (doE s e) e) := by
  obtain ⟨c0, c1, c2, c3, c4, c5, c6, c7, c8, c9, c10, c11, c12⟩ := wkc h.rd
  obtain ⟨al, cl, hlv, -, -⟩ := Lease.rd_cellsI h.rd.len
  obtain ⟨an, cn, hvn, -⟩ := rd_cellsN h.rd.sp.n.rd
  rw [hlv] at c12
  obtain ⟨R, hR0⟩ : ∃ R, R = doE s e := ⟨_, rfl⟩
  rw [← hR0]
  rw [doE, if_neg (by omega), if_neg (by omega), if_neg (by omega), if_pos hk] at hR0
  have HR := Lib.hid hR0
  have Hh := Lib.hid h; have HA := Lib.hid hA; have Hk := Lib.hid hk; have Hlv := Lib.hid hlv; have Hvn := Lib.hid hvn; have HM := Lib.hid hM; have Hs := Lib.hid hs; have He := Lib.hid he
  clear hR0 h hA hk hlv hvn hM hs he
  go_enter Tryz.func48, Tryz.ntmps48
  go_wp2_with (fail)
  go_region_held3 (fun w' => w'.cell? ⟨g, 6, none⟩ = some (.int .i64 e.kind) ∧ w'.cell? ⟨g, 7, none⟩ = some (.string e.path) ∧ w'.cell? ⟨g, 8, none⟩ = some (.string e.dst) ∧ w'.cell? ⟨g, 9, none⟩ = some (.int .i64 e.client) ∧ w'.cell? ⟨g, 10, none⟩ = some (.int .i64 e.call) ∧ w'.cell? ⟨g, 11, none⟩ = some (.int .i64 e.n) ∧ w'.cell? ⟨g, 12, none⟩ = some (.slice al e.lens.length cl)) (go_keep) (fail)
  have hb1 : Below w.heap.size w (((w.alloc (.cells #[.int .i64 0, .int .i64 0, .int .i64 0] 31 (0, 0))).alloc (.cells #[.int .i64 e.kind, .string e.path, .string e.dst, .int .i64 e.client, .int .i64 e.call, .int .i64 e.n, .slice al e.lens.length cl] 42 (0, 0))).drew) := (((Below.refl _ _).alloc (Nat.le_refl _) _).alloc (by simp) _).drew
  have hk0 : (((w.alloc (.cells #[.int .i64 0, .int .i64 0, .int .i64 0] 31 (0, 0))).alloc (.cells #[.int .i64 e.kind, .string e.path, .string e.dst, .int .i64 e.client, .int .i64 e.call, .int .i64 e.n, .slice al e.lens.length cl] 42 (0, 0))).drew).heap[w.heap.size]? = some (.cells #[.int .i64 0, .int .i64 0, .int .i64 0] 31 (0, 0)) := (heap_alloc_old _ _ (by simp)).trans (heap_alloc_new _ _)
  have hk1 : (((w.alloc (.cells #[.int .i64 0, .int .i64 0, .int .i64 0] 31 (0, 0))).alloc (.cells #[.int .i64 e.kind, .string e.path, .string e.dst, .int .i64 e.client, .int .i64 e.call, .int .i64 e.n, .slice al e.lens.length cl] 42 (0, 0))).drew).heap[w.heap.size + 1]? = some (.cells #[.int .i64 e.kind, .string e.path, .string e.dst, .int .i64 e.client, .int .i64 e.call, .int .i64 e.n, .slice al e.lens.length cl] 42 (0, 0)) := by
    have h1 := heap_alloc_new (w.alloc (.cells #[.int .i64 0, .int .i64 0, .int .i64 0] 31 (0, 0))) (.cells #[.int .i64 e.kind, .string e.path, .string e.dst, .int .i64 e.client, .int .i64 e.call, .int .i64 e.n, .slice al e.lens.length cl] 42 (0, 0))
    have h2 : (w.alloc (.cells #[.int .i64 0, .int .i64 0, .int .i64 0] 31 (0, 0))).heap.size = w.heap.size + 1 := by simp
    rw [h2] at h1; exact h1
  have hz1 : (((w.alloc (.cells #[.int .i64 0, .int .i64 0, .int .i64 0] 31 (0, 0))).alloc (.cells #[.int .i64 e.kind, .string e.path, .string e.dst, .int .i64 e.client, .int .i64 e.call, .int .i64 e.n, .slice al e.lens.length cl] 42 (0, 0))).drew).heap.size = w.heap.size + 2 := by simp
  clear c0 c1 c2 c3 c4 c5 c6 c7 c8 c9 c10 c11 c12
  generalize ((w.alloc (.cells #[.int .i64 0, .int .i64 0, .int .i64 0] 31 (0, 0))).alloc (.cells #[.int .i64 e.kind, .string e.path, .string e.dst, .int .i64 e.client, .int .i64 e.call, .int .i64 e.n, .slice al e.lens.length cl] 42 (0, 0))).drew = w1 at *
  have hW := Hh.out.below hb1
  obtain ⟨e0, e1, e2, e3, e5⟩ := ed_cells hk1
  obtain ⟨d0, d1, d2, d3, d4, d5, -⟩ := wkc hW.rd
  rw [Hvn.out] at d4
  obtain ⟨b0, b1, b2, f0, f1, f2⟩ := box_cells hk0
  have hM1 := HM.out.below hW.base
  have hl1 := Hh.out.lt
  have HW := Lib.hid hW; have Hb1 := Lib.hid hb1; have K0 := Lib.hid hk0; have K1 := Lib.hid hk1; have Hz1 := Lib.hid hz1; have HM1 := Lib.hid hM1; have Hlt := Lib.hid hl1
  clear hW hb1 hk0 hk1 hz1 hM1 hl1
  have hgnx : 0 < s.nodes.length * 5 := by
    obtain ⟨r, hr, -⟩ := Hs.out.tree.root
    have := List.length_pos_of_mem hr
    omega
  obtain ⟨gn, cap, cur, hvg, -, -, -⟩ := own_form HW.out.nodes.own hgnx
  have hv2 := Hvn.out
  rw [hvg] at hv2
  simp only [Value.slice.injEq, true_and] at hv2
  obtain ⟨rfl, rfl⟩ := hv2
  have Hvg := Lib.hid hvg
  clear hvg hgnx
  have hat := at_calls w1 g s e HW.out.rd HM1.out
  have hct := fun d os => Calls.regrown_of (Quota.count_calls (Go.Sort.grow (redrawn w1 d) os) s.vn s.nodes e.path (HW.out.rd.sp.n.below (below_regrown w1 d os)) HW.out.nn (HM1.out.below (below_regrown w1 d os)) (by have := He.out.path; unfold maxLen; omega))
  rw [Hk.out] at e0
  rcases at_ways s (bs e.path) with ⟨E, hEE, hae, hf⟩ | ⟨i, x, hx, hp, hae, hf⟩
  · rw [hae] at hat
    have HR2 := Lib.hid (HR.out.trans (hf _))
    have Hat := Lib.hid hat
    clear hat hct HR hf hae
    go_wp2_with (go_at_call 100; (with_reducible refine Hat.out.mono ?_); rintro e2' w2 ⟨he2, hb2⟩; rw [amissE] at he2; subst he2)
    exact ⟨rfl, do_bad HR2.out (by omega) (HW.out.base.trans (hb2.mono HW.out.base.size))⟩
  · rw [hae] at hat
    have HR2 := Lib.hid (HR.out.trans (hf _))
    have hi := (List.getElem?_eq_some_iff.1 hx).1
    have hcx := fun W (hW : Below w1.heap.size w1 W) => (show W.cell? ⟨g, 4, none⟩ = some (.slice (some ⟨gn, 0, none⟩) s.nodes.length cap) ∧ W.cell? ⟨gn, i * 5 + 1, none⟩ = some (.bool x.dir) ∧ (W.cell? ⟨gn, i * 5 + 2, none⟩ = some (.int .i64 x.quota) ∧ W.frozen? ⟨gn, i * 5 + 2, none⟩ = false) ∧ W.heap[w.heap.size]? = some (.cells #[.int .i64 0, .int .i64 0, .int .i64 0] 31 (0, 0)) ∧ W.cell? ⟨w.heap.size + 1, 5, none⟩ = some (.int .i64 e.n) ∧ W.cell? ⟨w.heap.size + 1, 1, none⟩ = some (.string e.path) from
      ⟨(hW.cell (p := ⟨g, 4, none⟩) (lt_of_block HW.out.blk)).trans d4, ((HW.out.below hW).cell (j := 1) Hvg.out hx rfl (by decide)).1, (HW.out.below hW).cell (j := 2) Hvg.out hx rfl (by decide), (hW.block _ (lt_of_block K0.out)).trans K0.out, (hW.cell (p := ⟨w.heap.size + 1, 5, none⟩) (lt_of_block K1.out)).trans e5, (hW.cell (p := ⟨w.heap.size + 1, 1, none⟩) (lt_of_block K1.out)).trans e1⟩)
    have Hat := Lib.hid hat; have Hct := Lib.hid hct; have Hcx := Lib.hid hcx; have Hx := Lib.hid hx
    clear hat hct HR hf hae hcx hx hp b0 b1 b2 f0 f1 f2 d0 d1 d2 d3 d4 d5 e1 e2 e3 e5
    cases hd : x.dir
    · have HR3 := Lib.hid (HR2.out.trans (if_pos hd))
      rw [hd] at Hcx
      clear HR2 hd
      go_wp2_with (first
        | (go_at_call 100; (with_reducible refine Hat.out.mono ?_); rintro e2' w2 ⟨rfl, hb2⟩; obtain ⟨l4, l1, -⟩ := Hcx.out w2 hb2)
        | (go_at_call 45; (with_reducible refine (must_no _ _).mono ?_); rintro e9 w9 ⟨rfl, rfl⟩))
      exact ⟨rfl, do_bad HR3.out (by decide) (HW.out.base.trans (hb2.mono HW.out.base.size))⟩
    · have HR3 := Lib.hid (HR2.out.trans (if_neg (by rw [hd]; simp)))
      rw [hd] at Hcx
      clear HR2 hd
      go_wp2_with (first
        | (go_at_call 100; (with_reducible refine Hat.out.mono ?_); rintro e2' w2 ⟨rfl, hb2⟩; obtain ⟨l4, l1, l2, lB, l5, lp⟩ := Hcx.out w2 hb2)
        | (go_at_call 45; (with_reducible refine (must_yes _ _).mono ?_); rintro e9 w9 ⟨rfl, rfl⟩))
      have hct2 := fun d os => Calls.regrown_of (Quota.count_calls (Go.Sort.grow (redrawn w9 d) os) s.vn s.nodes e.path (HW.out.rd.sp.n.below (hb2.trans ((below_regrown w9 d os).mono hb2.size))) HW.out.nn (HM1.out.below (hb2.trans ((below_regrown w9 d os).mono hb2.size))) (by have := He.out.path; unfold maxLen; omega))
      rw [Hvg.out] at hct2
      have C4 := fun d os => cell_regrown l4 d os
      have C5 := fun d os => cell_regrown l5 d os
      have CP := fun d os => cell_regrown lp d os
      generalize hcn : cntT s.nodes (bs e.path) = cnt at *
      have cF := hct2
      have Hb2 := Lib.hid hb2
      clear hct2 hb2 hcn Hct
      by_cases hn0 : e.n < 0
      · have q1 : decide (e.n < 0) = true := decide_eq_true hn0
        have HR4 := Lib.hid (HR3.out.trans (if_neg (by omega)))
        clear HR3 cF
        (refine Rtail.wp_tail 15 (by kernel_rfl) (by kernel_rfl) ?_; simp only [List.take_succ_cons, List.take_zero, List.drop_succ_cons, List.drop_zero]; (repeat (go_big_quiet_step ((fail)))); refine wpQuiet_nil ?_; intro _ hw'; obtain ⟨⟨dq, osq⟩, hw''⟩ := hw'; subst hw'')
        ((go_wp2_with (first | (go_at_call 45; (with_reducible refine (must_yes _ _).mono ?_); rintro e9 w9 ⟨rfl, rfl⟩))); (have hb3 := Hb2.out.trans ((below_regrown w9 dq osq).mono Hb2.out.size)); (generalize Go.Sort.grow (redrawn w9 dq) osq = w3 at *); (obtain ⟨m4, -, ⟨m2, mz2⟩, mB, m5, -⟩ := Hcx.out w3 hb3); (have hO3 := HW.out.below hb3); (have hgN : gn < w.heap.size := Hlt.out.2.1 gn (by rw [Hvg.out]; rfl)); (have hgN1 : gn ≠ w.heap.size := by omega); (have hgN2 : gn ≠ w.heap.size + 1 := by omega); (have hgng : gn ≠ g := fun h => own_ne_blk HW.out.nodes.own HW.out.blk (by decide) (by rw [Hvg.out, h]; rfl)); (have hgng' := Ne.symm hgng); (have hgN2' := Ne.symm hgN2); (have hF := WkO.nd (y := { x with quota := e.n }) (j := 2) (u := .int .i64 e.n) hO3 Hx.out Hvg.out (by decide) rfl (hO3.nodes.bl x (List.mem_of_getElem? Hx.out))); (have kBF := (heap_setCell_other w3 ⟨gn, i * 5 + 2, none⟩ w.heap.size (.int .i64 e.n) (fun h => hgN1 h.symm)).trans mB); (obtain ⟨b0, b1, b2, f0, f1, f2⟩ := box_cells mB); (have HF := Lib.hid hF; have KBF := Lib.hid kBF); (clear hF kBF mB hO3 hb3 C4 C5 CP); (go_region_held3 (fun w' => w'.cell? ⟨g, 4, none⟩ = some (.slice (some ⟨gn, 0, none⟩) s.nodes.length cap) ∧ w'.cell? ⟨w.heap.size + 1, 5, none⟩ = some (.int .i64 e.n)) (go_keep) (fail)); (go_wp2_with (fail)); (obtain ⟨t1, t2, t3, t4⟩ := Hlt.out); (refine bodyPost_ret (results_cell_row rfl _ _ w.heap.size _ _ _ _ rfl (set3_blk KBF.out (.int .i64 0) (.int .i64 0) (.int .i64 0)) Tryz.underlying31 rfl (by kernel_rfl)) rfl ?_); (refine DoP.drew ?_); (exact do_end (t := setN s i { x with quota := e.n }) (by rw [HR4.out]) (by rw [HR4.out]) (by rw [HR4.out]; exact .refl _) HF.out KBF.out Hh.out.base.size (fun y hy h => by rcases set_at Hx.out hy with rfl | ⟨k, _, hky⟩; (have := t4 x (List.mem_of_getElem? Hx.out) _ h; omega); (have := t4 y (List.mem_of_getElem? hky) _ h; omega))))
      · have q1 : decide (e.n < 0) = false := decide_eq_false hn0
        by_cases hc : e.n < (cnt : Int)
        · have q2 : decide (e.n ≥ (cnt : Int)) = false := decide_eq_false (by omega)
          have q3 : decide ((cnt : Int) ≤ e.n) = false := decide_eq_false (by omega)
          have HR4 := Lib.hid (HR3.out.trans (if_pos ⟨by omega, hc⟩))
          clear HR3
          (refine Rtail.wp_tail 15 (by kernel_rfl) (by kernel_rfl) ?_; simp only [List.take_succ_cons, List.take_zero, List.drop_succ_cons, List.drop_zero]; (repeat (go_big_quiet_step (((exact cF _ _))))); refine wpQuiet_nil ?_; intro _ hw'; obtain ⟨⟨dq, osq⟩, hw''⟩ := hw'; subst hw'')
          go_wp2_with (first | (go_at_call 45; (with_reducible refine (must_no _ _).mono ?_); rintro e9 w9 ⟨rfl, rfl⟩))
          exact ⟨rfl, do_bad HR4.out (by decide) ((HW.out.base.trans (Hb2.out.mono HW.out.base.size)).trans ((below_regrown _ _ _).mono (Nat.le_trans HW.out.base.size Hb2.out.size)))⟩
        · have q2 : decide (e.n ≥ (cnt : Int)) = true := decide_eq_true (by omega)
          have q3 : decide ((cnt : Int) ≤ e.n) = true := decide_eq_true (by omega)
          have HR4 := Lib.hid (HR3.out.trans (if_neg (by omega)))
          clear HR3
          (refine Rtail.wp_tail 15 (by kernel_rfl) (by kernel_rfl) ?_; simp only [List.take_succ_cons, List.take_zero, List.drop_succ_cons, List.drop_zero]; (repeat (go_big_quiet_step (((exact cF _ _))))); refine wpQuiet_nil ?_; intro _ hw'; obtain ⟨⟨dq, osq⟩, hw''⟩ := hw'; subst hw'')
          ((go_wp2_with (first | (go_at_call 45; (with_reducible refine (must_yes _ _).mono ?_); rintro e9 w9 ⟨rfl, rfl⟩))); (have hb3 := Hb2.out.trans ((below_regrown w9 dq osq).mono Hb2.out.size)); (generalize Go.Sort.grow (redrawn w9 dq) osq = w3 at *); (obtain ⟨m4, -, ⟨m2, mz2⟩, mB, m5, -⟩ := Hcx.out w3 hb3); (have hO3 := HW.out.below hb3); (have hgN : gn < w.heap.size := Hlt.out.2.1 gn (by rw [Hvg.out]; rfl)); (have hgN1 : gn ≠ w.heap.size := by omega); (have hgN2 : gn ≠ w.heap.size + 1 := by omega); (have hgng : gn ≠ g := fun h => own_ne_blk HW.out.nodes.own HW.out.blk (by decide) (by rw [Hvg.out, h]; rfl)); (have hgng' := Ne.symm hgng); (have hgN2' := Ne.symm hgN2); (have hF := WkO.nd (y := { x with quota := e.n }) (j := 2) (u := .int .i64 e.n) hO3 Hx.out Hvg.out (by decide) rfl (hO3.nodes.bl x (List.mem_of_getElem? Hx.out))); (have kBF := (heap_setCell_other w3 ⟨gn, i * 5 + 2, none⟩ w.heap.size (.int .i64 e.n) (fun h => hgN1 h.symm)).trans mB); (obtain ⟨b0, b1, b2, f0, f1, f2⟩ := box_cells mB); (have HF := Lib.hid hF; have KBF := Lib.hid kBF); (clear hF kBF mB hO3 hb3 C4 C5 CP); (go_region_held3 (fun w' => w'.cell? ⟨g, 4, none⟩ = some (.slice (some ⟨gn, 0, none⟩) s.nodes.length cap) ∧ w'.cell? ⟨w.heap.size + 1, 5, none⟩ = some (.int .i64 e.n)) (go_keep) (fail)); (go_wp2_with (fail)); (obtain ⟨t1, t2, t3, t4⟩ := Hlt.out); (refine bodyPost_ret (results_cell_row rfl _ _ w.heap.size _ _ _ _ rfl (set3_blk KBF.out (.int .i64 0) (.int .i64 0) (.int .i64 0)) Tryz.underlying31 rfl (by kernel_rfl)) rfl ?_); (refine DoP.drew ?_); (exact do_end (t := setN s i { x with quota := e.n }) (by rw [HR4.out]) (by rw [HR4.out]) (by rw [HR4.out]; exact .refl _) HF.out KBF.out Hh.out.base.size (fun y hy h => by rcases set_at Hx.out hy with rfl | ⟨k, _, hky⟩; (have := t4 x (List.mem_of_getElem? Hx.out) _ h; omega); (have := t4 y (List.mem_of_getElem? hky) _ h; omega))))
end Go.Proofs.YtdfckkadmgmcaaaGreatDoor.Space

/- Edits of spaces: (*work).do, kind by kind (printed by gen_zn.py): Renew. -/
namespace Go.Proofs.YtdfckkadmgmcaaaGreatDoor.Space
open Go.RowKit
open Path (Bs bs mk bs_mk mk_bs tl_bs MaxC splitE splitL parD)
open Tree
open Quota (overL cntT roomT)
set_option linter.unusedSimpArgs false
set_option linter.unusedVariables false
set_option maxRecDepth 100000 in
set_option maxHeartbeats 8000000 in
theorem do_renew (w0 w : World) (g : Nat) (s : Sp) (e : Ed) (h : WkO w0 w g s e) (hA : Apart s.nodes) (hM : MaxC w0) (hs : RightS s) (he : EdOk e) (hk : e.kind = 8) :
    Calls Tryz.prog 48 #[.pointer (some ⟨g, 0, none⟩)] w (DoP w0 g (doE s e) e) := by
  obtain ⟨c0, c1, c2, c3, c4, c5, c6, c7, c8, c9, c10, c11, c12⟩ := wkc h.rd
  obtain ⟨al, cl, hlv, -, -⟩ := Lease.rd_cellsI h.rd.len
  obtain ⟨an, cn, hvn, -⟩ := rd_cellsN h.rd.sp.n.rd
  rw [hlv] at c12
  obtain ⟨R, hR0⟩ : ∃ R, R = doE s e := ⟨_, rfl⟩
  rw [← hR0]
  rw [doE, if_neg (by omega), if_neg (by omega), if_neg (by omega), if_neg (by omega), if_pos hk] at hR0
  have HR := Lib.hid hR0
  have Hh := Lib.hid h; have HA := Lib.hid hA; have Hk := Lib.hid hk; have Hlv := Lib.hid hlv; have Hvn := Lib.hid hvn; have HM := Lib.hid hM; have Hs := Lib.hid hs; have He := Lib.hid he
  clear hR0 h hA hk hlv hvn hM hs he
  go_enter Tryz.func48, Tryz.ntmps48
  go_wp2_with (fail)
  go_region_held3 (fun w' => w'.cell? ⟨g, 6, none⟩ = some (.int .i64 e.kind) ∧ w'.cell? ⟨g, 7, none⟩ = some (.string e.path) ∧ w'.cell? ⟨g, 8, none⟩ = some (.string e.dst) ∧ w'.cell? ⟨g, 9, none⟩ = some (.int .i64 e.client) ∧ w'.cell? ⟨g, 10, none⟩ = some (.int .i64 e.call) ∧ w'.cell? ⟨g, 11, none⟩ = some (.int .i64 e.n) ∧ w'.cell? ⟨g, 12, none⟩ = some (.slice al e.lens.length cl)) (go_keep) (fail)
  have hb1 : Below w.heap.size w (((w.alloc (.cells #[.int .i64 0, .int .i64 0, .int .i64 0] 31 (0, 0))).alloc (.cells #[.int .i64 e.kind, .string e.path, .string e.dst, .int .i64 e.client, .int .i64 e.call, .int .i64 e.n, .slice al e.lens.length cl] 42 (0, 0))).drew) := (((Below.refl _ _).alloc (Nat.le_refl _) _).alloc (by simp) _).drew
  have hk0 : (((w.alloc (.cells #[.int .i64 0, .int .i64 0, .int .i64 0] 31 (0, 0))).alloc (.cells #[.int .i64 e.kind, .string e.path, .string e.dst, .int .i64 e.client, .int .i64 e.call, .int .i64 e.n, .slice al e.lens.length cl] 42 (0, 0))).drew).heap[w.heap.size]? = some (.cells #[.int .i64 0, .int .i64 0, .int .i64 0] 31 (0, 0)) := (heap_alloc_old _ _ (by simp)).trans (heap_alloc_new _ _)
  have hk1 : (((w.alloc (.cells #[.int .i64 0, .int .i64 0, .int .i64 0] 31 (0, 0))).alloc (.cells #[.int .i64 e.kind, .string e.path, .string e.dst, .int .i64 e.client, .int .i64 e.call, .int .i64 e.n, .slice al e.lens.length cl] 42 (0, 0))).drew).heap[w.heap.size + 1]? = some (.cells #[.int .i64 e.kind, .string e.path, .string e.dst, .int .i64 e.client, .int .i64 e.call, .int .i64 e.n, .slice al e.lens.length cl] 42 (0, 0)) := by
    have h1 := heap_alloc_new (w.alloc (.cells #[.int .i64 0, .int .i64 0, .int .i64 0] 31 (0, 0))) (.cells #[.int .i64 e.kind, .string e.path, .string e.dst, .int .i64 e.client, .int .i64 e.call, .int .i64 e.n, .slice al e.lens.length cl] 42 (0, 0))
    have h2 : (w.alloc (.cells #[.int .i64 0, .int .i64 0, .int .i64 0] 31 (0, 0))).heap.size = w.heap.size + 1 := by simp
    rw [h2] at h1; exact h1
  have hz1 : (((w.alloc (.cells #[.int .i64 0, .int .i64 0, .int .i64 0] 31 (0, 0))).alloc (.cells #[.int .i64 e.kind, .string e.path, .string e.dst, .int .i64 e.client, .int .i64 e.call, .int .i64 e.n, .slice al e.lens.length cl] 42 (0, 0))).drew).heap.size = w.heap.size + 2 := by simp
  clear c0 c1 c2 c3 c4 c5 c6 c7 c8 c9 c10 c11 c12
  generalize ((w.alloc (.cells #[.int .i64 0, .int .i64 0, .int .i64 0] 31 (0, 0))).alloc (.cells #[.int .i64 e.kind, .string e.path, .string e.dst, .int .i64 e.client, .int .i64 e.call, .int .i64 e.n, .slice al e.lens.length cl] 42 (0, 0))).drew = w1 at *
  have hW := Hh.out.below hb1
  obtain ⟨e0, e1, e2, e3, e5⟩ := ed_cells hk1
  obtain ⟨d0, d1, d2, d3, d4, d5, -⟩ := wkc hW.rd
  rw [Hvn.out] at d4
  obtain ⟨b0, b1, b2, f0, f1, f2⟩ := box_cells hk0
  have hM1 := HM.out.below hW.base
  have hl1 := Hh.out.lt
  have HW := Lib.hid hW; have Hb1 := Lib.hid hb1; have K0 := Lib.hid hk0; have K1 := Lib.hid hk1; have Hz1 := Lib.hid hz1; have HM1 := Lib.hid hM1; have Hlt := Lib.hid hl1
  clear hW hb1 hk0 hk1 hz1 hM1 hl1
  rw [Hk.out] at e0
  have D3 := fun d os => cell_regrown d3 d os
  have E5 := fun d os => cell_regrown e5 d os
  go_wp2_with (fail)
  by_cases h1 : s.now ≤ e.n
  · have q1 : decide (e.n ≥ s.now) = true := decide_eq_true h1
    have q1' : decide (s.now ≤ e.n) = true := decide_eq_true h1
    by_cases h2 : e.n ≤ 9007199254740981
    · have q2 : decide (e.n ≤ 9007199254740981) = true := decide_eq_true h2
      have HR2 := Lib.hid (HR.out.trans (if_neg (by omega)))
      clear HR
      (refine Rtail.wp_tail 12 (by kernel_rfl) (by kernel_rfl) ?_; simp only [List.take_succ_cons, List.take_zero, List.drop_succ_cons, List.drop_zero]; (repeat (go_big_quiet_step ((fail)))); refine wpQuiet_nil ?_; intro _ hw'; obtain ⟨⟨dq, osq⟩, hw''⟩ := hw'; subst hw'')
      have hb3 := below_regrown w1 dq osq
      have hO3 := HW.out.below hb3
      have hO4 := WkO.poke (s' := { s with now := e.n }) (j := 3) (u := .int .i64 e.n) hO3 rfl hO3.nodes hO3.leases hO3.nn hO3.ln
      have hok : Lease.renOk e.client e.n s.leases = true := Lease.renOk_iff.2 ⟨Hs.out.lease, He.out.client.1, by have := He.out.client; omega, by have := Hs.out.nums; omega, h2⟩
      have hrn := renew_calls w0 _ g { s with now := e.n } e hO4 hok
      have hglt := Hlt.out.1
      have x5 : w.heap.size ≠ g := by omega
      have kB := (heap_setCell_other (Go.Sort.grow (redrawn w1 dq) osq) ⟨g, 3, none⟩ w.heap.size (.int .i64 e.n) x5).trans ((hb3.block _ (lt_of_block K0.out)).trans K0.out)
      have z3 : (Go.Sort.grow (redrawn w1 dq) osq).frozen? ⟨g, 3, none⟩ = false := free_of_blk hO3.blk
      have d3' := D3 dq osq
      have e5' := E5 dq osq
      have Hrn := Lib.hid hrn; have KB := Lib.hid kB
      clear hrn kB hO4 hO3 hb3 hok b0 b1 b2 f0 f1 f2 D3 E5 d0 d1 d2 d3 d4 d5 e0 e1 e2 e3 e5
      generalize Go.Sort.grow (redrawn w1 dq) osq = w3 at *
      go_wp2_with (first
            | (go_at_call 45; (with_reducible refine (must_yes _ _).mono ?_); rintro e9 w9 ⟨rfl, rfl⟩)
            | (go_at_call 96; refine Hrn.out.mono ?_; rintro e8 w8 hp; unfold RenP at hp; obtain ⟨rfl, ⟨vl8, hO8⟩, hU8⟩ := hp; have kB8 := (hU8.block _ (lt_of_block KB.out) (fun h => x5 h)).trans KB.out; obtain ⟨b0, b1, b2, f0, f1, f2⟩ := box_cells kB8; have HO8 := Lib.hid hO8; have KBF := Lib.hid kB8; clear hO8 hU8 kB8))
      obtain ⟨t1, t2, t3, t4⟩ := Hlt.out
      refine bodyPost_ret (results_cell_row rfl _ _ w.heap.size _ _ _ _ rfl (set3_blk KBF.out (.int .i64 0) (.int .i64 0) (.int .i64 0)) Tryz.underlying31 rfl (by kernel_rfl)) rfl ?_
      exact do_end (t := { renS { s with now := e.n } e.client with vl := vl8 }) (by rw [HR2.out]) (by rw [HR2.out]) (by rw [HR2.out]; exact ⟨rfl, rfl, rfl, rfl, rfl, rfl⟩) HO8.out KBF.out Hh.out.base.size (fun y hy h => by have := t4 y hy _ h; omega)
    · have q2 : decide (e.n ≤ 9007199254740981) = false := decide_eq_false h2
      have HR2 := Lib.hid (HR.out.trans (if_pos (by omega)))
      clear HR
      (refine Rtail.wp_tail 12 (by kernel_rfl) (by kernel_rfl) ?_; simp only [List.take_succ_cons, List.take_zero, List.drop_succ_cons, List.drop_zero]; (repeat (go_big_quiet_step ((fail)))); refine wpQuiet_nil ?_; intro _ hw'; obtain ⟨⟨dq, osq⟩, hw''⟩ := hw'; subst hw'')
      go_wp2_with (first | (go_at_call 45; (with_reducible refine (must_no _ _).mono ?_); rintro e9 w9 ⟨rfl, rfl⟩))
      exact ⟨rfl, do_bad HR2.out (by decide) (HW.out.base.trans ((below_regrown _ _ _).mono HW.out.base.size))⟩
  · have q1 : decide (e.n ≥ s.now) = false := decide_eq_false h1
    have q1' : decide (s.now ≤ e.n) = false := decide_eq_false h1
    have HR2 := Lib.hid (HR.out.trans (if_pos (by omega)))
    clear HR
    (refine Rtail.wp_tail 12 (by kernel_rfl) (by kernel_rfl) ?_; simp only [List.take_succ_cons, List.take_zero, List.drop_succ_cons, List.drop_zero]; (repeat (go_big_quiet_step ((fail)))); refine wpQuiet_nil ?_; intro _ hw'; obtain ⟨⟨dq, osq⟩, hw''⟩ := hw'; subst hw'')
    go_wp2_with (first | (go_at_call 45; (with_reducible refine (must_no _ _).mono ?_); rintro e9 w9 ⟨rfl, rfl⟩))
    exact ⟨rfl, do_bad HR2.out (by decide) (HW.out.base.trans ((below_regrown _ _ _).mono HW.out.base.size))⟩
end Go.Proofs.YtdfckkadmgmcaaaGreatDoor.Space

/- Edits of spaces: (*work).do, kind by kind (printed by gen_zn.py): Reopen. -/
namespace Go.Proofs.YtdfckkadmgmcaaaGreatDoor.Space
open Go.RowKit
open Path (Bs bs mk bs_mk mk_bs tl_bs MaxC splitE splitL parD)
open Tree
open Quota (overL cntT roomT)
set_option linter.unusedSimpArgs false
set_option linter.unusedVariables false
set_option maxRecDepth 100000 in
set_option maxHeartbeats 8000000 in
theorem do_reopen (w0 w : World) (g : Nat) (s : Sp) (e : Ed) (h : WkO w0 w g s e) (hA : Apart s.nodes) (hM : MaxC w0) (hs : RightS s) (he : EdOk e) (hk : e.kind = 10) :
    Calls Tryz.prog 48 #[.pointer (some ⟨g, 0, none⟩)] w (DoP w0 g (doE s e) e) := by
  obtain ⟨c0, c1, c2, c3, c4, c5, c6, c7, c8, c9, c10, c11, c12⟩ := wkc h.rd
  obtain ⟨al, cl, hlv, -, -⟩ := Lease.rd_cellsI h.rd.len
  obtain ⟨an, cn, hvn, -⟩ := rd_cellsN h.rd.sp.n.rd
  rw [hlv] at c12
  obtain ⟨R, hR0⟩ : ∃ R, R = doE s e := ⟨_, rfl⟩
  rw [← hR0]
  rw [doE, if_neg (by omega), if_neg (by omega), if_neg (by omega), if_neg (by omega), if_neg (by omega), if_pos hk] at hR0
  have HR := Lib.hid hR0
  have Hh := Lib.hid h; have HA := Lib.hid hA; have Hk := Lib.hid hk; have Hlv := Lib.hid hlv; have Hvn := Lib.hid hvn; have HM := Lib.hid hM; have Hs := Lib.hid hs; have He := Lib.hid he
  clear hR0 h hA hk hlv hvn hM hs he
  go_enter Tryz.func48, Tryz.ntmps48
  go_wp2_with (fail)
  go_region_held3 (fun w' => w'.cell? ⟨g, 6, none⟩ = some (.int .i64 e.kind) ∧ w'.cell? ⟨g, 7, none⟩ = some (.string e.path) ∧ w'.cell? ⟨g, 8, none⟩ = some (.string e.dst) ∧ w'.cell? ⟨g, 9, none⟩ = some (.int .i64 e.client) ∧ w'.cell? ⟨g, 10, none⟩ = some (.int .i64 e.call) ∧ w'.cell? ⟨g, 11, none⟩ = some (.int .i64 e.n) ∧ w'.cell? ⟨g, 12, none⟩ = some (.slice al e.lens.length cl)) (go_keep) (fail)
  have hb1 : Below w.heap.size w (((w.alloc (.cells #[.int .i64 0, .int .i64 0, .int .i64 0] 31 (0, 0))).alloc (.cells #[.int .i64 e.kind, .string e.path, .string e.dst, .int .i64 e.client, .int .i64 e.call, .int .i64 e.n, .slice al e.lens.length cl] 42 (0, 0))).drew) := (((Below.refl _ _).alloc (Nat.le_refl _) _).alloc (by simp) _).drew
  have hk0 : (((w.alloc (.cells #[.int .i64 0, .int .i64 0, .int .i64 0] 31 (0, 0))).alloc (.cells #[.int .i64 e.kind, .string e.path, .string e.dst, .int .i64 e.client, .int .i64 e.call, .int .i64 e.n, .slice al e.lens.length cl] 42 (0, 0))).drew).heap[w.heap.size]? = some (.cells #[.int .i64 0, .int .i64 0, .int .i64 0] 31 (0, 0)) := (heap_alloc_old _ _ (by simp)).trans (heap_alloc_new _ _)
  have hk1 : (((w.alloc (.cells #[.int .i64 0, .int .i64 0, .int .i64 0] 31 (0, 0))).alloc (.cells #[.int .i64 e.kind, .string e.path, .string e.dst, .int .i64 e.client, .int .i64 e.call, .int .i64 e.n, .slice al e.lens.length cl] 42 (0, 0))).drew).heap[w.heap.size + 1]? = some (.cells #[.int .i64 e.kind, .string e.path, .string e.dst, .int .i64 e.client, .int .i64 e.call, .int .i64 e.n, .slice al e.lens.length cl] 42 (0, 0)) := by
    have h1 := heap_alloc_new (w.alloc (.cells #[.int .i64 0, .int .i64 0, .int .i64 0] 31 (0, 0))) (.cells #[.int .i64 e.kind, .string e.path, .string e.dst, .int .i64 e.client, .int .i64 e.call, .int .i64 e.n, .slice al e.lens.length cl] 42 (0, 0))
    have h2 : (w.alloc (.cells #[.int .i64 0, .int .i64 0, .int .i64 0] 31 (0, 0))).heap.size = w.heap.size + 1 := by simp
    rw [h2] at h1; exact h1
  have hz1 : (((w.alloc (.cells #[.int .i64 0, .int .i64 0, .int .i64 0] 31 (0, 0))).alloc (.cells #[.int .i64 e.kind, .string e.path, .string e.dst, .int .i64 e.client, .int .i64 e.call, .int .i64 e.n, .slice al e.lens.length cl] 42 (0, 0))).drew).heap.size = w.heap.size + 2 := by simp
  clear c0 c1 c2 c3 c4 c5 c6 c7 c8 c9 c10 c11 c12
  generalize ((w.alloc (.cells #[.int .i64 0, .int .i64 0, .int .i64 0] 31 (0, 0))).alloc (.cells #[.int .i64 e.kind, .string e.path, .string e.dst, .int .i64 e.client, .int .i64 e.call, .int .i64 e.n, .slice al e.lens.length cl] 42 (0, 0))).drew = w1 at *
  have hW := Hh.out.below hb1
  obtain ⟨e0, e1, e2, e3, e5⟩ := ed_cells hk1
  obtain ⟨d0, d1, d2, d3, d4, d5, -⟩ := wkc hW.rd
  rw [Hvn.out] at d4
  obtain ⟨b0, b1, b2, f0, f1, f2⟩ := box_cells hk0
  have hM1 := HM.out.below hW.base
  have hl1 := Hh.out.lt
  have HW := Lib.hid hW; have Hb1 := Lib.hid hb1; have K0 := Lib.hid hk0; have K1 := Lib.hid hk1; have Hz1 := Lib.hid hz1; have HM1 := Lib.hid hM1; have Hlt := Lib.hid hl1
  clear hW hb1 hk0 hk1 hz1 hM1 hl1
  have hgnx : 0 < s.nodes.length * 5 := by
    obtain ⟨r, hr, -⟩ := Hs.out.tree.root
    have := List.length_pos_of_mem hr
    omega
  obtain ⟨gn, cap, cur, hvg, -, -, -⟩ := own_form HW.out.nodes.own hgnx
  have hv2 := Hvn.out
  rw [hvg] at hv2
  simp only [Value.slice.injEq, true_and] at hv2
  obtain ⟨rfl, rfl⟩ := hv2
  have Hvg := Lib.hid hvg
  clear hvg hgnx
  rw [Hk.out] at e0
  rw [fileN] at HR
  rcases at_ways s (bs e.path) with ⟨E, hEE, hae, hf⟩ | ⟨i, x, hx, hp, hae, hf⟩
  · have hfl := file_bad w1 g s e HW.out.rd HM1.out hae
    have HR2 := Lib.hid (HR.out.trans (hf _))
    have Hfl := Lib.hid hfl
    clear hfl HR hf hae
    go_wp2_with (go_at_call 49; (with_reducible refine Hfl.out.mono ?_); rintro e2' w2 ⟨he2, hb2⟩; rw [amissE] at he2; subst he2)
    exact ⟨rfl, do_bad HR2.out (by omega) (HW.out.base.trans (hb2.mono HW.out.base.size))⟩
  · have hfl := file_at w1 g s e HW.out.rd HM1.out Hvg.out hae hx
    have HR2 := Lib.hid (HR.out.trans (hf _))
    have hi := (List.getElem?_eq_some_iff.1 hx).1
    have hcx := fun W (hW : Below w1.heap.size w1 W) => (show (W.cell? ⟨gn, i * 5 + 4, none⟩ = some (.int .i64 x.writer) ∧ W.frozen? ⟨gn, i * 5 + 4, none⟩ = false) ∧ W.heap[w.heap.size]? = some (.cells #[.int .i64 0, .int .i64 0, .int .i64 0] 31 (0, 0)) ∧ W.cell? ⟨w.heap.size + 1, 3, none⟩ = some (.int .i64 e.client) from
      ⟨(HW.out.below hW).cell (j := 4) Hvg.out hx rfl (by decide), (hW.block _ (lt_of_block K0.out)).trans K0.out, (hW.cell (p := ⟨w.heap.size + 1, 3, none⟩) (lt_of_block K1.out)).trans e3⟩)
    have Hcx := Lib.hid hcx; have Hx := Lib.hid hx
    clear HR hf hae hcx hx hp b0 b1 b2 f0 f1 f2 d0 d1 d2 d3 d4 d5 e1 e2 e3 e5
    cases hd : x.dir
    case true =>
      rw [hd, if_pos rfl] at hfl
      have HR3 := Lib.hid (HR2.out.trans (if_pos hd))
      have Hfl := Lib.hid hfl
      clear HR2 hd hfl
      go_wp2_with (go_at_call 49; (with_reducible refine Hfl.out.mono ?_); rintro e2' w2 ⟨he2, hb2⟩; rw [amissE] at he2; subst he2)
      exact ⟨rfl, do_bad HR3.out (by decide) (HW.out.base.trans (hb2.mono HW.out.base.size))⟩
    case false =>
      rw [hd, if_neg (by simp)] at hfl
      have HR3 := Lib.hid (HR2.out.trans (if_neg (by rw [hd]; simp)))
      have Hfl := Lib.hid hfl; have Hd := Lib.hid hd
      clear HR2 hd hfl
      have hgN : gn < w.heap.size := Hlt.out.2.1 gn (by rw [Hvg.out]; rfl)
      have hgN1 : gn ≠ w.heap.size := by omega
      have hgN2 : gn ≠ w.heap.size + 1 := by omega
      have hglt := Hlt.out.1
      have x5 : w.heap.size ≠ g := by omega
      have hok : Lease.renOk e.client s.now s.leases = true := ren_ok Hs.out.lease He.out.client ⟨Hs.out.nums.2.2.2.2.2.2.1, Hs.out.nums.2.2.2.2.2.2.2⟩
      have hrn := fun W (hW : Below w1.heap.size w1 W) => renew_calls w0 (W.setCell ⟨gn, i * 5 + 4, none⟩ (.int .i64 e.client)) g (setN s i { x with writer := e.client }) e (WkO.nd (y := { x with writer := e.client }) (j := 4) (u := .int .i64 e.client) (HW.out.below hW) Hx.out Hvg.out (by decide) rfl ((HW.out.below hW).nodes.bl x (List.mem_of_getElem? Hx.out))) hok
      have Hrn := Lib.hid hrn
      clear hrn hok
      by_cases hw : 0 ≤ x.writer
      · have q1 : decide (x.writer < 0) = false := decide_eq_false (by omega)
        have HR4 := Lib.hid (HR3.out.trans (if_pos hw))
        clear HR3
        go_wp2_with (first
          | (go_at_call 49; (with_reducible refine Hfl.out.mono ?_); rintro e2' w2 ⟨rfl, hb2⟩; obtain ⟨⟨l4, lz4⟩, lB, l3⟩ := Hcx.out w2 hb2; have Hb2 := Lib.hid hb2; clear hb2)
          | (go_at_call 45; (with_reducible refine (must_no _ _).mono ?_); rintro e9 w9 ⟨rfl, rfl⟩))
        exact ⟨rfl, do_bad HR4.out (by decide) (HW.out.base.trans (Hb2.out.mono HW.out.base.size))⟩
      · have q1 : decide (x.writer < 0) = true := decide_eq_true (by omega)
        have HR4 := Lib.hid (HR3.out.trans (if_neg hw))
        clear HR3
        go_wp2_with (first
          | (go_at_call 49; (with_reducible refine Hfl.out.mono ?_); rintro e2' w2 ⟨rfl, hb2⟩; obtain ⟨⟨l4, lz4⟩, lB, l3⟩ := Hcx.out w2 hb2; have Hb2 := Lib.hid hb2; have LB := Lib.hid lB; clear hb2 lB)
          | (go_at_call 45; (with_reducible refine (must_yes _ _).mono ?_); rintro e9 w9 ⟨rfl, rfl⟩)
          | (go_at_call 96; refine (Hrn.out _ Hb2.out).mono ?_; rintro e8 w8 hp; unfold RenP at hp; obtain ⟨rfl, ⟨vl8, hO8⟩, hU8⟩ := hp; have kB7 := (heap_setCell_other _ ⟨gn, i * 5 + 4, none⟩ w.heap.size (.int .i64 e.client) (fun h => hgN1 h.symm)).trans LB.out; have kB8 := (hU8.block _ (lt_of_block kB7) (by intro h; exact x5 h)).trans kB7; obtain ⟨b0, b1, b2, f0, f1, f2⟩ := box_cells kB8; have HO8 := Lib.hid hO8; have KBF := Lib.hid kB8; clear hO8 hU8 kB8 kB7))
        obtain ⟨t1, t2, t3, t4⟩ := Hlt.out
        refine bodyPost_ret (results_cell_row rfl _ _ w.heap.size _ _ _ _ rfl (set3_blk KBF.out (.int .i64 0) (.int .i64 0) (.int .i64 0)) Tryz.underlying31 rfl (by kernel_rfl)) rfl ?_
        exact do_end (t := { renS (setN s i { x with writer := e.client }) e.client with vl := vl8 }) (by rw [HR4.out]) (by rw [HR4.out]) (by rw [HR4.out]; exact ⟨rfl, rfl, rfl, rfl, rfl, rfl⟩) HO8.out KBF.out Hh.out.base.size (fun y hy h => by
          rcases set_at Hx.out hy with rfl | ⟨k, _, hky⟩
          · have := t4 x (List.mem_of_getElem? Hx.out) _ h; omega
          · have := t4 y (List.mem_of_getElem? hky) _ h; omega)
end Go.Proofs.YtdfckkadmgmcaaaGreatDoor.Space

/- Edits of spaces: (*work).do, kind by kind (printed by gen_zn.py): what a writer does. -/
namespace Go.Proofs.YtdfckkadmgmcaaaGreatDoor.Space
open Go.RowKit
open Path (Bs bs mk bs_mk mk_bs tl_bs MaxC splitE splitL parD)
open Tree
open Quota (overL cntT roomT)
set_option linter.unusedSimpArgs false
set_option linter.unusedVariables false
set_option maxRecDepth 100000 in
set_option maxHeartbeats 8000000 in
theorem do_bump (w0 w : World) (g : Nat) (s : Sp) (e : Ed) (h : WkO w0 w g s e) (hA : Apart s.nodes) (hM : MaxC w0) (hs : RightS s) (he : EdOk e) (hk : e.kind = 9) :
    Calls Tryz.prog 48 #[.pointer (some ⟨g, 0, none⟩)] w (DoP w0 g (doE s e) e) := by
  obtain ⟨c0, c1, c2, c3, c4, c5, c6, c7, c8, c9, c10, c11, c12⟩ := wkc h.rd
  obtain ⟨al, cl, hlv, -, -⟩ := Lease.rd_cellsI h.rd.len
  obtain ⟨an, cn, hvn, -⟩ := rd_cellsN h.rd.sp.n.rd
  rw [hlv] at c12
  obtain ⟨R, hR0⟩ : ∃ R, R = doE s e := ⟨_, rfl⟩
  rw [← hR0]
  rw [doE, if_neg (by omega), if_neg (by omega), if_neg (by omega), if_neg (by omega), if_neg (by omega), if_neg (by omega)] at hR0
  have HR := Lib.hid hR0
  have Hh := Lib.hid h; have HA := Lib.hid hA; have Hk := Lib.hid hk; have Hlv := Lib.hid hlv; have Hvn := Lib.hid hvn; have HM := Lib.hid hM; have Hs := Lib.hid hs; have He := Lib.hid he
  clear hR0 h hA hk hlv hvn hM hs he
  go_enter Tryz.func48, Tryz.ntmps48
  go_wp2_with (fail)
  go_region_held3 (fun w' => w'.cell? ⟨g, 6, none⟩ = some (.int .i64 e.kind) ∧ w'.cell? ⟨g, 7, none⟩ = some (.string e.path) ∧ w'.cell? ⟨g, 8, none⟩ = some (.string e.dst) ∧ w'.cell? ⟨g, 9, none⟩ = some (.int .i64 e.client) ∧ w'.cell? ⟨g, 10, none⟩ = some (.int .i64 e.call) ∧ w'.cell? ⟨g, 11, none⟩ = some (.int .i64 e.n) ∧ w'.cell? ⟨g, 12, none⟩ = some (.slice al e.lens.length cl)) (go_keep) (fail)
  have hb1 : Below w.heap.size w (((w.alloc (.cells #[.int .i64 0, .int .i64 0, .int .i64 0] 31 (0, 0))).alloc (.cells #[.int .i64 e.kind, .string e.path, .string e.dst, .int .i64 e.client, .int .i64 e.call, .int .i64 e.n, .slice al e.lens.length cl] 42 (0, 0))).drew) := (((Below.refl _ _).alloc (Nat.le_refl _) _).alloc (by simp) _).drew
  have hk0 : (((w.alloc (.cells #[.int .i64 0, .int .i64 0, .int .i64 0] 31 (0, 0))).alloc (.cells #[.int .i64 e.kind, .string e.path, .string e.dst, .int .i64 e.client, .int .i64 e.call, .int .i64 e.n, .slice al e.lens.length cl] 42 (0, 0))).drew).heap[w.heap.size]? = some (.cells #[.int .i64 0, .int .i64 0, .int .i64 0] 31 (0, 0)) := (heap_alloc_old _ _ (by simp)).trans (heap_alloc_new _ _)
  have hk1 : (((w.alloc (.cells #[.int .i64 0, .int .i64 0, .int .i64 0] 31 (0, 0))).alloc (.cells #[.int .i64 e.kind, .string e.path, .string e.dst, .int .i64 e.client, .int .i64 e.call, .int .i64 e.n, .slice al e.lens.length cl] 42 (0, 0))).drew).heap[w.heap.size + 1]? = some (.cells #[.int .i64 e.kind, .string e.path, .string e.dst, .int .i64 e.client, .int .i64 e.call, .int .i64 e.n, .slice al e.lens.length cl] 42 (0, 0)) := by
    have h1 := heap_alloc_new (w.alloc (.cells #[.int .i64 0, .int .i64 0, .int .i64 0] 31 (0, 0))) (.cells #[.int .i64 e.kind, .string e.path, .string e.dst, .int .i64 e.client, .int .i64 e.call, .int .i64 e.n, .slice al e.lens.length cl] 42 (0, 0))
    have h2 : (w.alloc (.cells #[.int .i64 0, .int .i64 0, .int .i64 0] 31 (0, 0))).heap.size = w.heap.size + 1 := by simp
    rw [h2] at h1; exact h1
  have hz1 : (((w.alloc (.cells #[.int .i64 0, .int .i64 0, .int .i64 0] 31 (0, 0))).alloc (.cells #[.int .i64 e.kind, .string e.path, .string e.dst, .int .i64 e.client, .int .i64 e.call, .int .i64 e.n, .slice al e.lens.length cl] 42 (0, 0))).drew).heap.size = w.heap.size + 2 := by simp
  clear c0 c1 c2 c3 c4 c5 c6 c7 c8 c9 c10 c11 c12
  generalize ((w.alloc (.cells #[.int .i64 0, .int .i64 0, .int .i64 0] 31 (0, 0))).alloc (.cells #[.int .i64 e.kind, .string e.path, .string e.dst, .int .i64 e.client, .int .i64 e.call, .int .i64 e.n, .slice al e.lens.length cl] 42 (0, 0))).drew = w1 at *
  have hW := Hh.out.below hb1
  obtain ⟨e0, e1, e2, e3, e5⟩ := ed_cells hk1
  obtain ⟨d0, d1, d2, d3, d4, d5, -⟩ := wkc hW.rd
  rw [Hvn.out] at d4
  obtain ⟨b0, b1, b2, f0, f1, f2⟩ := box_cells hk0
  have hM1 := HM.out.below hW.base
  have hl1 := Hh.out.lt
  have HW := Lib.hid hW; have Hb1 := Lib.hid hb1; have K0 := Lib.hid hk0; have K1 := Lib.hid hk1; have Hz1 := Lib.hid hz1; have HM1 := Lib.hid hM1; have Hlt := Lib.hid hl1
  clear hW hb1 hk0 hk1 hz1 hM1 hl1
  have hgnx : 0 < s.nodes.length * 5 := by
    obtain ⟨r, hr, -⟩ := Hs.out.tree.root
    have := List.length_pos_of_mem hr
    omega
  obtain ⟨gn, cap, cur, hvg, -, -, -⟩ := own_form HW.out.nodes.own hgnx
  have hv2 := Hvn.out
  rw [hvg] at hv2
  simp only [Value.slice.injEq, true_and] at hv2
  obtain ⟨rfl, rfl⟩ := hv2
  have Hvg := Lib.hid hvg
  clear hvg hgnx
  rw [Hk.out] at e0
  rw [fileN] at HR
  rcases at_ways s (bs e.path) with ⟨E, hEE, hae, hf⟩ | ⟨i, x, hx, hp, hae, hf⟩
  · have hfl := file_bad w1 g s e HW.out.rd HM1.out hae
    have HR2 := Lib.hid (HR.out.trans (hf _))
    have Hfl := Lib.hid hfl
    clear hfl HR hf hae
    go_wp2_with (go_at_call 49; (with_reducible refine Hfl.out.mono ?_); rintro e2' w2 ⟨he2, hb2⟩; rw [amissE] at he2; subst he2)
    exact ⟨rfl, do_bad HR2.out (by omega) (HW.out.base.trans (hb2.mono HW.out.base.size))⟩
  · have hfl := file_at w1 g s e HW.out.rd HM1.out Hvg.out hae hx
    have HR2 := Lib.hid (HR.out.trans (hf _))
    have hi := (List.getElem?_eq_some_iff.1 hx).1
    have hcx := fun W (hW : Below w1.heap.size w1 W) => (show (W.cell? ⟨gn, i * 5 + 4, none⟩ = some (.int .i64 x.writer) ∧ W.frozen? ⟨gn, i * 5 + 4, none⟩ = false) ∧ W.heap[w.heap.size]? = some (.cells #[.int .i64 0, .int .i64 0, .int .i64 0] 31 (0, 0)) ∧ W.cell? ⟨w.heap.size + 1, 3, none⟩ = some (.int .i64 e.client) from
      ⟨(HW.out.below hW).cell (j := 4) Hvg.out hx rfl (by decide), (hW.block _ (lt_of_block K0.out)).trans K0.out, (hW.cell (p := ⟨w.heap.size + 1, 3, none⟩) (lt_of_block K1.out)).trans e3⟩)
    have Hcx := Lib.hid hcx; have Hx := Lib.hid hx
    clear HR hf hae hcx hx hp b0 b1 b2 f0 f1 f2 d0 d1 d2 d3 d4 d5 e1 e2 e3 e5
    cases hd : x.dir
    case true =>
      rw [hd, if_pos rfl] at hfl
      have HR3 := Lib.hid (HR2.out.trans (if_pos hd))
      have Hfl := Lib.hid hfl
      clear HR2 hd hfl
      go_wp2_with (go_at_call 49; (with_reducible refine Hfl.out.mono ?_); rintro e2' w2 ⟨he2, hb2⟩; rw [amissE] at he2; subst he2)
      exact ⟨rfl, do_bad HR3.out (by decide) (HW.out.base.trans (hb2.mono HW.out.base.size))⟩
    case false =>
      rw [hd, if_neg (by simp)] at hfl
      have HR3 := Lib.hid (HR2.out.trans (if_neg (by rw [hd]; simp)))
      have Hfl := Lib.hid hfl; have Hd := Lib.hid hd
      clear HR2 hd hfl
      have hgN : gn < w.heap.size := Hlt.out.2.1 gn (by rw [Hvg.out]; rfl)
      have hgN1 : gn ≠ w.heap.size := by omega
      have hglt := Hlt.out.1
      have x5 : w.heap.size ≠ g := by omega
      have hn8 : x.blocks.length ≤ 8 := fits_blocks (Hs.out.tree.fits x (List.mem_of_getElem? Hx.out))
      have hwr := fun W (hW : Below w1.heap.size w1 W) => bump_calls w0 W g s e (HW.out.below hW) HA.out Hk.out ⟨by have := He.out.n; simp only [leastE, mostE, Hk.out] at this; omega, by have := He.out.n; simp only [leastE, mostE, Hk.out] at this; omega⟩ ⟨Hs.out.nums.2.2.2.2.2.1, Hs.out.nums.2.2.2.2.1⟩ Hvg.out Hx.out hn8
      have Hwr := Lib.hid hwr
      clear hwr
      by_cases hw : x.writer = e.client
      · have q1 : (x.writer == e.client) = true := by simpa using hw
        have HR4 := Lib.hid (HR3.out.trans (if_neg (by omega)))
        clear HR3 hw
        go_wp2_with (first
          | (go_at_call 49; (with_reducible refine Hfl.out.mono ?_); rintro e2' w2 ⟨rfl, hb2⟩; obtain ⟨⟨l4, lz4⟩, lB, l3⟩ := Hcx.out w2 hb2; have C4 := (fun d os => cell_regrown l4 d os); have C3 := (fun d os => cell_regrown l3 d os); have Hb2 := Lib.hid hb2; have LB := Lib.hid lB; clear hb2 lB))
        (refine Rtail.wp_tail 7 (by kernel_rfl) (by kernel_rfl) ?_; simp only [List.take_succ_cons, List.take_zero, List.drop_succ_cons, List.drop_zero]; (repeat (go_big_quiet_step ((fail)))); refine wpQuiet_nil ?_; intro _ hw'; obtain ⟨⟨dq, osq⟩, hw''⟩ := hw'; subst hw'')
        have hb3 := Hb2.out.trans ((below_regrown w2 dq osq).mono Hb2.out.size)
        have kB3 := ((below_regrown w2 dq osq).block _ (lt_of_block LB.out)).trans LB.out
        generalize Go.Sort.grow (redrawn w2 dq) osq = w3 at *
        have Hb3 := Lib.hid hb3; have KB3 := Lib.hid kB3
        clear hb3 kB3 C4 C3
        have hbvN : x.bv.ownBlock ≠ some w.heap.size := fun h => by have := Hlt.out.2.2.2 x (List.mem_of_getElem? Hx.out) _ h; omega
        by_cases hz : (doWrite s e i x).err = 0
        · have Hz := Lib.hid hz; clear hz
          go_wp2_with (first
            | (go_at_call 45; (with_reducible refine (must_yes _ _).mono ?_); rintro e9 w9 ⟨rfl, rfl⟩)
            | (go_at_call 101; refine (Hwr.out _ Hb3.out).mono ?_; rintro e8 w8 hp; unfold WriteP at hp; obtain ⟨hU8, hp⟩ := hp; rw [if_neg (by rw [Hz.out]; simp)] at hp; obtain ⟨⟨t, hst, hO8, hnb⟩, rfl⟩ := hp; have Hnb := Lib.hid hnb; clear hnb; have kB8 := (hU8.block _ (lt_of_block KB3.out) (by rintro (h | h | h); (exact x5 h); (exact hgN1 h.symm); (exact hbvN h))).trans KB3.out; obtain ⟨b0, b1, b2, f0, f1, f2⟩ := box_cells kB8; have HO8 := Lib.hid hO8; have KBF := Lib.hid kB8; have HU8 := Lib.hid hU8; have Hst := Lib.hid hst; clear hO8 hU8 kB8 hst))
          have hf := set3_blk KBF.out (.int .i64 (doWrite s e i x).b.id) (.int .i64 (doWrite s e i x).b.gen) (.int .i64 (doWrite s e i x).b.len)
          have hgne : g ≠ w.heap.size := fun h => x5 h.symm
          have hfin := HO8.out.side3 (N := w.heap.size) Hh.out.base.size hgne (own_ne_blk HO8.out.nodes.own KBF.out (by decide)) (own_ne_blk HO8.out.leases.own KBF.out (by decide)) (Hnb.out _ (lt_of_block KB3.out) (fun z hz h => by have := Hlt.out.2.2.2 z hz _ h; omega)) (.int .i64 (doWrite s e i x).b.id) (.int .i64 (doWrite s e i x).b.gen) (.int .i64 (doWrite s e i x).b.len)
          refine bodyPost_ret (results_cell_row rfl _ _ w.heap.size _ _ _ _ rfl hf Tryz.underlying31 rfl (by kernel_rfl)) rfl ?_
          unfold DoP
          rw [HR4.out, if_neg (by rw [Hz.out]; simp)]
          exact ⟨hfin.base, ⟨_, Hst.out, hfin⟩, rfl⟩
        · have hwr2 := Hwr.out _ Hb3.out
          clear Hwr
          have hbw : ∀ (w' : World), Upd (wrF g gn x) w3 w' → Below w0.heap.size w0 w' := fun w' hU => (HW.out.base.trans (Hb3.out.mono HW.out.base.size)).trans (hU.toBelow (fun k hk => by
            rcases hk with h | h | h
            · rw [h]; exact Hh.out.new
            · rw [h]; exact Hh.out.nodes.new gn (by rw [Hvg.out]; rfl)
            · exact (Hh.out.nodes.bl x (List.mem_of_getElem? Hx.out)).new k h) (Nat.le_trans HW.out.base.size Hb3.out.size))
          have HBW := Lib.hid hbw; clear hbw
          obtain ⟨E, hE⟩ : ∃ E, E = (doWrite s e i x).err := ⟨_, rfl⟩
          have hwr3 : Calls Tryz.prog 101 #[.pointer (some ⟨g, 0, none⟩), .pointer (some ⟨gn, i * 5, none⟩)] w3 (fun e' w' => Upd (wrF g gn x) w3 w' ∧ e' = amissE E) := hwr2.mono (fun e' w' hp => by
            unfold WriteP at hp
            rw [if_pos hz, ← hE] at hp
            exact hp)
          have Hwr3 := Lib.hid hwr3
          have HRz := Lib.hid (show R.err = E from by rw [HR4.out, hE])
          have Hz := Lib.hid (show E ≠ 0 from by rw [hE]; exact hz)
          clear hwr2 hwr3 hz hE
          go_wp2_with (first
            | (go_at_call 45; (with_reducible refine (must_yes _ _).mono ?_); rintro e9 w9 ⟨rfl, rfl⟩)
            | (go_at_call 101; (with_reducible refine Hwr3.out.mono ?_); rintro e8 w8 ⟨hU8, he8⟩; rw [amissE] at he8; subst he8))
          refine ⟨rfl, HBW.out _ hU8, ?_⟩
          rw [HRz.out, if_pos Hz.out]
          rfl
      · have q1 : (x.writer == e.client) = false := by simpa using hw
        have HR4 := Lib.hid (HR3.out.trans (if_pos hw))
        clear HR3 hw
        go_wp2_with (first
          | (go_at_call 49; (with_reducible refine Hfl.out.mono ?_); rintro e2' w2 ⟨rfl, hb2⟩; obtain ⟨⟨l4, lz4⟩, lB, l3⟩ := Hcx.out w2 hb2; have C4 := (fun d os => cell_regrown l4 d os); have C3 := (fun d os => cell_regrown l3 d os); have Hb2 := Lib.hid hb2; clear hb2))
        (refine Rtail.wp_tail 7 (by kernel_rfl) (by kernel_rfl) ?_; simp only [List.take_succ_cons, List.take_zero, List.drop_succ_cons, List.drop_zero]; (repeat (go_big_quiet_step ((fail)))); refine wpQuiet_nil ?_; intro _ hw'; obtain ⟨⟨dq, osq⟩, hw''⟩ := hw'; subst hw'')
        go_wp2_with (first | (go_at_call 45; (with_reducible refine (must_no _ _).mono ?_); rintro e9 w9 ⟨rfl, rfl⟩))
        exact ⟨rfl, do_bad HR4.out (by decide) ((HW.out.base.trans (Hb2.out.mono HW.out.base.size)).trans ((below_regrown _ _ _).mono (Nat.le_trans HW.out.base.size Hb2.out.size)))⟩
end Go.Proofs.YtdfckkadmgmcaaaGreatDoor.Space

/- Edits of spaces: (*work).do, kind by kind (printed by gen_zn.py): what a writer does. -/
namespace Go.Proofs.YtdfckkadmgmcaaaGreatDoor.Space
open Go.RowKit
open Path (Bs bs mk bs_mk mk_bs tl_bs MaxC splitE splitL parD)
open Tree
open Quota (overL cntT roomT)
set_option linter.unusedSimpArgs false
set_option linter.unusedVariables false
set_option maxRecDepth 100000 in
set_option maxHeartbeats 8000000 in
theorem do_compl (w0 w : World) (g : Nat) (s : Sp) (e : Ed) (h : WkO w0 w g s e) (hA : Apart s.nodes) (hM : MaxC w0) (hs : RightS s) (he : EdOk e) (hk : e.kind = 6) :
    Calls Tryz.prog 48 #[.pointer (some ⟨g, 0, none⟩)] w (DoP w0 g (doE s e) e) := by
  obtain ⟨c0, c1, c2, c3, c4, c5, c6, c7, c8, c9, c10, c11, c12⟩ := wkc h.rd
  obtain ⟨al, cl, hlv, -, -⟩ := Lease.rd_cellsI h.rd.len
  obtain ⟨an, cn, hvn, -⟩ := rd_cellsN h.rd.sp.n.rd
  rw [hlv] at c12
  obtain ⟨R, hR0⟩ : ∃ R, R = doE s e := ⟨_, rfl⟩
  rw [← hR0]
  rw [doE, if_neg (by omega), if_neg (by omega), if_neg (by omega), if_neg (by omega), if_neg (by omega), if_neg (by omega)] at hR0
  have HR := Lib.hid hR0
  have Hh := Lib.hid h; have HA := Lib.hid hA; have Hk := Lib.hid hk; have Hlv := Lib.hid hlv; have Hvn := Lib.hid hvn; have HM := Lib.hid hM; have Hs := Lib.hid hs; have He := Lib.hid he
  clear hR0 h hA hk hlv hvn hM hs he
  go_enter Tryz.func48, Tryz.ntmps48
  go_wp2_with (fail)
  go_region_held3 (fun w' => w'.cell? ⟨g, 6, none⟩ = some (.int .i64 e.kind) ∧ w'.cell? ⟨g, 7, none⟩ = some (.string e.path) ∧ w'.cell? ⟨g, 8, none⟩ = some (.string e.dst) ∧ w'.cell? ⟨g, 9, none⟩ = some (.int .i64 e.client) ∧ w'.cell? ⟨g, 10, none⟩ = some (.int .i64 e.call) ∧ w'.cell? ⟨g, 11, none⟩ = some (.int .i64 e.n) ∧ w'.cell? ⟨g, 12, none⟩ = some (.slice al e.lens.length cl)) (go_keep) (fail)
  have hb1 : Below w.heap.size w (((w.alloc (.cells #[.int .i64 0, .int .i64 0, .int .i64 0] 31 (0, 0))).alloc (.cells #[.int .i64 e.kind, .string e.path, .string e.dst, .int .i64 e.client, .int .i64 e.call, .int .i64 e.n, .slice al e.lens.length cl] 42 (0, 0))).drew) := (((Below.refl _ _).alloc (Nat.le_refl _) _).alloc (by simp) _).drew
  have hk0 : (((w.alloc (.cells #[.int .i64 0, .int .i64 0, .int .i64 0] 31 (0, 0))).alloc (.cells #[.int .i64 e.kind, .string e.path, .string e.dst, .int .i64 e.client, .int .i64 e.call, .int .i64 e.n, .slice al e.lens.length cl] 42 (0, 0))).drew).heap[w.heap.size]? = some (.cells #[.int .i64 0, .int .i64 0, .int .i64 0] 31 (0, 0)) := (heap_alloc_old _ _ (by simp)).trans (heap_alloc_new _ _)
  have hk1 : (((w.alloc (.cells #[.int .i64 0, .int .i64 0, .int .i64 0] 31 (0, 0))).alloc (.cells #[.int .i64 e.kind, .string e.path, .string e.dst, .int .i64 e.client, .int .i64 e.call, .int .i64 e.n, .slice al e.lens.length cl] 42 (0, 0))).drew).heap[w.heap.size + 1]? = some (.cells #[.int .i64 e.kind, .string e.path, .string e.dst, .int .i64 e.client, .int .i64 e.call, .int .i64 e.n, .slice al e.lens.length cl] 42 (0, 0)) := by
    have h1 := heap_alloc_new (w.alloc (.cells #[.int .i64 0, .int .i64 0, .int .i64 0] 31 (0, 0))) (.cells #[.int .i64 e.kind, .string e.path, .string e.dst, .int .i64 e.client, .int .i64 e.call, .int .i64 e.n, .slice al e.lens.length cl] 42 (0, 0))
    have h2 : (w.alloc (.cells #[.int .i64 0, .int .i64 0, .int .i64 0] 31 (0, 0))).heap.size = w.heap.size + 1 := by simp
    rw [h2] at h1; exact h1
  have hz1 : (((w.alloc (.cells #[.int .i64 0, .int .i64 0, .int .i64 0] 31 (0, 0))).alloc (.cells #[.int .i64 e.kind, .string e.path, .string e.dst, .int .i64 e.client, .int .i64 e.call, .int .i64 e.n, .slice al e.lens.length cl] 42 (0, 0))).drew).heap.size = w.heap.size + 2 := by simp
  clear c0 c1 c2 c3 c4 c5 c6 c7 c8 c9 c10 c11 c12
  generalize ((w.alloc (.cells #[.int .i64 0, .int .i64 0, .int .i64 0] 31 (0, 0))).alloc (.cells #[.int .i64 e.kind, .string e.path, .string e.dst, .int .i64 e.client, .int .i64 e.call, .int .i64 e.n, .slice al e.lens.length cl] 42 (0, 0))).drew = w1 at *
  have hW := Hh.out.below hb1
  obtain ⟨e0, e1, e2, e3, e5⟩ := ed_cells hk1
  obtain ⟨d0, d1, d2, d3, d4, d5, -⟩ := wkc hW.rd
  rw [Hvn.out] at d4
  obtain ⟨b0, b1, b2, f0, f1, f2⟩ := box_cells hk0
  have hM1 := HM.out.below hW.base
  have hl1 := Hh.out.lt
  have HW := Lib.hid hW; have Hb1 := Lib.hid hb1; have K0 := Lib.hid hk0; have K1 := Lib.hid hk1; have Hz1 := Lib.hid hz1; have HM1 := Lib.hid hM1; have Hlt := Lib.hid hl1
  clear hW hb1 hk0 hk1 hz1 hM1 hl1
  have hgnx : 0 < s.nodes.length * 5 := by
    obtain ⟨r, hr, -⟩ := Hs.out.tree.root
    have := List.length_pos_of_mem hr
    omega
  obtain ⟨gn, cap, cur, hvg, -, -, -⟩ := own_form HW.out.nodes.own hgnx
  have hv2 := Hvn.out
  rw [hvg] at hv2
  simp only [Value.slice.injEq, true_and] at hv2
  obtain ⟨rfl, rfl⟩ := hv2
  have Hvg := Lib.hid hvg
  clear hvg hgnx
  rw [Hk.out] at e0
  rw [fileN] at HR
  rcases at_ways s (bs e.path) with ⟨E, hEE, hae, hf⟩ | ⟨i, x, hx, hp, hae, hf⟩
  · have hfl := file_bad w1 g s e HW.out.rd HM1.out hae
    have HR2 := Lib.hid (HR.out.trans (hf _))
    have Hfl := Lib.hid hfl
    clear hfl HR hf hae
    go_wp2_with (go_at_call 49; (with_reducible refine Hfl.out.mono ?_); rintro e2' w2 ⟨he2, hb2⟩; rw [amissE] at he2; subst he2)
    exact ⟨rfl, do_bad HR2.out (by omega) (HW.out.base.trans (hb2.mono HW.out.base.size))⟩
  · have hfl := file_at w1 g s e HW.out.rd HM1.out Hvg.out hae hx
    have HR2 := Lib.hid (HR.out.trans (hf _))
    have hi := (List.getElem?_eq_some_iff.1 hx).1
    have hcx := fun W (hW : Below w1.heap.size w1 W) => (show (W.cell? ⟨gn, i * 5 + 4, none⟩ = some (.int .i64 x.writer) ∧ W.frozen? ⟨gn, i * 5 + 4, none⟩ = false) ∧ W.heap[w.heap.size]? = some (.cells #[.int .i64 0, .int .i64 0, .int .i64 0] 31 (0, 0)) ∧ W.cell? ⟨w.heap.size + 1, 3, none⟩ = some (.int .i64 e.client) from
      ⟨(HW.out.below hW).cell (j := 4) Hvg.out hx rfl (by decide), (hW.block _ (lt_of_block K0.out)).trans K0.out, (hW.cell (p := ⟨w.heap.size + 1, 3, none⟩) (lt_of_block K1.out)).trans e3⟩)
    have Hcx := Lib.hid hcx; have Hx := Lib.hid hx
    clear HR hf hae hcx hx hp b0 b1 b2 f0 f1 f2 d0 d1 d2 d3 d4 d5 e1 e2 e3 e5
    cases hd : x.dir
    case true =>
      rw [hd, if_pos rfl] at hfl
      have HR3 := Lib.hid (HR2.out.trans (if_pos hd))
      have Hfl := Lib.hid hfl
      clear HR2 hd hfl
      go_wp2_with (go_at_call 49; (with_reducible refine Hfl.out.mono ?_); rintro e2' w2 ⟨he2, hb2⟩; rw [amissE] at he2; subst he2)
      exact ⟨rfl, do_bad HR3.out (by decide) (HW.out.base.trans (hb2.mono HW.out.base.size))⟩
    case false =>
      rw [hd, if_neg (by simp)] at hfl
      have HR3 := Lib.hid (HR2.out.trans (if_neg (by rw [hd]; simp)))
      have Hfl := Lib.hid hfl; have Hd := Lib.hid hd
      clear HR2 hd hfl
      have hgN : gn < w.heap.size := Hlt.out.2.1 gn (by rw [Hvg.out]; rfl)
      have hgN1 : gn ≠ w.heap.size := by omega
      have hglt := Hlt.out.1
      have x5 : w.heap.size ≠ g := by omega
      have hn8 : x.blocks.length ≤ 8 := fits_blocks (Hs.out.tree.fits x (List.mem_of_getElem? Hx.out))
      have hwr := fun W (hW : Below w1.heap.size w1 W) => compl_calls w0 W g s e (HW.out.below hW) HA.out Hk.out He.out.many ⟨Hs.out.nums.2.2.2.1, Hs.out.nums.2.2.1⟩ ⟨Hs.out.nums.2.2.2.2.2.1, Hs.out.nums.2.2.2.2.1⟩ Hvg.out Hx.out hn8
      have Hwr := Lib.hid hwr
      clear hwr
      by_cases hw : x.writer = e.client
      · have q1 : (x.writer == e.client) = true := by simpa using hw
        have HR4 := Lib.hid (HR3.out.trans (if_neg (by omega)))
        clear HR3 hw
        go_wp2_with (first
          | (go_at_call 49; (with_reducible refine Hfl.out.mono ?_); rintro e2' w2 ⟨rfl, hb2⟩; obtain ⟨⟨l4, lz4⟩, lB, l3⟩ := Hcx.out w2 hb2; have C4 := (fun d os => cell_regrown l4 d os); have C3 := (fun d os => cell_regrown l3 d os); have Hb2 := Lib.hid hb2; have LB := Lib.hid lB; clear hb2 lB))
        (refine Rtail.wp_tail 7 (by kernel_rfl) (by kernel_rfl) ?_; simp only [List.take_succ_cons, List.take_zero, List.drop_succ_cons, List.drop_zero]; (repeat (go_big_quiet_step ((fail)))); refine wpQuiet_nil ?_; intro _ hw'; obtain ⟨⟨dq, osq⟩, hw''⟩ := hw'; subst hw'')
        have hb3 := Hb2.out.trans ((below_regrown w2 dq osq).mono Hb2.out.size)
        have kB3 := ((below_regrown w2 dq osq).block _ (lt_of_block LB.out)).trans LB.out
        generalize Go.Sort.grow (redrawn w2 dq) osq = w3 at *
        have Hb3 := Lib.hid hb3; have KB3 := Lib.hid kB3
        clear hb3 kB3 C4 C3
        have hbvN : x.bv.ownBlock ≠ some w.heap.size := fun h => by have := Hlt.out.2.2.2 x (List.mem_of_getElem? Hx.out) _ h; omega
        by_cases hz : (doWrite s e i x).err = 0
        · have Hz := Lib.hid hz; clear hz
          go_wp2_with (first
            | (go_at_call 45; (with_reducible refine (must_yes _ _).mono ?_); rintro e9 w9 ⟨rfl, rfl⟩)
            | (go_at_call 101; refine (Hwr.out _ Hb3.out).mono ?_; rintro e8 w8 hp; unfold WriteP at hp; obtain ⟨hU8, hp⟩ := hp; rw [if_neg (by rw [Hz.out]; simp)] at hp; obtain ⟨⟨t, hst, hO8, hnb⟩, rfl⟩ := hp; have Hnb := Lib.hid hnb; clear hnb; have kB8 := (hU8.block _ (lt_of_block KB3.out) (by rintro (h | h | h); (exact x5 h); (exact hgN1 h.symm); (exact hbvN h))).trans KB3.out; obtain ⟨b0, b1, b2, f0, f1, f2⟩ := box_cells kB8; have HO8 := Lib.hid hO8; have KBF := Lib.hid kB8; have HU8 := Lib.hid hU8; have Hst := Lib.hid hst; clear hO8 hU8 kB8 hst))
          have hf := set3_blk KBF.out (.int .i64 (doWrite s e i x).b.id) (.int .i64 (doWrite s e i x).b.gen) (.int .i64 (doWrite s e i x).b.len)
          have hgne : g ≠ w.heap.size := fun h => x5 h.symm
          have hfin := HO8.out.side3 (N := w.heap.size) Hh.out.base.size hgne (own_ne_blk HO8.out.nodes.own KBF.out (by decide)) (own_ne_blk HO8.out.leases.own KBF.out (by decide)) (Hnb.out _ (lt_of_block KB3.out) (fun z hz h => by have := Hlt.out.2.2.2 z hz _ h; omega)) (.int .i64 (doWrite s e i x).b.id) (.int .i64 (doWrite s e i x).b.gen) (.int .i64 (doWrite s e i x).b.len)
          refine bodyPost_ret (results_cell_row rfl _ _ w.heap.size _ _ _ _ rfl hf Tryz.underlying31 rfl (by kernel_rfl)) rfl ?_
          unfold DoP
          rw [HR4.out, if_neg (by rw [Hz.out]; simp)]
          exact ⟨hfin.base, ⟨_, Hst.out, hfin⟩, rfl⟩
        · have hwr2 := Hwr.out _ Hb3.out
          clear Hwr
          have hbw : ∀ (w' : World), Upd (wrF g gn x) w3 w' → Below w0.heap.size w0 w' := fun w' hU => (HW.out.base.trans (Hb3.out.mono HW.out.base.size)).trans (hU.toBelow (fun k hk => by
            rcases hk with h | h | h
            · rw [h]; exact Hh.out.new
            · rw [h]; exact Hh.out.nodes.new gn (by rw [Hvg.out]; rfl)
            · exact (Hh.out.nodes.bl x (List.mem_of_getElem? Hx.out)).new k h) (Nat.le_trans HW.out.base.size Hb3.out.size))
          have HBW := Lib.hid hbw; clear hbw
          obtain ⟨E, hE⟩ : ∃ E, E = (doWrite s e i x).err := ⟨_, rfl⟩
          have hwr3 : Calls Tryz.prog 101 #[.pointer (some ⟨g, 0, none⟩), .pointer (some ⟨gn, i * 5, none⟩)] w3 (fun e' w' => Upd (wrF g gn x) w3 w' ∧ e' = amissE E) := hwr2.mono (fun e' w' hp => by
            unfold WriteP at hp
            rw [if_pos hz, ← hE] at hp
            exact hp)
          have Hwr3 := Lib.hid hwr3
          have HRz := Lib.hid (show R.err = E from by rw [HR4.out, hE])
          have Hz := Lib.hid (show E ≠ 0 from by rw [hE]; exact hz)
          clear hwr2 hwr3 hz hE
          go_wp2_with (first
            | (go_at_call 45; (with_reducible refine (must_yes _ _).mono ?_); rintro e9 w9 ⟨rfl, rfl⟩)
            | (go_at_call 101; (with_reducible refine Hwr3.out.mono ?_); rintro e8 w8 ⟨hU8, he8⟩; rw [amissE] at he8; subst he8))
          refine ⟨rfl, HBW.out _ hU8, ?_⟩
          rw [HRz.out, if_pos Hz.out]
          rfl
      · have q1 : (x.writer == e.client) = false := by simpa using hw
        have HR4 := Lib.hid (HR3.out.trans (if_pos hw))
        clear HR3 hw
        go_wp2_with (first
          | (go_at_call 49; (with_reducible refine Hfl.out.mono ?_); rintro e2' w2 ⟨rfl, hb2⟩; obtain ⟨⟨l4, lz4⟩, lB, l3⟩ := Hcx.out w2 hb2; have C4 := (fun d os => cell_regrown l4 d os); have C3 := (fun d os => cell_regrown l3 d os); have Hb2 := Lib.hid hb2; clear hb2))
        (refine Rtail.wp_tail 7 (by kernel_rfl) (by kernel_rfl) ?_; simp only [List.take_succ_cons, List.take_zero, List.drop_succ_cons, List.drop_zero]; (repeat (go_big_quiet_step ((fail)))); refine wpQuiet_nil ?_; intro _ hw'; obtain ⟨⟨dq, osq⟩, hw''⟩ := hw'; subst hw'')
        go_wp2_with (first | (go_at_call 45; (with_reducible refine (must_no _ _).mono ?_); rintro e9 w9 ⟨rfl, rfl⟩))
        exact ⟨rfl, do_bad HR4.out (by decide) ((HW.out.base.trans (Hb2.out.mono HW.out.base.size)).trans ((below_regrown _ _ _).mono (Nat.le_trans HW.out.base.size Hb2.out.size)))⟩
end Go.Proofs.YtdfckkadmgmcaaaGreatDoor.Space

/- Edits of spaces: (*work).do, kind by kind (printed by gen_zn.py): what a writer does. -/
namespace Go.Proofs.YtdfckkadmgmcaaaGreatDoor.Space
open Go.RowKit
open Path (Bs bs mk bs_mk mk_bs tl_bs MaxC splitE splitL parD)
open Tree
open Quota (overL cntT roomT)
set_option linter.unusedSimpArgs false
set_option linter.unusedVariables false
set_option maxRecDepth 100000 in
set_option maxHeartbeats 8000000 in
theorem do_addb (w0 w : World) (g : Nat) (s : Sp) (e : Ed) (h : WkO w0 w g s e) (hA : Apart s.nodes) (hM : MaxC w0) (hs : RightS s) (he : EdOk e) (hk : e.kind = 5) :
    Calls Tryz.prog 48 #[.pointer (some ⟨g, 0, none⟩)] w (DoP w0 g (doE s e) e) := by
  obtain ⟨c0, c1, c2, c3, c4, c5, c6, c7, c8, c9, c10, c11, c12⟩ := wkc h.rd
  obtain ⟨al, cl, hlv, -, -⟩ := Lease.rd_cellsI h.rd.len
  obtain ⟨an, cn, hvn, -⟩ := rd_cellsN h.rd.sp.n.rd
  rw [hlv] at c12
  obtain ⟨R, hR0⟩ : ∃ R, R = doE s e := ⟨_, rfl⟩
  rw [← hR0]
  rw [doE, if_neg (by omega), if_neg (by omega), if_neg (by omega), if_neg (by omega), if_neg (by omega), if_neg (by omega)] at hR0
  have HR := Lib.hid hR0
  have Hh := Lib.hid h; have HA := Lib.hid hA; have Hk := Lib.hid hk; have Hlv := Lib.hid hlv; have Hvn := Lib.hid hvn; have HM := Lib.hid hM; have Hs := Lib.hid hs; have He := Lib.hid he
  clear hR0 h hA hk hlv hvn hM hs he
  go_enter Tryz.func48, Tryz.ntmps48
  go_wp2_with (fail)
  go_region_held3 (fun w' => w'.cell? ⟨g, 6, none⟩ = some (.int .i64 e.kind) ∧ w'.cell? ⟨g, 7, none⟩ = some (.string e.path) ∧ w'.cell? ⟨g, 8, none⟩ = some (.string e.dst) ∧ w'.cell? ⟨g, 9, none⟩ = some (.int .i64 e.client) ∧ w'.cell? ⟨g, 10, none⟩ = some (.int .i64 e.call) ∧ w'.cell? ⟨g, 11, none⟩ = some (.int .i64 e.n) ∧ w'.cell? ⟨g, 12, none⟩ = some (.slice al e.lens.length cl)) (go_keep) (fail)
  have hb1 : Below w.heap.size w (((w.alloc (.cells #[.int .i64 0, .int .i64 0, .int .i64 0] 31 (0, 0))).alloc (.cells #[.int .i64 e.kind, .string e.path, .string e.dst, .int .i64 e.client, .int .i64 e.call, .int .i64 e.n, .slice al e.lens.length cl] 42 (0, 0))).drew) := (((Below.refl _ _).alloc (Nat.le_refl _) _).alloc (by simp) _).drew
  have hk0 : (((w.alloc (.cells #[.int .i64 0, .int .i64 0, .int .i64 0] 31 (0, 0))).alloc (.cells #[.int .i64 e.kind, .string e.path, .string e.dst, .int .i64 e.client, .int .i64 e.call, .int .i64 e.n, .slice al e.lens.length cl] 42 (0, 0))).drew).heap[w.heap.size]? = some (.cells #[.int .i64 0, .int .i64 0, .int .i64 0] 31 (0, 0)) := (heap_alloc_old _ _ (by simp)).trans (heap_alloc_new _ _)
  have hk1 : (((w.alloc (.cells #[.int .i64 0, .int .i64 0, .int .i64 0] 31 (0, 0))).alloc (.cells #[.int .i64 e.kind, .string e.path, .string e.dst, .int .i64 e.client, .int .i64 e.call, .int .i64 e.n, .slice al e.lens.length cl] 42 (0, 0))).drew).heap[w.heap.size + 1]? = some (.cells #[.int .i64 e.kind, .string e.path, .string e.dst, .int .i64 e.client, .int .i64 e.call, .int .i64 e.n, .slice al e.lens.length cl] 42 (0, 0)) := by
    have h1 := heap_alloc_new (w.alloc (.cells #[.int .i64 0, .int .i64 0, .int .i64 0] 31 (0, 0))) (.cells #[.int .i64 e.kind, .string e.path, .string e.dst, .int .i64 e.client, .int .i64 e.call, .int .i64 e.n, .slice al e.lens.length cl] 42 (0, 0))
    have h2 : (w.alloc (.cells #[.int .i64 0, .int .i64 0, .int .i64 0] 31 (0, 0))).heap.size = w.heap.size + 1 := by simp
    rw [h2] at h1; exact h1
  have hz1 : (((w.alloc (.cells #[.int .i64 0, .int .i64 0, .int .i64 0] 31 (0, 0))).alloc (.cells #[.int .i64 e.kind, .string e.path, .string e.dst, .int .i64 e.client, .int .i64 e.call, .int .i64 e.n, .slice al e.lens.length cl] 42 (0, 0))).drew).heap.size = w.heap.size + 2 := by simp
  clear c0 c1 c2 c3 c4 c5 c6 c7 c8 c9 c10 c11 c12
  generalize ((w.alloc (.cells #[.int .i64 0, .int .i64 0, .int .i64 0] 31 (0, 0))).alloc (.cells #[.int .i64 e.kind, .string e.path, .string e.dst, .int .i64 e.client, .int .i64 e.call, .int .i64 e.n, .slice al e.lens.length cl] 42 (0, 0))).drew = w1 at *
  have hW := Hh.out.below hb1
  obtain ⟨e0, e1, e2, e3, e5⟩ := ed_cells hk1
  obtain ⟨d0, d1, d2, d3, d4, d5, -⟩ := wkc hW.rd
  rw [Hvn.out] at d4
  obtain ⟨b0, b1, b2, f0, f1, f2⟩ := box_cells hk0
  have hM1 := HM.out.below hW.base
  have hl1 := Hh.out.lt
  have HW := Lib.hid hW; have Hb1 := Lib.hid hb1; have K0 := Lib.hid hk0; have K1 := Lib.hid hk1; have Hz1 := Lib.hid hz1; have HM1 := Lib.hid hM1; have Hlt := Lib.hid hl1
  clear hW hb1 hk0 hk1 hz1 hM1 hl1
  have hgnx : 0 < s.nodes.length * 5 := by
    obtain ⟨r, hr, -⟩ := Hs.out.tree.root
    have := List.length_pos_of_mem hr
    omega
  obtain ⟨gn, cap, cur, hvg, -, -, -⟩ := own_form HW.out.nodes.own hgnx
  have hv2 := Hvn.out
  rw [hvg] at hv2
  simp only [Value.slice.injEq, true_and] at hv2
  obtain ⟨rfl, rfl⟩ := hv2
  have Hvg := Lib.hid hvg
  clear hvg hgnx
  rw [Hk.out] at e0
  rw [fileN] at HR
  rcases at_ways s (bs e.path) with ⟨E, hEE, hae, hf⟩ | ⟨i, x, hx, hp, hae, hf⟩
  · have hfl := file_bad w1 g s e HW.out.rd HM1.out hae
    have HR2 := Lib.hid (HR.out.trans (hf _))
    have Hfl := Lib.hid hfl
    clear hfl HR hf hae
    go_wp2_with (go_at_call 49; (with_reducible refine Hfl.out.mono ?_); rintro e2' w2 ⟨he2, hb2⟩; rw [amissE] at he2; subst he2)
    exact ⟨rfl, do_bad HR2.out (by omega) (HW.out.base.trans (hb2.mono HW.out.base.size))⟩
  · have hfl := file_at w1 g s e HW.out.rd HM1.out Hvg.out hae hx
    have HR2 := Lib.hid (HR.out.trans (hf _))
    have hi := (List.getElem?_eq_some_iff.1 hx).1
    have hcx := fun W (hW : Below w1.heap.size w1 W) => (show (W.cell? ⟨gn, i * 5 + 4, none⟩ = some (.int .i64 x.writer) ∧ W.frozen? ⟨gn, i * 5 + 4, none⟩ = false) ∧ W.heap[w.heap.size]? = some (.cells #[.int .i64 0, .int .i64 0, .int .i64 0] 31 (0, 0)) ∧ W.cell? ⟨w.heap.size + 1, 3, none⟩ = some (.int .i64 e.client) from
      ⟨(HW.out.below hW).cell (j := 4) Hvg.out hx rfl (by decide), (hW.block _ (lt_of_block K0.out)).trans K0.out, (hW.cell (p := ⟨w.heap.size + 1, 3, none⟩) (lt_of_block K1.out)).trans e3⟩)
    have Hcx := Lib.hid hcx; have Hx := Lib.hid hx
    clear HR hf hae hcx hx hp b0 b1 b2 f0 f1 f2 d0 d1 d2 d3 d4 d5 e1 e2 e3 e5
    cases hd : x.dir
    case true =>
      rw [hd, if_pos rfl] at hfl
      have HR3 := Lib.hid (HR2.out.trans (if_pos hd))
      have Hfl := Lib.hid hfl
      clear HR2 hd hfl
      go_wp2_with (go_at_call 49; (with_reducible refine Hfl.out.mono ?_); rintro e2' w2 ⟨he2, hb2⟩; rw [amissE] at he2; subst he2)
      exact ⟨rfl, do_bad HR3.out (by decide) (HW.out.base.trans (hb2.mono HW.out.base.size))⟩
    case false =>
      rw [hd, if_neg (by simp)] at hfl
      have HR3 := Lib.hid (HR2.out.trans (if_neg (by rw [hd]; simp)))
      have Hfl := Lib.hid hfl; have Hd := Lib.hid hd
      clear HR2 hd hfl
      have hgN : gn < w.heap.size := Hlt.out.2.1 gn (by rw [Hvg.out]; rfl)
      have hgN1 : gn ≠ w.heap.size := by omega
      have hglt := Hlt.out.1
      have x5 : w.heap.size ≠ g := by omega
      have hn8 : x.blocks.length ≤ 8 := fits_blocks (Hs.out.tree.fits x (List.mem_of_getElem? Hx.out))
      have hwr := fun W (hW : Below w1.heap.size w1 W) => addb_calls w0 W g s e (HW.out.below hW) HA.out Hk.out He.out.many ⟨Hs.out.nums.2.2.2.1, Hs.out.nums.2.2.1⟩ ⟨Hs.out.nums.2.2.2.2.2.1, Hs.out.nums.2.2.2.2.1⟩ Hvg.out Hx.out hn8
      have Hwr := Lib.hid hwr
      clear hwr
      by_cases hw : x.writer = e.client
      · have q1 : (x.writer == e.client) = true := by simpa using hw
        have HR4 := Lib.hid (HR3.out.trans (if_neg (by omega)))
        clear HR3 hw
        go_wp2_with (first
          | (go_at_call 49; (with_reducible refine Hfl.out.mono ?_); rintro e2' w2 ⟨rfl, hb2⟩; obtain ⟨⟨l4, lz4⟩, lB, l3⟩ := Hcx.out w2 hb2; have C4 := (fun d os => cell_regrown l4 d os); have C3 := (fun d os => cell_regrown l3 d os); have Hb2 := Lib.hid hb2; have LB := Lib.hid lB; clear hb2 lB))
        (refine Rtail.wp_tail 7 (by kernel_rfl) (by kernel_rfl) ?_; simp only [List.take_succ_cons, List.take_zero, List.drop_succ_cons, List.drop_zero]; (repeat (go_big_quiet_step ((fail)))); refine wpQuiet_nil ?_; intro _ hw'; obtain ⟨⟨dq, osq⟩, hw''⟩ := hw'; subst hw'')
        have hb3 := Hb2.out.trans ((below_regrown w2 dq osq).mono Hb2.out.size)
        have kB3 := ((below_regrown w2 dq osq).block _ (lt_of_block LB.out)).trans LB.out
        generalize Go.Sort.grow (redrawn w2 dq) osq = w3 at *
        have Hb3 := Lib.hid hb3; have KB3 := Lib.hid kB3
        clear hb3 kB3 C4 C3
        have hbvN : x.bv.ownBlock ≠ some w.heap.size := fun h => by have := Hlt.out.2.2.2 x (List.mem_of_getElem? Hx.out) _ h; omega
        by_cases hz : (doWrite s e i x).err = 0
        · have Hz := Lib.hid hz; clear hz
          go_wp2_with (first
            | (go_at_call 45; (with_reducible refine (must_yes _ _).mono ?_); rintro e9 w9 ⟨rfl, rfl⟩)
            | (go_at_call 101; refine (Hwr.out _ Hb3.out).mono ?_; rintro e8 w8 hp; unfold WriteP at hp; obtain ⟨hU8, hp⟩ := hp; rw [if_neg (by rw [Hz.out]; simp)] at hp; obtain ⟨⟨t, hst, hO8, hnb⟩, rfl⟩ := hp; have Hnb := Lib.hid hnb; clear hnb; have kB8 := (hU8.block _ (lt_of_block KB3.out) (by rintro (h | h | h); (exact x5 h); (exact hgN1 h.symm); (exact hbvN h))).trans KB3.out; obtain ⟨b0, b1, b2, f0, f1, f2⟩ := box_cells kB8; have HO8 := Lib.hid hO8; have KBF := Lib.hid kB8; have HU8 := Lib.hid hU8; have Hst := Lib.hid hst; clear hO8 hU8 kB8 hst))
          have hf := set3_blk KBF.out (.int .i64 (doWrite s e i x).b.id) (.int .i64 (doWrite s e i x).b.gen) (.int .i64 (doWrite s e i x).b.len)
          have hgne : g ≠ w.heap.size := fun h => x5 h.symm
          have hfin := HO8.out.side3 (N := w.heap.size) Hh.out.base.size hgne (own_ne_blk HO8.out.nodes.own KBF.out (by decide)) (own_ne_blk HO8.out.leases.own KBF.out (by decide)) (Hnb.out _ (lt_of_block KB3.out) (fun z hz h => by have := Hlt.out.2.2.2 z hz _ h; omega)) (.int .i64 (doWrite s e i x).b.id) (.int .i64 (doWrite s e i x).b.gen) (.int .i64 (doWrite s e i x).b.len)
          refine bodyPost_ret (results_cell_row rfl _ _ w.heap.size _ _ _ _ rfl hf Tryz.underlying31 rfl (by kernel_rfl)) rfl ?_
          unfold DoP
          rw [HR4.out, if_neg (by rw [Hz.out]; simp)]
          exact ⟨hfin.base, ⟨_, Hst.out, hfin⟩, rfl⟩
        · have hwr2 := Hwr.out _ Hb3.out
          clear Hwr
          have hbw : ∀ (w' : World), Upd (wrF g gn x) w3 w' → Below w0.heap.size w0 w' := fun w' hU => (HW.out.base.trans (Hb3.out.mono HW.out.base.size)).trans (hU.toBelow (fun k hk => by
            rcases hk with h | h | h
            · rw [h]; exact Hh.out.new
            · rw [h]; exact Hh.out.nodes.new gn (by rw [Hvg.out]; rfl)
            · exact (Hh.out.nodes.bl x (List.mem_of_getElem? Hx.out)).new k h) (Nat.le_trans HW.out.base.size Hb3.out.size))
          have HBW := Lib.hid hbw; clear hbw
          obtain ⟨E, hE⟩ : ∃ E, E = (doWrite s e i x).err := ⟨_, rfl⟩
          have hwr3 : Calls Tryz.prog 101 #[.pointer (some ⟨g, 0, none⟩), .pointer (some ⟨gn, i * 5, none⟩)] w3 (fun e' w' => Upd (wrF g gn x) w3 w' ∧ e' = amissE E) := hwr2.mono (fun e' w' hp => by
            unfold WriteP at hp
            rw [if_pos hz, ← hE] at hp
            exact hp)
          have Hwr3 := Lib.hid hwr3
          have HRz := Lib.hid (show R.err = E from by rw [HR4.out, hE])
          have Hz := Lib.hid (show E ≠ 0 from by rw [hE]; exact hz)
          clear hwr2 hwr3 hz hE
          go_wp2_with (first
            | (go_at_call 45; (with_reducible refine (must_yes _ _).mono ?_); rintro e9 w9 ⟨rfl, rfl⟩)
            | (go_at_call 101; (with_reducible refine Hwr3.out.mono ?_); rintro e8 w8 ⟨hU8, he8⟩; rw [amissE] at he8; subst he8))
          refine ⟨rfl, HBW.out _ hU8, ?_⟩
          rw [HRz.out, if_pos Hz.out]
          rfl
      · have q1 : (x.writer == e.client) = false := by simpa using hw
        have HR4 := Lib.hid (HR3.out.trans (if_pos hw))
        clear HR3 hw
        go_wp2_with (first
          | (go_at_call 49; (with_reducible refine Hfl.out.mono ?_); rintro e2' w2 ⟨rfl, hb2⟩; obtain ⟨⟨l4, lz4⟩, lB, l3⟩ := Hcx.out w2 hb2; have C4 := (fun d os => cell_regrown l4 d os); have C3 := (fun d os => cell_regrown l3 d os); have Hb2 := Lib.hid hb2; clear hb2))
        (refine Rtail.wp_tail 7 (by kernel_rfl) (by kernel_rfl) ?_; simp only [List.take_succ_cons, List.take_zero, List.drop_succ_cons, List.drop_zero]; (repeat (go_big_quiet_step ((fail)))); refine wpQuiet_nil ?_; intro _ hw'; obtain ⟨⟨dq, osq⟩, hw''⟩ := hw'; subst hw'')
        go_wp2_with (first | (go_at_call 45; (with_reducible refine (must_no _ _).mono ?_); rintro e9 w9 ⟨rfl, rfl⟩))
        exact ⟨rfl, do_bad HR4.out (by decide) ((HW.out.base.trans (Hb2.out.mono HW.out.base.size)).trans ((below_regrown _ _ _).mono (Nat.le_trans HW.out.base.size Hb2.out.size)))⟩
end Go.Proofs.YtdfckkadmgmcaaaGreatDoor.Space

/- Edits of spaces: (*work).do, every kind. -/
namespace Go.Proofs.YtdfckkadmgmcaaaGreatDoor.Space
open Go.RowKit
open Path (Bs bs mk bs_mk mk_bs tl_bs MaxC splitE splitL parD)
open Tree
set_option linter.unusedSimpArgs false
set_option linter.unusedVariables false
theorem do_calls (w0 w : World) (g : Nat) (s : Sp) (e : Ed) (h : WkO w0 w g s e) (hA : Apart s.nodes) (hM : MaxC w0) (hs : RightS s) (he : EdOk e) :
    Calls Tryz.prog 48 #[.pointer (some ⟨g, 0, none⟩)] w (DoP w0 g (doE s e) e) := by
  have hk := he.kind
  have hc : e.kind = 1 ∨ e.kind = 2 ∨ e.kind = 3 ∨ e.kind = 4 ∨ e.kind = 5 ∨ e.kind = 6 ∨ e.kind = 7 ∨ e.kind = 8 ∨ e.kind = 9 ∨ e.kind = 10 := by omega
  rcases hc with k | k | k | k | k | k | k | k | k | k
  · exact do_mkdir w0 w g s e h hA hM hs he k
  · exact do_create w0 w g s e h hA hM hs he k
  · exact do_del w0 w g s e h hA hM hs he k
  · exact do_mov w0 w g s e h hA hM hs he k
  · exact do_addb w0 w g s e h hA hM hs he k
  · exact do_compl w0 w g s e h hA hM hs he k
  · exact do_quota w0 w g s e h hA hM hs he k
  · exact do_renew w0 w g s e h hA hM hs he k
  · exact do_bump w0 w g s e h hA hM hs he k
  · exact do_reopen w0 w g s e h hA hM hs he k
end Go.Proofs.YtdfckkadmgmcaaaGreatDoor.Space
