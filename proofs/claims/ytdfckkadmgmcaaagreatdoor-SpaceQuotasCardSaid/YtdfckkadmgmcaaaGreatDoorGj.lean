/- Parts of the proof, one behind the other: Zm, Zn, Zo, Zp, Zq. -/
import Derived.Test.YtdfckkadmgmcaaaGreatDoorGi
import Derived.Test.YtdfckkadmgmcaaaGreatDoorGd
import Derived.Deep.DeepCutAuto
/- Edits of spaces: (*work).write, walked: Complete, AddBlock (printed by gen_zm.py). -/
namespace Go.Proofs.YtdfckkadmgmcaaaGreatDoor.Space
open Go.RowKit
open Path (Bs bs mk bs_mk mk_bs tl_bs MaxC splitE splitL parD)
open Tree
set_option linter.unusedSimpArgs false
set_option linter.unusedVariables false
set_option maxRecDepth 8000 in
set_option maxHeartbeats 8000000 in
theorem compl_calls (w0 w : World) (g : Nat) (s : Sp) (e : Ed) (h : WkO w0 w g s e) (hA : Apart s.nodes) (hk : e.kind = 6) (hm : e.lens.length ≤ 8) (hnb : s.nb ≤ 9007199254740991 ∧ 1 ≤ s.nb) (hng : s.ng ≤ 9007199254740991 ∧ 1 ≤ s.ng) {gn cap i : Nat} {x : Nd} (hv : s.vn = .slice (some ⟨gn, 0, none⟩) s.nodes.length cap) (hx : s.nodes[i]? = some x) (hn : x.blocks.length ≤ 8) :
    Calls Tryz.prog 101 #[.pointer (some ⟨g, 0, none⟩), .pointer (some ⟨gn, i * 5, none⟩)] w (WriteP w0 w g gn s x (doWrite s e i x) e) := by
  obtain ⟨c0, c1, c2, c3, c4, c5, c6, c7, c8, c9, c10, c11, c12⟩ := wkc h.rd
  obtain ⟨al, cl, hlv, -, -⟩ := Lease.rd_cellsI h.rd.len
  rw [hlv] at c12
  obtain ⟨R, hR0⟩ : ∃ R, R = doWrite s e i x := ⟨_, rfl⟩
  rw [← hR0]
  rw [doWrite, if_neg (by omega)] at hR0
  have HR0 := Lib.hid hR0
  clear hR0
  have Hh := Lib.hid h; have HA := Lib.hid hA; have Hx := Lib.hid hx; have Hv := Lib.hid hv; have Hk := Lib.hid hk; have Hlv := Lib.hid hlv
  clear h hA hx hv hk hlv
  go_enter Tryz.func101, Tryz.ntmps101
  go_wp2_with (fail)
  go_region_held3 (fun w' => w'.cell? ⟨g, 6, none⟩ = some (.int .i64 e.kind) ∧ w'.cell? ⟨g, 7, none⟩ = some (.string e.path) ∧ w'.cell? ⟨g, 8, none⟩ = some (.string e.dst) ∧ w'.cell? ⟨g, 9, none⟩ = some (.int .i64 e.client) ∧ w'.cell? ⟨g, 10, none⟩ = some (.int .i64 e.call) ∧ w'.cell? ⟨g, 11, none⟩ = some (.int .i64 e.n) ∧ w'.cell? ⟨g, 12, none⟩ = some (.slice al e.lens.length cl)) (go_keep) (fail)
  have hb1 : Below w.heap.size w (((w.alloc (.cells #[.int .i64 0, .int .i64 0, .int .i64 0] 31 (0, 0))).alloc (.cells #[.int .i64 e.kind, .string e.path, .string e.dst, .int .i64 e.client, .int .i64 e.call, .int .i64 e.n, .slice al e.lens.length cl] 42 (0, 0))).drew) := (((Below.refl _ _).alloc (Nat.le_refl _) _).alloc (by simp) _).drew
  have hk0 : (((w.alloc (.cells #[.int .i64 0, .int .i64 0, .int .i64 0] 31 (0, 0))).alloc (.cells #[.int .i64 e.kind, .string e.path, .string e.dst, .int .i64 e.client, .int .i64 e.call, .int .i64 e.n, .slice al e.lens.length cl] 42 (0, 0))).drew).heap[w.heap.size]? = some (.cells #[.int .i64 0, .int .i64 0, .int .i64 0] 31 (0, 0)) := (heap_alloc_old _ _ (by simp)).trans (heap_alloc_new _ _)
  have hk1 : (((w.alloc (.cells #[.int .i64 0, .int .i64 0, .int .i64 0] 31 (0, 0))).alloc (.cells #[.int .i64 e.kind, .string e.path, .string e.dst, .int .i64 e.client, .int .i64 e.call, .int .i64 e.n, .slice al e.lens.length cl] 42 (0, 0))).drew).heap[w.heap.size + 1]? = some (.cells #[.int .i64 e.kind, .string e.path, .string e.dst, .int .i64 e.client, .int .i64 e.call, .int .i64 e.n, .slice al e.lens.length cl] 42 (0, 0)) := by
    have h1 := heap_alloc_new (w.alloc (.cells #[.int .i64 0, .int .i64 0, .int .i64 0] 31 (0, 0))) (.cells #[.int .i64 e.kind, .string e.path, .string e.dst, .int .i64 e.client, .int .i64 e.call, .int .i64 e.n, .slice al e.lens.length cl] 42 (0, 0))
    have h2 : (w.alloc (.cells #[.int .i64 0, .int .i64 0, .int .i64 0] 31 (0, 0))).heap.size = w.heap.size + 1 := by simp
    rw [h2] at h1; exact h1
  have hz1 : (((w.alloc (.cells #[.int .i64 0, .int .i64 0, .int .i64 0] 31 (0, 0))).alloc (.cells #[.int .i64 e.kind, .string e.path, .string e.dst, .int .i64 e.client, .int .i64 e.call, .int .i64 e.n, .slice al e.lens.length cl] 42 (0, 0))).drew).heap.size = w.heap.size + 2 := by simp
  clear c0 c1 c2 c3 c4 c5 c6 c7 c8 c9 c10 c11 c12
  generalize ((w.alloc (.cells #[.int .i64 0, .int .i64 0, .int .i64 0] 31 (0, 0))).alloc (.cells #[.int .i64 e.kind, .string e.path, .string e.dst, .int .i64 e.client, .int .i64 e.call, .int .i64 e.n, .slice al e.lens.length cl] 42 (0, 0))).drew = w1 at *
  have hW := Hh.out.below hb1
  have hxo := hW.nodes.bl x (List.mem_of_getElem? Hx.out)
  have e0 : w1.cell? ⟨w.heap.size + 1, 0, none⟩ = some (.int .i64 e.kind) := cell_of_blk hk1
  rw [Hk.out] at e0
  have d3 := (hW.cell (j := 3) Hv.out Hx.out rfl (by decide)).1
  have hR := HR0.out
  have HR := Lib.hid hR; clear HR0 hR
  have HW := Lib.hid hW; have Hb1 := Lib.hid hb1; have K0 := Lib.hid hk0; have K1 := Lib.hid hk1; have Hz1 := Lib.hid hz1; have Hxo := Lib.hid hxo
  clear hW hb1 hk0 hk1 hz1 hxo
  have hgk := Hh.out.lt
  have Hlt := Lib.hid hgk; clear hgk
  cases hl : lensOk e x
  · have hln := lens_no w1 g s e HW.out.rd d3 Hxo.out.rd hn hm hl
    have HR2 := Lib.hid (HR.out.trans (if_pos hl))
    have Hln := Lib.hid hln
    clear HR hln hl d3
    go_wp2_with (go_at_call 146; (with_reducible refine Hln.out.mono ?_); rintro e2 w2 ⟨he2, hb2⟩; rw [amissE] at he2; subst he2)
    refine ⟨rfl, Upd.of_below (Hb1.out.trans (hb2.mono Hb1.out.size)) _, ?_⟩
    rw [HR2.out]
    rfl
  · have hly := lens_yes w0 w1 g s e HW.out HA.out Hv.out Hx.out hn hl
    have HR2 := Lib.hid (HR.out.trans (if_neg (by rw [hl]; simp)))
    have Hly := Lib.hid hly
    clear HR hly hl d3
    have hgb : ∀ k, bvF x k → k < w.heap.size := fun k hk => Hlt.out.2.2.2 x (List.mem_of_getElem? Hx.out) k hk
    have Hgb := Lib.hid hgb; clear hgb
    have HR3 := Lib.hid (HR2.out.trans (if_pos Hk.out))
    clear HR2
    go_wp2_with (go_at_call 146; (with_reducible refine Hly.out.mono ?_); rintro e2 w2 hp; unfold LensP at hp; obtain ⟨rfl, hO2, hU2⟩ := hp; have k0' := (hU2.block w.heap.size (lt_of_block K0.out) (fun h => by have := Hgb.out _ h; omega)).trans K0.out; have hx2 := setN_at Hx.out { x with blocks := zipLen x.blocks e.lens }; have hv2 : (setN s i { x with blocks := zipLen x.blocks e.lens }).vn = .slice (some ⟨gn, 0, none⟩) (setN s i { x with blocks := zipLen x.blocks e.lens }).nodes.length cap := (by show s.vn = .slice _ (s.nodes.set i _).length cap; rw [List.length_set]; exact Hv.out); obtain ⟨d4, z4⟩ := hO2.cell (j := 4) hv2 hx2 rfl (by decide); obtain ⟨b0, b1, b2'⟩ := (show w2.cell? ⟨w.heap.size, 0, none⟩ = some (.int .i64 0) ∧ w2.cell? ⟨w.heap.size, 1, none⟩ = some (.int .i64 0) ∧ w2.cell? ⟨w.heap.size, 2, none⟩ = some (.int .i64 0) from ⟨cell_of_blk k0', cell_of_blk k0', cell_of_blk k0'⟩); obtain ⟨f0, f1, f2⟩ := (show w2.frozen? ⟨w.heap.size, 0, none⟩ = false ∧ w2.frozen? ⟨w.heap.size, 1, none⟩ = false ∧ w2.frozen? ⟨w.heap.size, 2, none⟩ = false from ⟨free_of_blk k0', free_of_blk k0', free_of_blk k0'⟩); have hgn : gn < w.heap.size := Hlt.out.2.1 gn (by rw [Hv.out]; rfl); have hgn1 : gn ≠ w.heap.size := (by omega); have HO2 := Lib.hid hO2; have HU2 := Lib.hid hU2; have HK0 := Lib.hid k0'; have Hx2 := Lib.hid hx2; have Hv2 := Lib.hid hv2; clear hO2 hU2 k0' hx2 hv2)
    have hC := WkO.nd (y := { x with blocks := zipLen x.blocks e.lens, writer := -1 }) (j := 4) (u := .int .i64 (-1)) HO2.out Hx2.out Hv2.out (by decide) rfl (show OwnB w0 w2 x.bv (zipLen x.blocks e.lens) from HO2.out.nodes.bl _ (List.mem_of_getElem? Hx2.out))
    rw [setN_set] at hC
    have hf := set3_blk ((heap_setCell_other w2 ⟨gn, i * 5 + 4, none⟩ w.heap.size (.int .i64 (-1)) (fun h => hgn1 h.symm)).trans HK0.out) (.int .i64 0) (.int .i64 0) (.int .i64 0)
    obtain ⟨t1, t2, t3, t4⟩ := Hlt.out
    have hfin := hC.side3 (N := w.heap.size) Hh.out.base.size (by omega) (fun h => by have := t2 _ h; omega) (fun h => by have := t3 _ h; omega) (fun y hy h => by
      rcases set_at Hx.out hy with rfl | ⟨k, _, hky⟩
      · have := t4 x (List.mem_of_getElem? Hx.out) _ h; omega
      · have := t4 y (List.mem_of_getElem? hky) _ h; omega) (.int .i64 0) (.int .i64 0) (.int .i64 0)
    have hU : Upd (wrF g gn x) w w2 := (Upd.of_below Hb1.out _).trans (HU2.out.mono fun k _ hk => .inr (.inr hk))
    refine bodyPost_ret (results_cell_row rfl _ _ w.heap.size _ _ _ _ rfl hf Tryz.underlying31 rfl (by kernel_rfl)) rfl ⟨Upd.set3 (hU.setCell (p := ⟨gn, i * 5 + 4, none⟩) (.inl (.inr (.inl rfl))) _) (Nat.le_refl _) _ _ _, ?_⟩
    rw [HR3.out, if_neg (by simp)]
    exact ⟨⟨_, .refl _, hfin, NewB.set Hx.out rfl (fun N h => .inl h)⟩, rfl⟩
set_option maxRecDepth 8000 in
set_option maxHeartbeats 8000000 in
theorem addb_calls (w0 w : World) (g : Nat) (s : Sp) (e : Ed) (h : WkO w0 w g s e) (hA : Apart s.nodes) (hk : e.kind = 5) (hm : e.lens.length ≤ 8) (hnb : s.nb ≤ 9007199254740991 ∧ 1 ≤ s.nb) (hng : s.ng ≤ 9007199254740991 ∧ 1 ≤ s.ng) {gn cap i : Nat} {x : Nd} (hv : s.vn = .slice (some ⟨gn, 0, none⟩) s.nodes.length cap) (hx : s.nodes[i]? = some x) (hn : x.blocks.length ≤ 8) :
    Calls Tryz.prog 101 #[.pointer (some ⟨g, 0, none⟩), .pointer (some ⟨gn, i * 5, none⟩)] w (WriteP w0 w g gn s x (doWrite s e i x) e) := by
  obtain ⟨c0, c1, c2, c3, c4, c5, c6, c7, c8, c9, c10, c11, c12⟩ := wkc h.rd
  obtain ⟨al, cl, hlv, -, -⟩ := Lease.rd_cellsI h.rd.len
  rw [hlv] at c12
  obtain ⟨R, hR0⟩ : ∃ R, R = doWrite s e i x := ⟨_, rfl⟩
  rw [← hR0]
  rw [doWrite, if_neg (by omega)] at hR0
  have HR0 := Lib.hid hR0
  clear hR0
  have Hh := Lib.hid h; have HA := Lib.hid hA; have Hx := Lib.hid hx; have Hv := Lib.hid hv; have Hk := Lib.hid hk; have Hlv := Lib.hid hlv
  clear h hA hx hv hk hlv
  go_enter Tryz.func101, Tryz.ntmps101
  go_wp2_with (fail)
  go_region_held3 (fun w' => w'.cell? ⟨g, 6, none⟩ = some (.int .i64 e.kind) ∧ w'.cell? ⟨g, 7, none⟩ = some (.string e.path) ∧ w'.cell? ⟨g, 8, none⟩ = some (.string e.dst) ∧ w'.cell? ⟨g, 9, none⟩ = some (.int .i64 e.client) ∧ w'.cell? ⟨g, 10, none⟩ = some (.int .i64 e.call) ∧ w'.cell? ⟨g, 11, none⟩ = some (.int .i64 e.n) ∧ w'.cell? ⟨g, 12, none⟩ = some (.slice al e.lens.length cl)) (go_keep) (fail)
  have hb1 : Below w.heap.size w (((w.alloc (.cells #[.int .i64 0, .int .i64 0, .int .i64 0] 31 (0, 0))).alloc (.cells #[.int .i64 e.kind, .string e.path, .string e.dst, .int .i64 e.client, .int .i64 e.call, .int .i64 e.n, .slice al e.lens.length cl] 42 (0, 0))).drew) := (((Below.refl _ _).alloc (Nat.le_refl _) _).alloc (by simp) _).drew
  have hk0 : (((w.alloc (.cells #[.int .i64 0, .int .i64 0, .int .i64 0] 31 (0, 0))).alloc (.cells #[.int .i64 e.kind, .string e.path, .string e.dst, .int .i64 e.client, .int .i64 e.call, .int .i64 e.n, .slice al e.lens.length cl] 42 (0, 0))).drew).heap[w.heap.size]? = some (.cells #[.int .i64 0, .int .i64 0, .int .i64 0] 31 (0, 0)) := (heap_alloc_old _ _ (by simp)).trans (heap_alloc_new _ _)
  have hk1 : (((w.alloc (.cells #[.int .i64 0, .int .i64 0, .int .i64 0] 31 (0, 0))).alloc (.cells #[.int .i64 e.kind, .string e.path, .string e.dst, .int .i64 e.client, .int .i64 e.call, .int .i64 e.n, .slice al e.lens.length cl] 42 (0, 0))).drew).heap[w.heap.size + 1]? = some (.cells #[.int .i64 e.kind, .string e.path, .string e.dst, .int .i64 e.client, .int .i64 e.call, .int .i64 e.n, .slice al e.lens.length cl] 42 (0, 0)) := by
    have h1 := heap_alloc_new (w.alloc (.cells #[.int .i64 0, .int .i64 0, .int .i64 0] 31 (0, 0))) (.cells #[.int .i64 e.kind, .string e.path, .string e.dst, .int .i64 e.client, .int .i64 e.call, .int .i64 e.n, .slice al e.lens.length cl] 42 (0, 0))
    have h2 : (w.alloc (.cells #[.int .i64 0, .int .i64 0, .int .i64 0] 31 (0, 0))).heap.size = w.heap.size + 1 := by simp
    rw [h2] at h1; exact h1
  have hz1 : (((w.alloc (.cells #[.int .i64 0, .int .i64 0, .int .i64 0] 31 (0, 0))).alloc (.cells #[.int .i64 e.kind, .string e.path, .string e.dst, .int .i64 e.client, .int .i64 e.call, .int .i64 e.n, .slice al e.lens.length cl] 42 (0, 0))).drew).heap.size = w.heap.size + 2 := by simp
  clear c0 c1 c2 c3 c4 c5 c6 c7 c8 c9 c10 c11 c12
  generalize ((w.alloc (.cells #[.int .i64 0, .int .i64 0, .int .i64 0] 31 (0, 0))).alloc (.cells #[.int .i64 e.kind, .string e.path, .string e.dst, .int .i64 e.client, .int .i64 e.call, .int .i64 e.n, .slice al e.lens.length cl] 42 (0, 0))).drew = w1 at *
  have hW := Hh.out.below hb1
  have hxo := hW.nodes.bl x (List.mem_of_getElem? Hx.out)
  have e0 : w1.cell? ⟨w.heap.size + 1, 0, none⟩ = some (.int .i64 e.kind) := cell_of_blk hk1
  rw [Hk.out] at e0
  have d3 := (hW.cell (j := 3) Hv.out Hx.out rfl (by decide)).1
  have hR := HR0.out
  have HR := Lib.hid hR; clear HR0 hR
  have HW := Lib.hid hW; have Hb1 := Lib.hid hb1; have K0 := Lib.hid hk0; have K1 := Lib.hid hk1; have Hz1 := Lib.hid hz1; have Hxo := Lib.hid hxo
  clear hW hb1 hk0 hk1 hz1 hxo
  have hgk := Hh.out.lt
  have Hlt := Lib.hid hgk; clear hgk
  cases hl : lensOk e x
  · have hln := lens_no w1 g s e HW.out.rd d3 Hxo.out.rd hn hm hl
    have HR2 := Lib.hid (HR.out.trans (if_pos hl))
    have Hln := Lib.hid hln
    clear HR hln hl d3
    go_wp2_with (go_at_call 146; (with_reducible refine Hln.out.mono ?_); rintro e2 w2 ⟨he2, hb2⟩; rw [amissE] at he2; subst he2)
    refine ⟨rfl, Upd.of_below (Hb1.out.trans (hb2.mono Hb1.out.size)) _, ?_⟩
    rw [HR2.out]
    rfl
  · have hly := lens_yes w0 w1 g s e HW.out HA.out Hv.out Hx.out hn hl
    have HR2 := Lib.hid (HR.out.trans (if_neg (by rw [hl]; simp)))
    have Hly := Lib.hid hly
    clear HR hly hl d3
    have hgb : ∀ k, bvF x k → k < w.heap.size := fun k hk => Hlt.out.2.2.2 x (List.mem_of_getElem? Hx.out) k hk
    have Hgb := Lib.hid hgb; clear hgb
    have HR3 := Lib.hid (HR2.out.trans (if_neg (by rw [Hk.out]; decide)))
    clear HR2
    have hlz : (zipLen x.blocks e.lens).length = x.blocks.length := zip_length _ _
    have Hlz := Lib.hid hlz; clear hlz
    obtain ⟨ax, cx, hbv⟩ := bv_slice Hxo.out.rd
    have Hbv := Lib.hid hbv; clear hbv
    by_cases hall : x.blocks.length < 8 ∧ s.nb < 9007199254740991 ∧ s.ng < 9007199254740991
    · obtain ⟨p1, p2, p3⟩ := hall
      have HR4 := Lib.hid (HR3.out.trans (if_neg (by omega)))
      clear HR3
      go_wp2_with (first
        | (go_at_call 146; (with_reducible refine Hly.out.mono ?_); rintro e2 w2 hp; unfold LensP at hp; obtain ⟨rfl, hO2, hU2⟩ := hp; have k0' := (hU2.block w.heap.size (lt_of_block K0.out) (fun h => by have := Hgb.out _ h; omega)).trans K0.out; have hx2 := setN_at Hx.out { x with blocks := zipLen x.blocks e.lens }; have hv2 : (setN s i { x with blocks := zipLen x.blocks e.lens }).vn = .slice (some ⟨gn, 0, none⟩) (setN s i { x with blocks := zipLen x.blocks e.lens }).nodes.length cap := (by show s.vn = .slice _ (s.nodes.set i _).length cap; rw [List.length_set]; exact Hv.out); obtain ⟨d3, z3⟩ := hO2.cell (j := 3) hv2 hx2 rfl (by decide); have d3' : w2.cell? ⟨gn, i * 5 + 3, none⟩ = some (.slice ax x.blocks.length cx) := (by rw [← Hbv.out]; exact d3); obtain ⟨-, d1, d2, -⟩ := wkc hO2.rd; have d1' : w2.cell? ⟨g, 1, none⟩ = some (.int .i64 s.nb) := d1; have d2' : w2.cell? ⟨g, 2, none⟩ = some (.int .i64 s.ng) := d2; have HO2 := Lib.hid hO2; have HU2 := Lib.hid hU2; have HK0 := Lib.hid k0'; have Hx2 := Lib.hid hx2; have Hv2 := Lib.hid hv2; clear hO2 hU2 k0' hx2 hv2 d3 d1 d2)
        | (go_at_call 45; (with_reducible refine (must_yes _ _).mono ?_); rintro e3 w3 ⟨rfl, rfl⟩))
      go_region_held3 (fun w' => w'.cell? ⟨g, 1, none⟩ = some (.int .i64 s.nb) ∧ w'.cell? ⟨g, 2, none⟩ = some (.int .i64 s.ng)) (go_keep) (fail)
      have b5 : Below w3.heap.size w3 (w3.alloc (.cells #[.int .i64 s.nb, .int .i64 s.ng, .int .i64 0] 31 (0, 0))).drew := ((Below.refl _ _).alloc (Nat.le_refl _) _).drew
      have k5 : (w3.alloc (.cells #[.int .i64 s.nb, .int .i64 s.ng, .int .i64 0] 31 (0, 0))).drew.heap[w3.heap.size]? = some (.cells #[.int .i64 s.nb, .int .i64 s.ng, .int .i64 0] 31 (0, 0)) := heap_alloc_new w3 _
      have hz5 : (w3.alloc (.cells #[.int .i64 s.nb, .int .i64 s.ng, .int .i64 0] 31 (0, 0))).drew.heap.size = w3.heap.size + 1 := by simp
      generalize (w3.alloc (.cells #[.int .i64 s.nb, .int .i64 s.ng, .int .i64 0] 31 (0, 0))).drew = w5 at *
      have hO5 := HO2.out.below b5
      obtain ⟨d3, z3'⟩ := hO5.cell (j := 3) Hv2.out Hx2.out rfl (by decide)
      have d35 : w5.cell? ⟨gn, i * 5 + 3, none⟩ = some (.slice ax x.blocks.length cx) := by rw [← Hbv.out]; exact d3
      obtain ⟨q0, q1, q2⟩ := (show w5.cell? ⟨w3.heap.size, 0, none⟩ = some (.int .i64 s.nb) ∧ w5.cell? ⟨w3.heap.size, 1, none⟩ = some (.int .i64 s.ng) ∧ w5.cell? ⟨w3.heap.size, 2, none⟩ = some (.int .i64 0) from ⟨cell_of_blk k5, cell_of_blk k5, cell_of_blk k5⟩)
      have hxo5 := hO5.nodes.bl _ (List.mem_of_getElem? Hx2.out)
      have hown5 : w5.ownsRow 0 31 3 (.slice ax x.blocks.length cx) x.blocks.length (flatB (zipLen x.blocks e.lens)) := by
        have := hxo5.own
        rw [← Hbv.out, ← Hlz.out]
        exact this
      have B5 := Lib.hid b5; have K5 := Lib.hid k5; have Hz5 := Lib.hid hz5; have HO5 := Lib.hid hO5; have Hown5 := Lib.hid hown5
      clear b5 k5 hz5 hO5 hown5 hxo5 d3 d3' d1' d2' z3
      go_wp2_with (fail)
      have hgnlt : gn < w.heap.size := Hlt.out.2.1 gn (by rw [Hv.out]; rfl)
      have hsz3 : w.heap.size + 2 ≤ w3.heap.size := by have h1 := Hz1.out; have h2 := HU2.out.size; omega
      have hbvlt : ∀ k, x.bv.ownBlock = some k → k < w.heap.size := Hgb.out
      have hbvgn : x.bv.ownBlock ≠ some gn := fun h => own_kinds Hxo.out.own HW.out.nodes.own (by decide) (by rw [Hv.out]; rfl) h
      have hbvg : x.bv.ownBlock ≠ some g := own_ne_blk Hxo.out.own HW.out.blk (by decide)
      have hob : (Value.slice ax x.blocks.length cx).ownBlock = x.bv.ownBlock := by rw [Hbv.out]
      have hkeep : ∀ (o : Obj) (w6 : World) (k : Nat), (w5.drew.alloc o).grownBy w6 (Value.slice ax x.blocks.length cx).ownBlock → k < w5.heap.size → x.bv.ownBlock ≠ some k → w6.heap[k]? = w5.heap[k]? := fun o w6 k hg hk hne =>
        (hg.block k (by simp; omega) (by rw [hob]; exact fun h => hne h.symm)).trans (heap_alloc_old _ _ hk)
      have hk3 : ∀ (o : Obj) (w6 : World), (w5.drew.alloc o).grownBy w6 (Value.slice ax x.blocks.length cx).ownBlock → w6.cell? ⟨gn, i * 5 + 3, none⟩ = some (.slice ax x.blocks.length cx) ∧ w6.frozen? ⟨gn, i * 5 + 3, none⟩ = false := fun o w6 hg =>
        have hh := hkeep o w6 gn hg (by have := Hz5.out; omega) hbvgn
        ⟨(World.cell?_of_block (a := ⟨gn, i * 5 + 3, none⟩) hh).trans d35, (World.frozen?_of_block (a := ⟨gn, i * 5 + 3, none⟩) hh).trans z3'⟩
      have y1 : gn ≠ w5.heap.size := by have := Hz5.out; omega
      have y2 : w3.heap.size ≠ w5.heap.size := by have := Hz5.out; omega
      have y3 : gn < w5.heap.size := by have := Hz5.out; omega
      have y4 : w3.heap.size < w5.heap.size := by have := Hz5.out; omega
      have Hkeep := Lib.hid hkeep; have Hk3 := Lib.hid hk3; have Hob := Lib.hid hob; have Hbvlt := Lib.hid hbvlt
      clear hkeep hk3 hob hbvlt
      go_region_law (refine etB.step1 (v := .slice ax x.blocks.length cx) (n := x.blocks.length) (xs := flatB (zipLen x.blocks e.lens)) ((own_drew Hown5.out).alloc _) (heap_alloc_new _ _) rfl (by simp [Value.oneCell']) (by omega) (by unfold maxLen; omega) rfl (.tmp 107) (.tmp 109) rfl rfl rfl ?_; intro g1 cap1 w6 own6 grow6 at6 lt6; obtain ⟨l3, lz3⟩ := Hk3.out _ _ grow6; have Own6 := Lib.hid own6; have Grow6 := Lib.hid grow6; have At6 := Lib.hid at6; clear own6 grow6 at6)
      all_goals
        have hO5 := HO5.out.below (((Below.refl _ _).drew.alloc (Nat.le_refl _) (.cells #[.int .i64 s.nb, .int .i64 s.ng, .int .i64 0] 31 (0, 0))))
        have hsz6 : (w5.drew.alloc (.cells #[.int .i64 s.nb, .int .i64 s.ng, .int .i64 0] 31 (0, 0))).heap.size = w3.heap.size + 2 := by have := Hz5.out; simp; omega
        have hO7 := WkO.app (b := ⟨s.nb, s.ng, 0⟩) (v' := .slice (some ⟨g1, 0, none⟩) (x.blocks.length + 1) cap1) hO5 (apart_set HA.out Hx.out rfl) Hx2.out Hv2.out (by show w6.ownsRow 0 _ 3 _ ((zipLen x.blocks e.lens).length + 1) _; rw [Hlz.out]; exact Own6.out) (by have h := Grow6.out; rw [Hob.out] at h; exact h) (by
          rcases At6.out with h | h
          · left; rw [Hob.out] at h; exact h.symm
          · right; show some g1 = _; rw [h]; rfl)
        rw [setN_set] at hO7
        have k7 : ∀ k, k < w5.heap.size → x.bv.ownBlock ≠ some k → k ≠ gn → (w6.setCell ⟨gn, i * 5 + 3, none⟩ (.slice (some ⟨g1, 0, none⟩) (x.blocks.length + 1) cap1)).heap[k]? = w5.heap[k]? := fun k h1 h2 h3 => (heap_setCell_other _ ⟨gn, i * 5 + 3, none⟩ _ _ h3).trans (Hkeep.out _ _ k Grow6.out h1 h2)
        have kB := (k7 w.heap.size (by have := Hz5.out; omega) (fun h => by have := Hbvlt.out _ h; omega) (by omega)).trans ((B5.out.block _ (by omega)).trans HK0.out)
        have kT := (k7 w3.heap.size (by have := Hz5.out; omega) (fun h => by have := Hbvlt.out _ h; omega) (by omega)).trans K5.out
        have hU7 : Upd (wrF g gn x) w (w6.setCell ⟨gn, i * 5 + 3, none⟩ (.slice (some ⟨g1, 0, none⟩) (x.blocks.length + 1) cap1)) := by
          have h1 : Upd (wrF g gn x) w w3 := (Upd.of_below Hb1.out _).trans (HU2.out.mono fun k _ hk => .inr (.inr hk))
          have h2 : Upd (wrF g gn x) w (w5.drew.alloc (.cells #[.int .i64 s.nb, .int .i64 s.ng, .int .i64 0] 31 (0, 0))) := (h1.trans (Upd.of_below B5.out _)).drew.alloc _
          exact (h2.grown Grow6.out (fun k hk => .inl (.inr (.inr (by rw [← Hob.out]; exact hk))))).setCell (p := ⟨gn, i * 5 + 3, none⟩) (.inl (.inr (.inl rfl))) _
        clear l3 lz3 q0 q1 q2 d35 z3' k7
        generalize w6.setCell ⟨gn, i * 5 + 3, none⟩ (.slice (some ⟨g1, 0, none⟩) (x.blocks.length + 1) cap1) = w7 at *
        obtain ⟨-, m1, m2, -⟩ := wkc hO7.rd
        have m1' : w7.cell? ⟨g, 1, none⟩ = some (.int .i64 s.nb) := m1
        have m2' : w7.cell? ⟨g, 2, none⟩ = some (.int .i64 s.ng) := m2
        have mz1 : w7.frozen? ⟨g, 1, none⟩ = false := free_of_blk hO7.blk
        have mz2 : w7.frozen? ⟨g, 2, none⟩ = false := free_of_blk hO7.blk
        obtain ⟨q0, q1, q2⟩ := (show w7.cell? ⟨w3.heap.size, 0, none⟩ = some (.int .i64 s.nb) ∧ w7.cell? ⟨w3.heap.size, 1, none⟩ = some (.int .i64 s.ng) ∧ w7.cell? ⟨w3.heap.size, 2, none⟩ = some (.int .i64 0) from ⟨cell_of_blk kT, cell_of_blk kT, cell_of_blk kT⟩)
        obtain ⟨b0, b1, b2'⟩ := (show w7.cell? ⟨w.heap.size, 0, none⟩ = some (.int .i64 0) ∧ w7.cell? ⟨w.heap.size, 1, none⟩ = some (.int .i64 0) ∧ w7.cell? ⟨w.heap.size, 2, none⟩ = some (.int .i64 0) from ⟨cell_of_blk kB, cell_of_blk kB, cell_of_blk kB⟩)
        obtain ⟨f0, f1, f2⟩ := (show w7.frozen? ⟨w.heap.size, 0, none⟩ = false ∧ w7.frozen? ⟨w.heap.size, 1, none⟩ = false ∧ w7.frozen? ⟨w.heap.size, 2, none⟩ = false from ⟨free_of_blk kB, free_of_blk kB, free_of_blk kB⟩)
        have hglt := Hlt.out.1
        have x1 : g ≠ w.heap.size := by omega
        have x2 : g ≠ w3.heap.size := by omega
        have x3 : w.heap.size ≠ w3.heap.size := by omega
        have x4 : w3.heap.size ≠ g := by omega
        have x5 : w.heap.size ≠ g := by omega
        have HO7 := Lib.hid hO7; have HU7 := Lib.hid hU7; have KB := Lib.hid kB
        clear hO7 hU7 kB kT m1 m2 hO5 hsz6
        go_wp2_with (fail)
        have hC := WkO.poke (s' := { setN s i { x with bv := .slice (some ⟨g1, 0, none⟩) (x.blocks.length + 1) cap1, blocks := zipLen x.blocks e.lens ++ [⟨s.nb, s.ng, 0⟩] } with nb := s.nb + 1 }) (j := 1) (u := .int .i64 (s.nb + 1)) HO7.out rfl HO7.out.nodes HO7.out.leases HO7.out.nn HO7.out.ln
        have hD := WkO.poke (s' := { setN s i { x with bv := .slice (some ⟨g1, 0, none⟩) (x.blocks.length + 1) cap1, blocks := zipLen x.blocks e.lens ++ [⟨s.nb, s.ng, 0⟩] } with nb := s.nb + 1, ng := s.ng + 1 }) (j := 2) (u := .int .i64 (s.ng + 1)) hC rfl hC.nodes hC.leases hC.nn hC.ln
        have hf := set3_blk ((heap_setCell_other _ ⟨g, 2, none⟩ w.heap.size (.int .i64 (s.ng + 1)) x5).trans ((heap_setCell_other w7 ⟨g, 1, none⟩ w.heap.size (.int .i64 (s.nb + 1)) x5).trans KB.out)) (.int .i64 s.nb) (.int .i64 s.ng) (.int .i64 0)
        obtain ⟨t1, t2, t3, t4⟩ := Hlt.out
        have hg1 : g1 ≠ w.heap.size := by
          rcases At6.out with h | h
          · rw [Hob.out] at h; have := Hbvlt.out _ h; omega
          · simp at h; have := Hz5.out; omega
        have hfin := hD.side3 (N := w.heap.size) Hh.out.base.size x1 (fun h => by have := t2 _ h; omega) (fun h => by have := t3 _ h; omega) (fun y hy h => by
          rcases set_at Hx.out hy with rfl | ⟨k, _, hky⟩
          · exact hg1 (by simpa [Value.ownBlock] using h)
          · have := t4 y (List.mem_of_getElem? hky) _ h; omega) (.int .i64 s.nb) (.int .i64 s.ng) (.int .i64 0)
        refine bodyPost_ret (results_cell_row rfl _ _ w.heap.size _ _ _ _ rfl hf Tryz.underlying31 rfl (by kernel_rfl)) rfl ⟨Upd.set3 ((HU7.out.setCell (p := ⟨g, 1, none⟩) (.inl (.inl rfl)) _).setCell (p := ⟨g, 2, none⟩) (.inl (.inl rfl)) _) (Nat.le_refl _) _ _ _, ?_⟩
        rw [HR4.out, if_neg (by simp)]
        have hsame : (s.nodes.set i { x with bv := .slice (some ⟨g1, 0, none⟩) (x.blocks.length + 1) cap1, blocks := zipLen x.blocks e.lens ++ [⟨s.nb, s.ng, 0⟩] }).map pur = (s.nodes.set i { x with blocks := zipLen x.blocks e.lens ++ [⟨s.nb, s.ng, 0⟩] }).map pur := by
          rw [List.map_set, List.map_set]; rfl
        exact ⟨⟨{ setN s i { x with bv := .slice (some ⟨g1, 0, none⟩) (x.blocks.length + 1) cap1, blocks := zipLen x.blocks e.lens ++ [⟨s.nb, s.ng, 0⟩] } with nb := s.nb + 1, ng := s.ng + 1 }, ⟨rfl, rfl, rfl, rfl, hsame, rfl⟩, hfin, NewB.set Hx.out rfl (fun N h => by
          have h' : g1 = N := by simpa [Value.ownBlock] using h
          subst h'
          rcases At6.out with h | h
          · left; rw [Hob.out] at h; exact h
          · right; simp at h; have := Hz5.out; omega)⟩, rfl⟩
    · have HR4 := Lib.hid (HR3.out.trans (if_pos (by omega)))
      clear HR3
      by_cases p1 : x.blocks.length < 8
      · by_cases p2 : s.nb < 9007199254740991
        · have p3 : ¬ s.ng < 9007199254740991 := fun h => hall ⟨p1, p2, h⟩
          have p3' : decide (s.ng < 9007199254740991) = false := decide_eq_false p3
          clear hall
          (go_wp2_with (first | (go_at_call 146; (with_reducible refine Hly.out.mono ?_); rintro e2 w2 hp; unfold LensP at hp; obtain ⟨rfl, hO2, hU2⟩ := hp; have k0' := (hU2.block w.heap.size (lt_of_block K0.out) (fun h => by have := Hgb.out _ h; omega)).trans K0.out; have hx2 := setN_at Hx.out { x with blocks := zipLen x.blocks e.lens }; have hv2 : (setN s i { x with blocks := zipLen x.blocks e.lens }).vn = .slice (some ⟨gn, 0, none⟩) (setN s i { x with blocks := zipLen x.blocks e.lens }).nodes.length cap := (by show s.vn = .slice _ (s.nodes.set i _).length cap; rw [List.length_set]; exact Hv.out); obtain ⟨d3, z3⟩ := hO2.cell (j := 3) hv2 hx2 rfl (by decide); have d3' : w2.cell? ⟨gn, i * 5 + 3, none⟩ = some (.slice ax x.blocks.length cx) := (by rw [← Hbv.out]; exact d3); obtain ⟨-, d1, d2, -⟩ := wkc hO2.rd; have d1' : w2.cell? ⟨g, 1, none⟩ = some (.int .i64 s.nb) := d1; have d2' : w2.cell? ⟨g, 2, none⟩ = some (.int .i64 s.ng) := d2; have HO2 := Lib.hid hO2; have HU2 := Lib.hid hU2; have HK0 := Lib.hid k0'; have Hx2 := Lib.hid hx2; have Hv2 := Lib.hid hv2; clear hO2 hU2 k0' hx2 hv2 d3 d1 d2) | (go_at_call 45; (with_reducible refine (must_no _ _).mono ?_); rintro e3 w3 ⟨rfl, rfl⟩))); (refine ⟨rfl, (Upd.of_below Hb1.out _).trans (HU2.out.mono fun k _ hk => .inr (.inr hk)), ?_⟩); (rw [HR4.out]); rfl
        · have p2' : decide (s.nb < 9007199254740991) = false := decide_eq_false p2
          clear hall
          (go_wp2_with (first | (go_at_call 146; (with_reducible refine Hly.out.mono ?_); rintro e2 w2 hp; unfold LensP at hp; obtain ⟨rfl, hO2, hU2⟩ := hp; have k0' := (hU2.block w.heap.size (lt_of_block K0.out) (fun h => by have := Hgb.out _ h; omega)).trans K0.out; have hx2 := setN_at Hx.out { x with blocks := zipLen x.blocks e.lens }; have hv2 : (setN s i { x with blocks := zipLen x.blocks e.lens }).vn = .slice (some ⟨gn, 0, none⟩) (setN s i { x with blocks := zipLen x.blocks e.lens }).nodes.length cap := (by show s.vn = .slice _ (s.nodes.set i _).length cap; rw [List.length_set]; exact Hv.out); obtain ⟨d3, z3⟩ := hO2.cell (j := 3) hv2 hx2 rfl (by decide); have d3' : w2.cell? ⟨gn, i * 5 + 3, none⟩ = some (.slice ax x.blocks.length cx) := (by rw [← Hbv.out]; exact d3); obtain ⟨-, d1, d2, -⟩ := wkc hO2.rd; have d1' : w2.cell? ⟨g, 1, none⟩ = some (.int .i64 s.nb) := d1; have d2' : w2.cell? ⟨g, 2, none⟩ = some (.int .i64 s.ng) := d2; have HO2 := Lib.hid hO2; have HU2 := Lib.hid hU2; have HK0 := Lib.hid k0'; have Hx2 := Lib.hid hx2; have Hv2 := Lib.hid hv2; clear hO2 hU2 k0' hx2 hv2 d3 d1 d2) | (go_at_call 45; (with_reducible refine (must_no _ _).mono ?_); rintro e3 w3 ⟨rfl, rfl⟩))); (refine ⟨rfl, (Upd.of_below Hb1.out _).trans (HU2.out.mono fun k _ hk => .inr (.inr hk)), ?_⟩); (rw [HR4.out]); rfl
      · have p1' : decide (x.blocks.length < 8) = false := decide_eq_false p1
        have p1'' : decide ((x.blocks.length : Int) < 8) = false := decide_eq_false (by omega)
        clear hall
        (go_wp2_with (first | (go_at_call 146; (with_reducible refine Hly.out.mono ?_); rintro e2 w2 hp; unfold LensP at hp; obtain ⟨rfl, hO2, hU2⟩ := hp; have k0' := (hU2.block w.heap.size (lt_of_block K0.out) (fun h => by have := Hgb.out _ h; omega)).trans K0.out; have hx2 := setN_at Hx.out { x with blocks := zipLen x.blocks e.lens }; have hv2 : (setN s i { x with blocks := zipLen x.blocks e.lens }).vn = .slice (some ⟨gn, 0, none⟩) (setN s i { x with blocks := zipLen x.blocks e.lens }).nodes.length cap := (by show s.vn = .slice _ (s.nodes.set i _).length cap; rw [List.length_set]; exact Hv.out); obtain ⟨d3, z3⟩ := hO2.cell (j := 3) hv2 hx2 rfl (by decide); have d3' : w2.cell? ⟨gn, i * 5 + 3, none⟩ = some (.slice ax x.blocks.length cx) := (by rw [← Hbv.out]; exact d3); obtain ⟨-, d1, d2, -⟩ := wkc hO2.rd; have d1' : w2.cell? ⟨g, 1, none⟩ = some (.int .i64 s.nb) := d1; have d2' : w2.cell? ⟨g, 2, none⟩ = some (.int .i64 s.ng) := d2; have HO2 := Lib.hid hO2; have HU2 := Lib.hid hU2; have HK0 := Lib.hid k0'; have Hx2 := Lib.hid hx2; have Hv2 := Lib.hid hv2; clear hO2 hU2 k0' hx2 hv2 d3 d1 d2) | (go_at_call 45; (with_reducible refine (must_no _ _).mono ?_); rintro e3 w3 ⟨rfl, rfl⟩))); (refine ⟨rfl, (Upd.of_below Hb1.out _).trans (HU2.out.mono fun k _ hk => .inr (.inr hk)), ?_⟩); (rw [HR4.out]); rfl
end Go.Proofs.YtdfckkadmgmcaaaGreatDoor.Space

/- Edits of spaces: (*work).do, kind by kind (printed by gen_zn.py): Delete. -/
namespace Go.Proofs.YtdfckkadmgmcaaaGreatDoor.Space
open Go.RowKit
open Path (Bs bs mk bs_mk mk_bs tl_bs MaxC splitE splitL parD)
open Tree
open Quota (overL cntT roomT)
set_option linter.unusedSimpArgs false
set_option linter.unusedVariables false
def DoP (w0 : World) (g : Nat) (R : Res) (e : Ed) (e' : Ending) (w' : World) : Prop :=
  Below w0.heap.size w0 w' ∧ (if R.err ≠ 0 then e' = amissE R.err else (∃ t, SameS t R.s ∧ WkO w0 w' g t e) ∧ e' = .returned (.agg #[.int .i64 R.b.id, .int .i64 R.b.gen, .int .i64 R.b.len]))
theorem ed_cells {w : World} {N : Nat} {e : Ed} {v : Value} {t : TypeId} (h : w.heap[N]? = some (.cells #[.int .i64 e.kind, .string e.path, .string e.dst, .int .i64 e.client, .int .i64 e.call, .int .i64 e.n, v] t (0, 0))) : w.cell? ⟨N, 0, none⟩ = some (.int .i64 e.kind) ∧ w.cell? ⟨N, 1, none⟩ = some (.string e.path) ∧ w.cell? ⟨N, 2, none⟩ = some (.string e.dst) ∧ w.cell? ⟨N, 3, none⟩ = some (.int .i64 e.client) ∧ w.cell? ⟨N, 5, none⟩ = some (.int .i64 e.n) :=
  ⟨cell_of_blk h, cell_of_blk h, cell_of_blk h, cell_of_blk h, cell_of_blk h⟩
theorem box_cells {w : World} {N : Nat} {u0 u1 u2 : Value} {t : TypeId} (h : w.heap[N]? = some (.cells #[u0, u1, u2] t (0, 0))) : w.cell? ⟨N, 0, none⟩ = some u0 ∧ w.cell? ⟨N, 1, none⟩ = some u1 ∧ w.cell? ⟨N, 2, none⟩ = some u2 ∧ w.frozen? ⟨N, 0, none⟩ = false ∧ w.frozen? ⟨N, 1, none⟩ = false ∧ w.frozen? ⟨N, 2, none⟩ = false :=
  ⟨cell_of_blk h, cell_of_blk h, cell_of_blk h, free_of_blk h, free_of_blk h, free_of_blk h⟩
/-- An edit that was made, and tells no block. -/
theorem do_end {w0 wF : World} {g N : Nat} {R : Res} {e : Ed} {t : Sp} (hR : R.err = 0) (hb : R.b = noBl) (ht : SameS t R.s) (hO : WkO w0 wF g t e) (hB : wF.heap[N]? = some (.cells #[.int .i64 0, .int .i64 0, .int .i64 0] 31 (0, 0))) (h0 : w0.heap.size ≤ N) (hn : ∀ x ∈ t.nodes, x.bv.ownBlock ≠ some N) :
    DoP w0 g R e (.returned (.agg #[.int .i64 0, .int .i64 0, .int .i64 0])) (set3 wF N (.int .i64 0) (.int .i64 0) (.int .i64 0)) := by
  have hg : g ≠ N := fun h => by
    have := hO.blk
    rw [h, hB] at this
    simp [wkC] at this
  have hO2 := hO.side3 h0 hg (own_ne_blk hO.nodes.own hB (by decide)) (own_ne_blk hO.leases.own hB (by decide)) hn (.int .i64 0) (.int .i64 0) (.int .i64 0)
  refine ⟨hO2.base, ?_⟩
  rw [hR, hb, if_neg (by simp)]
  exact ⟨⟨t, ht, hO2⟩, rfl⟩
theorem do_bad {w0 w' : World} {g : Nat} {R : Res} {e : Ed} {s : Sp} {E : Int} (hR : R = bad s E) (hE : E ≠ 0) (hb : Below w0.heap.size w0 w') : DoP w0 g R e (amissE E) w' := by
  refine ⟨hb, ?_⟩
  rw [hR]
  show if E ≠ 0 then _ else _
  rw [if_pos hE]; rfl
set_option maxRecDepth 100000 in
set_option maxHeartbeats 8000000 in
theorem do_del (w0 w : World) (g : Nat) (s : Sp) (e : Ed) (h : WkO w0 w g s e) (hA : Apart s.nodes) (hM : MaxC w0) (hs : RightS s) (he : EdOk e) (hk : e.kind = 3) :
    Calls Tryz.prog 48 #[.pointer (some ⟨g, 0, none⟩)] w (DoP w0 g (doE s e) e) := by
  obtain ⟨c0, c1, c2, c3, c4, c5, c6, c7, c8, c9, c10, c11, c12⟩ := wkc h.rd
  obtain ⟨al, cl, hlv, -, -⟩ := Lease.rd_cellsI h.rd.len
  obtain ⟨an, cn, hvn, -⟩ := rd_cellsN h.rd.sp.n.rd
  rw [hlv] at c12
  obtain ⟨R, hR0⟩ : ∃ R, R = doE s e := ⟨_, rfl⟩
  rw [← hR0]
  rw [doE, if_neg (by omega), if_pos hk] at hR0
  have HR := Lib.hid hR0
  have Hh := Lib.hid h; have HA := Lib.hid hA; have Hk := Lib.hid hk; have Hlv := Lib.hid hlv; have Hvn := Lib.hid hvn; have HM := Lib.hid hM; have Hs := Lib.hid hs; have He := Lib.hid he
  clear hR0 h hA hk hlv hvn hM hs he
  go_enter Tryz.func48, Tryz.ntmps48
  go_wp2_with (fail)
  go_region_held3 (fun w' => w'.cell? ⟨g, 6, none⟩ = some (.int .i64 e.kind) ∧ w'.cell? ⟨g, 7, none⟩ = some (.string e.path) ∧ w'.cell? ⟨g, 8, none⟩ = some (.string e.dst) ∧ w'.cell? ⟨g, 9, none⟩ = some (.int .i64 e.client) ∧ w'.cell? ⟨g, 10, none⟩ = some (.int .i64 e.call) ∧ w'.cell? ⟨g, 11, none⟩ = some (.int .i64 e.n) ∧ w'.cell? ⟨g, 12, none⟩ = some (.slice al e.lens.length cl)) (go_keep) (fail)
  have hb1 : Below w.heap.size w (((w.alloc (.cells #[.int .i64 0, .int .i64 0, .int .i64 0] 31 (0, 0))).alloc (.cells #[.int .i64 e.kind, .string e.path, .string e.dst, .int .i64 e.client, .int .i64 e.call, .int .i64 e.n, .slice al e.lens.length cl] 42 (0, 0))).drew) := (((Below.refl _ _).alloc (Nat.le_refl _) _).alloc (by simp) _).drew
  have hk0 : (((w.alloc (.cells #[.int .i64 0, .int .i64 0, .int .i64 0] 31 (0, 0))).alloc (.cells #[.int .i64 e.kind, .string e.path, .string e.dst, .int .i64 e.client, .int .i64 e.call, .int .i64 e.n, .slice al e.lens.length cl] 42 (0, 0))).drew).heap[w.heap.size]? = some (.cells #[.int .i64 0, .int .i64 0, .int .i64 0] 31 (0, 0)) := (heap_alloc_old _ _ (by simp)).trans (heap_alloc_new _ _)
  have hk1 : (((w.alloc (.cells #[.int .i64 0, .int .i64 0, .int .i64 0] 31 (0, 0))).alloc (.cells #[.int .i64 e.kind, .string e.path, .string e.dst, .int .i64 e.client, .int .i64 e.call, .int .i64 e.n, .slice al e.lens.length cl] 42 (0, 0))).drew).heap[w.heap.size + 1]? = some (.cells #[.int .i64 e.kind, .string e.path, .string e.dst, .int .i64 e.client, .int .i64 e.call, .int .i64 e.n, .slice al e.lens.length cl] 42 (0, 0)) := by
    have h1 := heap_alloc_new (w.alloc (.cells #[.int .i64 0, .int .i64 0, .int .i64 0] 31 (0, 0))) (.cells #[.int .i64 e.kind, .string e.path, .string e.dst, .int .i64 e.client, .int .i64 e.call, .int .i64 e.n, .slice al e.lens.length cl] 42 (0, 0))
    have h2 : (w.alloc (.cells #[.int .i64 0, .int .i64 0, .int .i64 0] 31 (0, 0))).heap.size = w.heap.size + 1 := by simp
    rw [h2] at h1; exact h1
  have hz1 : (((w.alloc (.cells #[.int .i64 0, .int .i64 0, .int .i64 0] 31 (0, 0))).alloc (.cells #[.int .i64 e.kind, .string e.path, .string e.dst, .int .i64 e.client, .int .i64 e.call, .int .i64 e.n, .slice al e.lens.length cl] 42 (0, 0))).drew).heap.size = w.heap.size + 2 := by simp
  clear c0 c1 c2 c3 c4 c5 c6 c7 c8 c9 c10 c11 c12
  generalize ((w.alloc (.cells #[.int .i64 0, .int .i64 0, .int .i64 0] 31 (0, 0))).alloc (.cells #[.int .i64 e.kind, .string e.path, .string e.dst, .int .i64 e.client, .int .i64 e.call, .int .i64 e.n, .slice al e.lens.length cl] 42 (0, 0))).drew = w1 at *
  have hW := Hh.out.below hb1
  obtain ⟨e0, e1, e2, e3, e5⟩ := ed_cells hk1
  obtain ⟨d0, d1, d2, d3, d4, d5, -⟩ := wkc hW.rd
  rw [Hvn.out] at d4
  obtain ⟨b0, b1, b2, f0, f1, f2⟩ := box_cells hk0
  have hM1 := HM.out.below hW.base
  have hl1 := Hh.out.lt
  have HW := Lib.hid hW; have Hb1 := Lib.hid hb1; have K0 := Lib.hid hk0; have K1 := Lib.hid hk1; have Hz1 := Lib.hid hz1; have HM1 := Lib.hid hM1; have Hlt := Lib.hid hl1
  clear hW hb1 hk0 hk1 hz1 hM1 hl1
  have hrm := fun W (hW : Below w1.heap.size w1 W) => remove_calls W s.vn s.nodes e.path (HW.out.rd.sp.n.below hW) HW.out.nn (HM1.out.below hW)
  rw [Hvn.out] at hrm
  obtain ⟨E, hE⟩ : ∃ E, E = rmE s.nodes (bs e.path) := ⟨_, rfl⟩
  have hR := HR.out
  rw [← hE] at hrm hR
  have HE := Lib.hid hE; have Hrm := Lib.hid hrm; have HR' := Lib.hid hR
  clear hrm hE HR hR
  rw [Hk.out] at e0
  go_wp2_with (fail)
  by_cases hE0 : E ≠ 0
  · refine wp_region_any (by kernel_rfl) ?_
    change wpAny _ _ _ _ _ _ _ (World.drew _)
    refine wpAny_take (i := 0) (v := .pointer (some ⟨g, 0, none⟩)) rfl (by kernel_rfl) (by kernel_rfl) (by kernel_rfl) (fun _ _ _ h => h) (Or.inl ⟨by rfl, fun wz => by first | (go_simp; done) | rfl⟩) ?_
    refine wpAny_take (i := 1) (v := .pointer (some ⟨g, 0, none⟩)) rfl (by kernel_rfl) (by kernel_rfl) (by kernel_rfl) (fun _ _ _ h => h) (Or.inl ⟨by rfl, fun wz => by first | (go_simp; done) | rfl⟩) ?_
    refine wpAny_take (i := 2) (v := .pointer (some ⟨g, 0, none⟩)) rfl (by kernel_rfl) (by kernel_rfl) (by kernel_rfl) (fun _ _ _ h => h) (Or.inl ⟨by rfl, fun wz => by first | (go_simp; done) | rfl⟩) ?_
    refine wpAny_take (i := 3) (v := .pointer (some ⟨g, 4, none⟩)) rfl (by kernel_rfl) (by kernel_rfl) (by kernel_rfl) (fun _ _ _ h => h) (Or.inl ⟨by rfl, fun wz => by first | (go_simp; done) | rfl⟩) ?_
    refine wpAny_take (i := 5) (v := .pointer (some ⟨w.heap.size + 1, 1, none⟩)) rfl (by kernel_rfl) (by kernel_rfl) (by kernel_rfl) (fun _ _ _ h => h) (Or.inl ⟨by rfl, fun wz => by first | (go_simp; done) | rfl⟩) ?_
    simp only [Act.put, List.setIfInBounds_toArray, List.set_cons_zero, List.set_cons_succ]
    refine wpAny_ready (rs := [4, 6]) (by kernel_rfl) (by simp) ?_
    refine AllReady.cons rfl (fun K hK => ?_) ?_
    · go_simp
      refine hK _ _ ?_
      clear hK K
      refine wpAny_ready (rs := [6]) (by kernel_rfl) (by simp) ?_
      refine AllReady.cons rfl (fun K hK => ?_) AllReady.nil
      go_simp
      refine hK _ _ ?_
      clear hK K
      refine wpAny_ready (rs := [7]) (by kernel_rfl) (by simp) ?_
      refine AllReady.cons rfl (fun K hK => ?_) AllReady.nil
      go_simp
      (refine (Hrm.out _ (Below.refl _ _).drew).mono ?_; rintro e3' w3 hp; unfold ResX at hp; obtain ⟨⟨v3, q3, rfl, ho3, hq3⟩, hb3⟩ := hp; obtain ⟨a3, c3, rfl, -⟩ := own_slice ho3.own)
      refine hK _ _ ?_
      clear hK K
      refine wpAny_take (i := 8) (v := .slice a3 q3.length c3) rfl (by kernel_rfl) (by kernel_rfl) (by kernel_rfl) (fun _ _ _ h => h) (Or.inl ⟨by rfl, fun wz => by first | (go_simp; done) | rfl⟩) ?_
      refine wpAny_take (i := 9) (v := .int .i64 E) rfl (by kernel_rfl) (by kernel_rfl) (by kernel_rfl) (fun _ _ _ h => h) (Or.inl ⟨by rfl, fun wz => by first | (go_simp; done) | rfl⟩) ?_
      simp only [Act.put, List.setIfInBounds_toArray, List.set_cons_zero, List.set_cons_succ]
      refine wpAny_ready (rs := [10]) (by kernel_rfl) (by simp) ?_
      refine AllReady.cons rfl (fun K hK => ?_) AllReady.nil
      go_simp
      (refine (nodes_no _ _ _ _ hE0).mono ?_; rintro e4 w4 ⟨rfl, rfl⟩)
      exact ⟨rfl, do_bad (HR'.out.trans (if_pos hE0)) hE0 (HW.out.base.drew.trans (hb3.mono HW.out.base.size))⟩
    refine AllReady.cons rfl (fun K hK => ?_) AllReady.nil
    go_simp
    refine hK _ _ ?_
    clear hK K
    refine wpAny_ready (rs := [4]) (by kernel_rfl) (by simp) ?_
    refine AllReady.cons rfl (fun K hK => ?_) AllReady.nil
    go_simp
    refine hK _ _ ?_
    clear hK K
    refine wpAny_ready (rs := [7]) (by kernel_rfl) (by simp) ?_
    refine AllReady.cons rfl (fun K hK => ?_) AllReady.nil
    go_simp
    (refine (Hrm.out _ (Below.refl _ _).drew).mono ?_; rintro e3' w3 hp; unfold ResX at hp; obtain ⟨⟨v3, q3, rfl, ho3, hq3⟩, hb3⟩ := hp; obtain ⟨a3, c3, rfl, -⟩ := own_slice ho3.own)
    refine hK _ _ ?_
    clear hK K
    refine wpAny_take (i := 8) (v := .slice a3 q3.length c3) rfl (by kernel_rfl) (by kernel_rfl) (by kernel_rfl) (fun _ _ _ h => h) (Or.inl ⟨by rfl, fun wz => by first | (go_simp; done) | rfl⟩) ?_
    refine wpAny_take (i := 9) (v := .int .i64 E) rfl (by kernel_rfl) (by kernel_rfl) (by kernel_rfl) (fun _ _ _ h => h) (Or.inl ⟨by rfl, fun wz => by first | (go_simp; done) | rfl⟩) ?_
    simp only [Act.put, List.setIfInBounds_toArray, List.set_cons_zero, List.set_cons_succ]
    refine wpAny_ready (rs := [10]) (by kernel_rfl) (by simp) ?_
    refine AllReady.cons rfl (fun K hK => ?_) AllReady.nil
    go_simp
    (refine (nodes_no _ _ _ _ hE0).mono ?_; rintro e4 w4 ⟨rfl, rfl⟩)
    exact ⟨rfl, do_bad (HR'.out.trans (if_pos hE0)) hE0 (HW.out.base.drew.trans (hb3.mono HW.out.base.size))⟩
  · obtain rfl : E = 0 := Classical.not_not.1 hE0
    have HR' := Lib.hid (HR'.out.trans (if_neg (by simp)))
    refine wp_region_any (by kernel_rfl) ?_
    change wpAny _ _ _ _ _ _ _ (World.drew _)
    refine wpAny_take (i := 0) (v := .pointer (some ⟨g, 0, none⟩)) rfl (by kernel_rfl) (by kernel_rfl) (by kernel_rfl) (fun _ _ _ h => h) (Or.inl ⟨by rfl, fun wz => by first | (go_simp; done) | rfl⟩) ?_
    refine wpAny_take (i := 1) (v := .pointer (some ⟨g, 0, none⟩)) rfl (by kernel_rfl) (by kernel_rfl) (by kernel_rfl) (fun _ _ _ h => h) (Or.inl ⟨by rfl, fun wz => by first | (go_simp; done) | rfl⟩) ?_
    refine wpAny_take (i := 2) (v := .pointer (some ⟨g, 0, none⟩)) rfl (by kernel_rfl) (by kernel_rfl) (by kernel_rfl) (fun _ _ _ h => h) (Or.inl ⟨by rfl, fun wz => by first | (go_simp; done) | rfl⟩) ?_
    refine wpAny_take (i := 3) (v := .pointer (some ⟨g, 4, none⟩)) rfl (by kernel_rfl) (by kernel_rfl) (by kernel_rfl) (fun _ _ _ h => h) (Or.inl ⟨by rfl, fun wz => by first | (go_simp; done) | rfl⟩) ?_
    refine wpAny_take (i := 5) (v := .pointer (some ⟨w.heap.size + 1, 1, none⟩)) rfl (by kernel_rfl) (by kernel_rfl) (by kernel_rfl) (fun _ _ _ h => h) (Or.inl ⟨by rfl, fun wz => by first | (go_simp; done) | rfl⟩) ?_
    simp only [Act.put, List.setIfInBounds_toArray, List.set_cons_zero, List.set_cons_succ]
    refine wpAny_ready (rs := [4, 6]) (by kernel_rfl) (by simp) ?_
    refine AllReady.cons rfl (fun K hK => ?_) ?_
    · go_simp
      refine hK _ _ ?_
      clear hK K
      refine wpAny_ready (rs := [6]) (by kernel_rfl) (by simp) ?_
      refine AllReady.cons rfl (fun K hK => ?_) AllReady.nil
      go_simp
      refine hK _ _ ?_
      clear hK K
      refine wpAny_ready (rs := [7]) (by kernel_rfl) (by simp) ?_
      refine AllReady.cons rfl (fun K hK => ?_) AllReady.nil
      go_simp
      (refine (Hrm.out _ (Below.refl _ _).drew).mono ?_; rintro e3' w3 hp; unfold ResX at hp; obtain ⟨⟨v3, q3, rfl, ho3, hq3⟩, hb3⟩ := hp; obtain ⟨a3, c3, rfl, -⟩ := own_slice ho3.own)
      have Hq3 := Lib.hid (hq3.trans (if_pos rfl))
      clear hq3
      have hc4 : w3.cell? ⟨g, 4, none⟩ = some (.slice an s.nodes.length cn) := (hb3.cell (p := ⟨g, 4, none⟩) (lt_of_block HW.out.blk)).trans d4
      have hz4 : w3.frozen? ⟨g, 4, none⟩ = false := (hb3.frozen (p := ⟨g, 4, none⟩) (lt_of_block HW.out.blk)).trans (free_of_blk HW.out.blk)
      refine hK _ _ ?_
      clear hK K
      refine wpAny_take (i := 8) (v := .slice a3 q3.length c3) rfl (by kernel_rfl) (by kernel_rfl) (by kernel_rfl) (fun _ _ _ h => h) (Or.inl ⟨by rfl, fun wz => by first | (go_simp; done) | rfl⟩) ?_
      refine wpAny_take (i := 9) (v := .int .i64 0) rfl (by kernel_rfl) (by kernel_rfl) (by kernel_rfl) (fun _ _ _ h => h) (Or.inl ⟨by rfl, fun wz => by first | (go_simp; done) | rfl⟩) ?_
      simp only [Act.put, List.setIfInBounds_toArray, List.set_cons_zero, List.set_cons_succ]
      refine wpAny_ready (rs := [10]) (by kernel_rfl) (by simp) ?_
      refine AllReady.cons rfl (fun K hK => ?_) AllReady.nil
      go_simp
      (refine (nodes_yes _ _ _ _ _ _ hc4 hz4).mono ?_; rintro e4 w4 ⟨rfl, rfl⟩)
      refine hK _ _ ?_
      clear hK K
      refine wpAny_done (by kernel_rfl) ?_ _
      have hbq : Below w1.heap.size w1 w3 := ⟨hb3.os, hb3.tape, hb3.output, hb3.size, hb3.block⟩
      have hO3 := HW.out.below hbq
      have hx3 : OwnX w0 w3 (.slice a3 q3.length c3) q3 := ho3.up HW.out.base.size
      have hnew3 : ∀ x ∈ q3, x.bv.ownBlock ≠ some w.heap.size := fun x hx h => by have h1 := (ho3.bl x hx).new _ h; have h2 := Hz1.out; have h3 : w1.heap.size ≤ w.heap.size := h1; omega
      have kB := (heap_setCell_other w3 ⟨g, 4, none⟩ w.heap.size (.slice a3 q3.length c3) (fun h => by have h1 := Hlt.out.1; have h2 : w.heap.size = g := h; omega)).trans ((hbq.block _ (lt_of_block K0.out)).trans K0.out)
      have hlen : q3.length ≤ 60 := by
        have h1 := congrArg List.length Hq3.out
        have h2 := (rem_less HE.out.symm).1
        have h3 := Hs.out.tree.len
        rw [List.length_map] at h1
        omega
      have hO4 := WkO.poke (s' := { s with nodes := q3, vn := .slice a3 q3.length c3 }) (j := 4) (u := .slice a3 q3.length c3) hO3 rfl hx3 hO3.leases (Nat.le_trans hlen (by decide)) hO3.ln
      clear b0 b1 b2 f0 f1 f2
      obtain ⟨b0, b1, b2, f0, f1, f2⟩ := box_cells kB
      have HO4 := Lib.hid hO4; have KB := Lib.hid kB; have Hn3 := Lib.hid hnew3
      clear hO4 kB hnew3 hO3 hx3 hbq hc4 hz4 ho3 hlen
      generalize w3.setCell ⟨g, 4, none⟩ (.slice a3 q3.length c3) = w5 at *
      go_wp2_with (fail)
      have hsm : q3.map pur = (rmL s.nodes (bs e.path)).map pur := by rw [Hq3.out, rmL, List.map_map]; rfl
      refine bodyPost_ret (results_cell_row rfl _ _ w.heap.size _ _ _ _ rfl (set3_blk KB.out (.int .i64 0) (.int .i64 0) (.int .i64 0)) Tryz.underlying31 rfl (by kernel_rfl)) rfl ?_
      exact do_end (t := { s with nodes := q3, vn := .slice a3 q3.length c3 }) (by rw [HR'.out]) (by rw [HR'.out]) (by rw [HR'.out]; exact ⟨rfl, rfl, rfl, rfl, hsm, rfl⟩) HO4.out KB.out Hh.out.base.size Hn3.out
    refine AllReady.cons rfl (fun K hK => ?_) AllReady.nil
    go_simp
    refine hK _ _ ?_
    clear hK K
    refine wpAny_ready (rs := [4]) (by kernel_rfl) (by simp) ?_
    refine AllReady.cons rfl (fun K hK => ?_) AllReady.nil
    go_simp
    refine hK _ _ ?_
    clear hK K
    refine wpAny_ready (rs := [7]) (by kernel_rfl) (by simp) ?_
    refine AllReady.cons rfl (fun K hK => ?_) AllReady.nil
    go_simp
    (refine (Hrm.out _ (Below.refl _ _).drew).mono ?_; rintro e3' w3 hp; unfold ResX at hp; obtain ⟨⟨v3, q3, rfl, ho3, hq3⟩, hb3⟩ := hp; obtain ⟨a3, c3, rfl, -⟩ := own_slice ho3.own)
    have Hq3 := Lib.hid (hq3.trans (if_pos rfl))
    clear hq3
    have hc4 : w3.cell? ⟨g, 4, none⟩ = some (.slice an s.nodes.length cn) := (hb3.cell (p := ⟨g, 4, none⟩) (lt_of_block HW.out.blk)).trans d4
    have hz4 : w3.frozen? ⟨g, 4, none⟩ = false := (hb3.frozen (p := ⟨g, 4, none⟩) (lt_of_block HW.out.blk)).trans (free_of_blk HW.out.blk)
    refine hK _ _ ?_
    clear hK K
    refine wpAny_take (i := 8) (v := .slice a3 q3.length c3) rfl (by kernel_rfl) (by kernel_rfl) (by kernel_rfl) (fun _ _ _ h => h) (Or.inl ⟨by rfl, fun wz => by first | (go_simp; done) | rfl⟩) ?_
    refine wpAny_take (i := 9) (v := .int .i64 0) rfl (by kernel_rfl) (by kernel_rfl) (by kernel_rfl) (fun _ _ _ h => h) (Or.inl ⟨by rfl, fun wz => by first | (go_simp; done) | rfl⟩) ?_
    simp only [Act.put, List.setIfInBounds_toArray, List.set_cons_zero, List.set_cons_succ]
    refine wpAny_ready (rs := [10]) (by kernel_rfl) (by simp) ?_
    refine AllReady.cons rfl (fun K hK => ?_) AllReady.nil
    go_simp
    (refine (nodes_yes _ _ _ _ _ _ hc4 hz4).mono ?_; rintro e4 w4 ⟨rfl, rfl⟩)
    refine hK _ _ ?_
    clear hK K
    refine wpAny_done (by kernel_rfl) ?_ _
    have hbq : Below w1.heap.size w1 w3 := ⟨hb3.os, hb3.tape, hb3.output, hb3.size, hb3.block⟩
    have hO3 := HW.out.below hbq
    have hx3 : OwnX w0 w3 (.slice a3 q3.length c3) q3 := ho3.up HW.out.base.size
    have hnew3 : ∀ x ∈ q3, x.bv.ownBlock ≠ some w.heap.size := fun x hx h => by have h1 := (ho3.bl x hx).new _ h; have h2 := Hz1.out; have h3 : w1.heap.size ≤ w.heap.size := h1; omega
    have kB := (heap_setCell_other w3 ⟨g, 4, none⟩ w.heap.size (.slice a3 q3.length c3) (fun h => by have h1 := Hlt.out.1; have h2 : w.heap.size = g := h; omega)).trans ((hbq.block _ (lt_of_block K0.out)).trans K0.out)
    have hlen : q3.length ≤ 60 := by
      have h1 := congrArg List.length Hq3.out
      have h2 := (rem_less HE.out.symm).1
      have h3 := Hs.out.tree.len
      rw [List.length_map] at h1
      omega
    have hO4 := WkO.poke (s' := { s with nodes := q3, vn := .slice a3 q3.length c3 }) (j := 4) (u := .slice a3 q3.length c3) hO3 rfl hx3 hO3.leases (Nat.le_trans hlen (by decide)) hO3.ln
    clear b0 b1 b2 f0 f1 f2
    obtain ⟨b0, b1, b2, f0, f1, f2⟩ := box_cells kB
    have HO4 := Lib.hid hO4; have KB := Lib.hid kB; have Hn3 := Lib.hid hnew3
    clear hO4 kB hnew3 hO3 hx3 hbq hc4 hz4 ho3 hlen
    generalize w3.setCell ⟨g, 4, none⟩ (.slice a3 q3.length c3) = w5 at *
    go_wp2_with (fail)
    have hsm : q3.map pur = (rmL s.nodes (bs e.path)).map pur := by rw [Hq3.out, rmL, List.map_map]; rfl
    refine bodyPost_ret (results_cell_row rfl _ _ w.heap.size _ _ _ _ rfl (set3_blk KB.out (.int .i64 0) (.int .i64 0) (.int .i64 0)) Tryz.underlying31 rfl (by kernel_rfl)) rfl ?_
    exact do_end (t := { s with nodes := q3, vn := .slice a3 q3.length c3 }) (by rw [HR'.out]) (by rw [HR'.out]) (by rw [HR'.out]; exact ⟨rfl, rfl, rfl, rfl, hsm, rfl⟩) HO4.out KB.out Hh.out.base.size Hn3.out
end Go.Proofs.YtdfckkadmgmcaaaGreatDoor.Space

/- Edits of spaces: (*work).do, kind by kind (printed by gen_zn.py): Rename. -/
namespace Go.Proofs.YtdfckkadmgmcaaaGreatDoor.Space
open Go.RowKit
open Path (Bs bs mk bs_mk mk_bs tl_bs MaxC splitE splitL parD)
open Tree
open Quota (overL cntT roomT)
set_option linter.unusedSimpArgs false
set_option linter.unusedVariables false
set_option maxRecDepth 100000 in
set_option maxHeartbeats 8000000 in
theorem do_mov (w0 w : World) (g : Nat) (s : Sp) (e : Ed) (h : WkO w0 w g s e) (hA : Apart s.nodes) (hM : MaxC w0) (hs : RightS s) (he : EdOk e) (hk : e.kind = 4) :
    Calls Tryz.prog 48 #[.pointer (some ⟨g, 0, none⟩)] w (DoP w0 g (doE s e) e) := by
  obtain ⟨c0, c1, c2, c3, c4, c5, c6, c7, c8, c9, c10, c11, c12⟩ := wkc h.rd
  obtain ⟨al, cl, hlv, -, -⟩ := Lease.rd_cellsI h.rd.len
  obtain ⟨an, cn, hvn, -⟩ := rd_cellsN h.rd.sp.n.rd
  rw [hlv] at c12
  obtain ⟨R, hR0⟩ : ∃ R, R = doE s e := ⟨_, rfl⟩
  rw [← hR0]
  rw [doE, if_neg (by omega), if_neg (by omega), if_pos hk] at hR0
  have HR := Lib.hid hR0
  have Hh := Lib.hid h; have HA := Lib.hid hA; have Hk := Lib.hid hk; have Hlv := Lib.hid hlv; have Hvn := Lib.hid hvn; have HM := Lib.hid hM; have Hs := Lib.hid hs; have He := Lib.hid he
  clear hR0 h hA hk hlv hvn hM hs he
  go_enter Tryz.func48, Tryz.ntmps48
  go_wp2_with (fail)
  go_region_held3 (fun w' => w'.cell? ⟨g, 6, none⟩ = some (.int .i64 e.kind) ∧ w'.cell? ⟨g, 7, none⟩ = some (.string e.path) ∧ w'.cell? ⟨g, 8, none⟩ = some (.string e.dst) ∧ w'.cell? ⟨g, 9, none⟩ = some (.int .i64 e.client) ∧ w'.cell? ⟨g, 10, none⟩ = some (.int .i64 e.call) ∧ w'.cell? ⟨g, 11, none⟩ = some (.int .i64 e.n) ∧ w'.cell? ⟨g, 12, none⟩ = some (.slice al e.lens.length cl)) (go_keep) (fail)
  have hb1 : Below w.heap.size w (((w.alloc (.cells #[.int .i64 0, .int .i64 0, .int .i64 0] 31 (0, 0))).alloc (.cells #[.int .i64 e.kind, .string e.path, .string e.dst, .int .i64 e.client, .int .i64 e.call, .int .i64 e.n, .slice al e.lens.length cl] 42 (0, 0))).drew) := (((Below.refl _ _).alloc (Nat.le_refl _) _).alloc (by simp) _).drew
  have hk0 : (((w.alloc (.cells #[.int .i64 0, .int .i64 0, .int .i64 0] 31 (0, 0))).alloc (.cells #[.int .i64 e.kind, .string e.path, .string e.dst, .int .i64 e.client, .int .i64 e.call, .int .i64 e.n, .slice al e.lens.length cl] 42 (0, 0))).drew).heap[w.heap.size]? = some (.cells #[.int .i64 0, .int .i64 0, .int .i64 0] 31 (0, 0)) := (heap_alloc_old _ _ (by simp)).trans (heap_alloc_new _ _)
  have hk1 : (((w.alloc (.cells #[.int .i64 0, .int .i64 0, .int .i64 0] 31 (0, 0))).alloc (.cells #[.int .i64 e.kind, .string e.path, .string e.dst, .int .i64 e.client, .int .i64 e.call, .int .i64 e.n, .slice al e.lens.length cl] 42 (0, 0))).drew).heap[w.heap.size + 1]? = some (.cells #[.int .i64 e.kind, .string e.path, .string e.dst, .int .i64 e.client, .int .i64 e.call, .int .i64 e.n, .slice al e.lens.length cl] 42 (0, 0)) := by
    have h1 := heap_alloc_new (w.alloc (.cells #[.int .i64 0, .int .i64 0, .int .i64 0] 31 (0, 0))) (.cells #[.int .i64 e.kind, .string e.path, .string e.dst, .int .i64 e.client, .int .i64 e.call, .int .i64 e.n, .slice al e.lens.length cl] 42 (0, 0))
    have h2 : (w.alloc (.cells #[.int .i64 0, .int .i64 0, .int .i64 0] 31 (0, 0))).heap.size = w.heap.size + 1 := by simp
    rw [h2] at h1; exact h1
  have hz1 : (((w.alloc (.cells #[.int .i64 0, .int .i64 0, .int .i64 0] 31 (0, 0))).alloc (.cells #[.int .i64 e.kind, .string e.path, .string e.dst, .int .i64 e.client, .int .i64 e.call, .int .i64 e.n, .slice al e.lens.length cl] 42 (0, 0))).drew).heap.size = w.heap.size + 2 := by simp
  clear c0 c1 c2 c3 c4 c5 c6 c7 c8 c9 c10 c11 c12
  generalize ((w.alloc (.cells #[.int .i64 0, .int .i64 0, .int .i64 0] 31 (0, 0))).alloc (.cells #[.int .i64 e.kind, .string e.path, .string e.dst, .int .i64 e.client, .int .i64 e.call, .int .i64 e.n, .slice al e.lens.length cl] 42 (0, 0))).drew = w1 at *
  have hW := Hh.out.below hb1
  obtain ⟨e0, e1, e2, e3, e5⟩ := ed_cells hk1
  obtain ⟨d0, d1, d2, d3, d4, d5, -⟩ := wkc hW.rd
  rw [Hvn.out] at d4
  obtain ⟨b0, b1, b2, f0, f1, f2⟩ := box_cells hk0
  have hM1 := HM.out.below hW.base
  have hl1 := Hh.out.lt
  have HW := Lib.hid hW; have Hb1 := Lib.hid hb1; have K0 := Lib.hid hk0; have K1 := Lib.hid hk1; have Hz1 := Lib.hid hz1; have HM1 := Lib.hid hM1; have Hlt := Lib.hid hl1
  clear hW hb1 hk0 hk1 hz1 hM1 hl1
  have hrm := fun W (hW : Below w1.heap.size w1 W) => move_callsT W s.vn s.nodes e.path e.dst (HW.out.rd.sp.n.below hW) HW.out.nn (HM1.out.below hW)
  rw [Hvn.out] at hrm
  obtain ⟨E, hE⟩ : ∃ E, E = mvE s.nodes (bs e.path) (bs e.dst) := ⟨_, rfl⟩
  have hR := HR.out
  rw [← hE] at hrm hR
  have HE := Lib.hid hE; have Hrm := Lib.hid hrm; have HR' := Lib.hid hR
  clear hrm hE HR hR
  rw [Hk.out] at e0
  go_wp2_with (fail)
  by_cases hE0 : E ≠ 0
  · refine wp_region_any (by kernel_rfl) ?_
    change wpAny _ _ _ _ _ _ _ (World.drew _)
    refine wpAny_take (i := 0) (v := .pointer (some ⟨g, 0, none⟩)) rfl (by kernel_rfl) (by kernel_rfl) (by kernel_rfl) (fun _ _ _ h => h) (Or.inl ⟨by rfl, fun wz => by first | (go_simp; done) | rfl⟩) ?_
    refine wpAny_take (i := 1) (v := .pointer (some ⟨g, 0, none⟩)) rfl (by kernel_rfl) (by kernel_rfl) (by kernel_rfl) (fun _ _ _ h => h) (Or.inl ⟨by rfl, fun wz => by first | (go_simp; done) | rfl⟩) ?_
    refine wpAny_take (i := 2) (v := .pointer (some ⟨g, 0, none⟩)) rfl (by kernel_rfl) (by kernel_rfl) (by kernel_rfl) (fun _ _ _ h => h) (Or.inl ⟨by rfl, fun wz => by first | (go_simp; done) | rfl⟩) ?_
    refine wpAny_take (i := 3) (v := .pointer (some ⟨g, 4, none⟩)) rfl (by kernel_rfl) (by kernel_rfl) (by kernel_rfl) (fun _ _ _ h => h) (Or.inl ⟨by rfl, fun wz => by first | (go_simp; done) | rfl⟩) ?_
    refine wpAny_take (i := 5) (v := .pointer (some ⟨w.heap.size + 1, 1, none⟩)) rfl (by kernel_rfl) (by kernel_rfl) (by kernel_rfl) (fun _ _ _ h => h) (Or.inl ⟨by rfl, fun wz => by first | (go_simp; done) | rfl⟩) ?_
    refine wpAny_take (i := 7) (v := .pointer (some ⟨w.heap.size + 1, 2, none⟩)) rfl (by kernel_rfl) (by kernel_rfl) (by kernel_rfl) (fun _ _ _ h => h) (Or.inl ⟨by rfl, fun wz => by first | (go_simp; done) | rfl⟩) ?_
    simp only [Act.put, List.setIfInBounds_toArray, List.set_cons_zero, List.set_cons_succ]
    refine wpAny_ready (rs := [4, 6, 8]) (by kernel_rfl) (by simp) ?_
    refine AllReady.cons rfl (fun K hK => ?_) ?_
    · go_simp
      refine hK _ _ ?_
      clear hK K
      refine wpAny_ready (rs := [6, 8]) (by kernel_rfl) (by simp) ?_
      refine AllReady.cons rfl (fun K hK => ?_) ?_
      · go_simp
        refine hK _ _ ?_
        clear hK K
        refine wpAny_ready (rs := [8]) (by kernel_rfl) (by simp) ?_
        refine AllReady.cons rfl (fun K hK => ?_) AllReady.nil
        go_simp
        refine hK _ _ ?_
        clear hK K
        refine wpAny_ready (rs := [9]) (by kernel_rfl) (by simp) ?_
        refine AllReady.cons rfl (fun K hK => ?_) AllReady.nil
        go_simp
        (refine (Hrm.out _ (Below.refl _ _).drew).mono ?_; rintro e3' w3 hp; unfold ResX at hp; obtain ⟨⟨v3, q3, rfl, ho3, hq3⟩, hb3⟩ := hp; obtain ⟨a3, c3, rfl, -⟩ := own_slice ho3.own)
        refine hK _ _ ?_
        clear hK K
        refine wpAny_take (i := 10) (v := .slice a3 q3.length c3) rfl (by kernel_rfl) (by kernel_rfl) (by kernel_rfl) (fun _ _ _ h => h) (Or.inl ⟨by rfl, fun wz => by first | (go_simp; done) | rfl⟩) ?_
        refine wpAny_take (i := 11) (v := .int .i64 E) rfl (by kernel_rfl) (by kernel_rfl) (by kernel_rfl) (fun _ _ _ h => h) (Or.inl ⟨by rfl, fun wz => by first | (go_simp; done) | rfl⟩) ?_
        simp only [Act.put, List.setIfInBounds_toArray, List.set_cons_zero, List.set_cons_succ]
        refine wpAny_ready (rs := [12]) (by kernel_rfl) (by simp) ?_
        refine AllReady.cons rfl (fun K hK => ?_) AllReady.nil
        go_simp
        (refine (nodes_no _ _ _ _ hE0).mono ?_; rintro e4 w4 ⟨rfl, rfl⟩)
        exact ⟨rfl, do_bad (HR'.out.trans (if_pos hE0)) hE0 (HW.out.base.drew.trans (hb3.mono HW.out.base.size))⟩
      refine AllReady.cons rfl (fun K hK => ?_) AllReady.nil
      go_simp
      refine hK _ _ ?_
      clear hK K
      refine wpAny_ready (rs := [6]) (by kernel_rfl) (by simp) ?_
      refine AllReady.cons rfl (fun K hK => ?_) AllReady.nil
      go_simp
      refine hK _ _ ?_
      clear hK K
      refine wpAny_ready (rs := [9]) (by kernel_rfl) (by simp) ?_
      refine AllReady.cons rfl (fun K hK => ?_) AllReady.nil
      go_simp
      (refine (Hrm.out _ (Below.refl _ _).drew).mono ?_; rintro e3' w3 hp; unfold ResX at hp; obtain ⟨⟨v3, q3, rfl, ho3, hq3⟩, hb3⟩ := hp; obtain ⟨a3, c3, rfl, -⟩ := own_slice ho3.own)
      refine hK _ _ ?_
      clear hK K
      refine wpAny_take (i := 10) (v := .slice a3 q3.length c3) rfl (by kernel_rfl) (by kernel_rfl) (by kernel_rfl) (fun _ _ _ h => h) (Or.inl ⟨by rfl, fun wz => by first | (go_simp; done) | rfl⟩) ?_
      refine wpAny_take (i := 11) (v := .int .i64 E) rfl (by kernel_rfl) (by kernel_rfl) (by kernel_rfl) (fun _ _ _ h => h) (Or.inl ⟨by rfl, fun wz => by first | (go_simp; done) | rfl⟩) ?_
      simp only [Act.put, List.setIfInBounds_toArray, List.set_cons_zero, List.set_cons_succ]
      refine wpAny_ready (rs := [12]) (by kernel_rfl) (by simp) ?_
      refine AllReady.cons rfl (fun K hK => ?_) AllReady.nil
      go_simp
      (refine (nodes_no _ _ _ _ hE0).mono ?_; rintro e4 w4 ⟨rfl, rfl⟩)
      exact ⟨rfl, do_bad (HR'.out.trans (if_pos hE0)) hE0 (HW.out.base.drew.trans (hb3.mono HW.out.base.size))⟩
    refine AllReady.cons rfl (fun K hK => ?_) ?_
    · go_simp
      refine hK _ _ ?_
      clear hK K
      refine wpAny_ready (rs := [4, 8]) (by kernel_rfl) (by simp) ?_
      refine AllReady.cons rfl (fun K hK => ?_) ?_
      · go_simp
        refine hK _ _ ?_
        clear hK K
        refine wpAny_ready (rs := [8]) (by kernel_rfl) (by simp) ?_
        refine AllReady.cons rfl (fun K hK => ?_) AllReady.nil
        go_simp
        refine hK _ _ ?_
        clear hK K
        refine wpAny_ready (rs := [9]) (by kernel_rfl) (by simp) ?_
        refine AllReady.cons rfl (fun K hK => ?_) AllReady.nil
        go_simp
        (refine (Hrm.out _ (Below.refl _ _).drew).mono ?_; rintro e3' w3 hp; unfold ResX at hp; obtain ⟨⟨v3, q3, rfl, ho3, hq3⟩, hb3⟩ := hp; obtain ⟨a3, c3, rfl, -⟩ := own_slice ho3.own)
        refine hK _ _ ?_
        clear hK K
        refine wpAny_take (i := 10) (v := .slice a3 q3.length c3) rfl (by kernel_rfl) (by kernel_rfl) (by kernel_rfl) (fun _ _ _ h => h) (Or.inl ⟨by rfl, fun wz => by first | (go_simp; done) | rfl⟩) ?_
        refine wpAny_take (i := 11) (v := .int .i64 E) rfl (by kernel_rfl) (by kernel_rfl) (by kernel_rfl) (fun _ _ _ h => h) (Or.inl ⟨by rfl, fun wz => by first | (go_simp; done) | rfl⟩) ?_
        simp only [Act.put, List.setIfInBounds_toArray, List.set_cons_zero, List.set_cons_succ]
        refine wpAny_ready (rs := [12]) (by kernel_rfl) (by simp) ?_
        refine AllReady.cons rfl (fun K hK => ?_) AllReady.nil
        go_simp
        (refine (nodes_no _ _ _ _ hE0).mono ?_; rintro e4 w4 ⟨rfl, rfl⟩)
        exact ⟨rfl, do_bad (HR'.out.trans (if_pos hE0)) hE0 (HW.out.base.drew.trans (hb3.mono HW.out.base.size))⟩
      refine AllReady.cons rfl (fun K hK => ?_) AllReady.nil
      go_simp
      refine hK _ _ ?_
      clear hK K
      refine wpAny_ready (rs := [4]) (by kernel_rfl) (by simp) ?_
      refine AllReady.cons rfl (fun K hK => ?_) AllReady.nil
      go_simp
      refine hK _ _ ?_
      clear hK K
      refine wpAny_ready (rs := [9]) (by kernel_rfl) (by simp) ?_
      refine AllReady.cons rfl (fun K hK => ?_) AllReady.nil
      go_simp
      (refine (Hrm.out _ (Below.refl _ _).drew).mono ?_; rintro e3' w3 hp; unfold ResX at hp; obtain ⟨⟨v3, q3, rfl, ho3, hq3⟩, hb3⟩ := hp; obtain ⟨a3, c3, rfl, -⟩ := own_slice ho3.own)
      refine hK _ _ ?_
      clear hK K
      refine wpAny_take (i := 10) (v := .slice a3 q3.length c3) rfl (by kernel_rfl) (by kernel_rfl) (by kernel_rfl) (fun _ _ _ h => h) (Or.inl ⟨by rfl, fun wz => by first | (go_simp; done) | rfl⟩) ?_
      refine wpAny_take (i := 11) (v := .int .i64 E) rfl (by kernel_rfl) (by kernel_rfl) (by kernel_rfl) (fun _ _ _ h => h) (Or.inl ⟨by rfl, fun wz => by first | (go_simp; done) | rfl⟩) ?_
      simp only [Act.put, List.setIfInBounds_toArray, List.set_cons_zero, List.set_cons_succ]
      refine wpAny_ready (rs := [12]) (by kernel_rfl) (by simp) ?_
      refine AllReady.cons rfl (fun K hK => ?_) AllReady.nil
      go_simp
      (refine (nodes_no _ _ _ _ hE0).mono ?_; rintro e4 w4 ⟨rfl, rfl⟩)
      exact ⟨rfl, do_bad (HR'.out.trans (if_pos hE0)) hE0 (HW.out.base.drew.trans (hb3.mono HW.out.base.size))⟩
    refine AllReady.cons rfl (fun K hK => ?_) AllReady.nil
    go_simp
    refine hK _ _ ?_
    clear hK K
    refine wpAny_ready (rs := [4, 6]) (by kernel_rfl) (by simp) ?_
    refine AllReady.cons rfl (fun K hK => ?_) ?_
    · go_simp
      refine hK _ _ ?_
      clear hK K
      refine wpAny_ready (rs := [6]) (by kernel_rfl) (by simp) ?_
      refine AllReady.cons rfl (fun K hK => ?_) AllReady.nil
      go_simp
      refine hK _ _ ?_
      clear hK K
      refine wpAny_ready (rs := [9]) (by kernel_rfl) (by simp) ?_
      refine AllReady.cons rfl (fun K hK => ?_) AllReady.nil
      go_simp
      (refine (Hrm.out _ (Below.refl _ _).drew).mono ?_; rintro e3' w3 hp; unfold ResX at hp; obtain ⟨⟨v3, q3, rfl, ho3, hq3⟩, hb3⟩ := hp; obtain ⟨a3, c3, rfl, -⟩ := own_slice ho3.own)
      refine hK _ _ ?_
      clear hK K
      refine wpAny_take (i := 10) (v := .slice a3 q3.length c3) rfl (by kernel_rfl) (by kernel_rfl) (by kernel_rfl) (fun _ _ _ h => h) (Or.inl ⟨by rfl, fun wz => by first | (go_simp; done) | rfl⟩) ?_
      refine wpAny_take (i := 11) (v := .int .i64 E) rfl (by kernel_rfl) (by kernel_rfl) (by kernel_rfl) (fun _ _ _ h => h) (Or.inl ⟨by rfl, fun wz => by first | (go_simp; done) | rfl⟩) ?_
      simp only [Act.put, List.setIfInBounds_toArray, List.set_cons_zero, List.set_cons_succ]
      refine wpAny_ready (rs := [12]) (by kernel_rfl) (by simp) ?_
      refine AllReady.cons rfl (fun K hK => ?_) AllReady.nil
      go_simp
      (refine (nodes_no _ _ _ _ hE0).mono ?_; rintro e4 w4 ⟨rfl, rfl⟩)
      exact ⟨rfl, do_bad (HR'.out.trans (if_pos hE0)) hE0 (HW.out.base.drew.trans (hb3.mono HW.out.base.size))⟩
    refine AllReady.cons rfl (fun K hK => ?_) AllReady.nil
    go_simp
    refine hK _ _ ?_
    clear hK K
    refine wpAny_ready (rs := [4]) (by kernel_rfl) (by simp) ?_
    refine AllReady.cons rfl (fun K hK => ?_) AllReady.nil
    go_simp
    refine hK _ _ ?_
    clear hK K
    refine wpAny_ready (rs := [9]) (by kernel_rfl) (by simp) ?_
    refine AllReady.cons rfl (fun K hK => ?_) AllReady.nil
    go_simp
    (refine (Hrm.out _ (Below.refl _ _).drew).mono ?_; rintro e3' w3 hp; unfold ResX at hp; obtain ⟨⟨v3, q3, rfl, ho3, hq3⟩, hb3⟩ := hp; obtain ⟨a3, c3, rfl, -⟩ := own_slice ho3.own)
    refine hK _ _ ?_
    clear hK K
    refine wpAny_take (i := 10) (v := .slice a3 q3.length c3) rfl (by kernel_rfl) (by kernel_rfl) (by kernel_rfl) (fun _ _ _ h => h) (Or.inl ⟨by rfl, fun wz => by first | (go_simp; done) | rfl⟩) ?_
    refine wpAny_take (i := 11) (v := .int .i64 E) rfl (by kernel_rfl) (by kernel_rfl) (by kernel_rfl) (fun _ _ _ h => h) (Or.inl ⟨by rfl, fun wz => by first | (go_simp; done) | rfl⟩) ?_
    simp only [Act.put, List.setIfInBounds_toArray, List.set_cons_zero, List.set_cons_succ]
    refine wpAny_ready (rs := [12]) (by kernel_rfl) (by simp) ?_
    refine AllReady.cons rfl (fun K hK => ?_) AllReady.nil
    go_simp
    (refine (nodes_no _ _ _ _ hE0).mono ?_; rintro e4 w4 ⟨rfl, rfl⟩)
    exact ⟨rfl, do_bad (HR'.out.trans (if_pos hE0)) hE0 (HW.out.base.drew.trans (hb3.mono HW.out.base.size))⟩
  · obtain rfl : E = 0 := Classical.not_not.1 hE0
    have HR' := Lib.hid (HR'.out.trans (if_neg (by simp)))
    go_cut [] (fun wx => ∃ W, W = wx ∧ ∃ q3 a3 c3, WkO w0 W g { s with nodes := q3, vn := .slice a3 q3.length c3 } e ∧ W.heap[w.heap.size]? = some (.cells #[.int .i64 0, .int .i64 0, .int .i64 0] 31 (0, 0)) ∧ (∀ x ∈ q3, x.bv.ownBlock ≠ some w.heap.size) ∧ q3.map pur = mvL s.nodes (bs e.path) (bs e.dst) ∧ q3.length ≤ 60)
    case first =>
      refine wp_region_any (by kernel_rfl) ?_
      change wpAny _ _ _ _ _ _ _ (World.drew _)
      refine wpAny_take (i := 0) (v := .pointer (some ⟨g, 0, none⟩)) rfl (by kernel_rfl) (by kernel_rfl) (by kernel_rfl) (fun _ _ _ h => h) (Or.inl ⟨by rfl, fun wz => by first | (go_simp; done) | rfl⟩) ?_
      refine wpAny_take (i := 1) (v := .pointer (some ⟨g, 0, none⟩)) rfl (by kernel_rfl) (by kernel_rfl) (by kernel_rfl) (fun _ _ _ h => h) (Or.inl ⟨by rfl, fun wz => by first | (go_simp; done) | rfl⟩) ?_
      refine wpAny_take (i := 2) (v := .pointer (some ⟨g, 0, none⟩)) rfl (by kernel_rfl) (by kernel_rfl) (by kernel_rfl) (fun _ _ _ h => h) (Or.inl ⟨by rfl, fun wz => by first | (go_simp; done) | rfl⟩) ?_
      refine wpAny_take (i := 3) (v := .pointer (some ⟨g, 4, none⟩)) rfl (by kernel_rfl) (by kernel_rfl) (by kernel_rfl) (fun _ _ _ h => h) (Or.inl ⟨by rfl, fun wz => by first | (go_simp; done) | rfl⟩) ?_
      refine wpAny_take (i := 5) (v := .pointer (some ⟨w.heap.size + 1, 1, none⟩)) rfl (by kernel_rfl) (by kernel_rfl) (by kernel_rfl) (fun _ _ _ h => h) (Or.inl ⟨by rfl, fun wz => by first | (go_simp; done) | rfl⟩) ?_
      refine wpAny_take (i := 7) (v := .pointer (some ⟨w.heap.size + 1, 2, none⟩)) rfl (by kernel_rfl) (by kernel_rfl) (by kernel_rfl) (fun _ _ _ h => h) (Or.inl ⟨by rfl, fun wz => by first | (go_simp; done) | rfl⟩) ?_
      simp only [Act.put, List.setIfInBounds_toArray, List.set_cons_zero, List.set_cons_succ]
      refine wpAny_ready (rs := [4, 6, 8]) (by kernel_rfl) (by simp) ?_
      refine AllReady.cons rfl (fun K hK => ?_) ?_
      · go_simp
        refine hK _ _ ?_
        clear hK K
        refine wpAny_ready (rs := [6, 8]) (by kernel_rfl) (by simp) ?_
        refine AllReady.cons rfl (fun K hK => ?_) ?_
        · go_simp
          refine hK _ _ ?_
          clear hK K
          refine wpAny_ready (rs := [8]) (by kernel_rfl) (by simp) ?_
          refine AllReady.cons rfl (fun K hK => ?_) AllReady.nil
          go_simp
          refine hK _ _ ?_
          clear hK K
          refine wpAny_ready (rs := [9]) (by kernel_rfl) (by simp) ?_
          refine AllReady.cons rfl (fun K hK => ?_) AllReady.nil
          go_simp
          (refine (Hrm.out _ (Below.refl _ _).drew).mono ?_; rintro e3' w3 hp; unfold ResX at hp; obtain ⟨⟨v3, q3, rfl, ho3, hq3⟩, hb3⟩ := hp; obtain ⟨a3, c3, rfl, -⟩ := own_slice ho3.own)
          have hq4 := hq3.trans (if_pos rfl)
          clear hq3
          have hc4 : w3.cell? ⟨g, 4, none⟩ = some (.slice an s.nodes.length cn) := (hb3.cell (p := ⟨g, 4, none⟩) (lt_of_block HW.out.blk)).trans d4
          have hz4 : w3.frozen? ⟨g, 4, none⟩ = false := (hb3.frozen (p := ⟨g, 4, none⟩) (lt_of_block HW.out.blk)).trans (free_of_blk HW.out.blk)
          have Hq4 := Lib.hid hq4; clear hq4
          refine hK _ _ ?_
          clear hK K
          refine wpAny_take (i := 10) (v := .slice a3 q3.length c3) rfl (by kernel_rfl) (by kernel_rfl) (by kernel_rfl) (fun _ _ _ h => h) (Or.inl ⟨by rfl, fun wz => by first | (go_simp; done) | rfl⟩) ?_
          refine wpAny_take (i := 11) (v := .int .i64 0) rfl (by kernel_rfl) (by kernel_rfl) (by kernel_rfl) (fun _ _ _ h => h) (Or.inl ⟨by rfl, fun wz => by first | (go_simp; done) | rfl⟩) ?_
          simp only [Act.put, List.setIfInBounds_toArray, List.set_cons_zero, List.set_cons_succ]
          refine wpAny_ready (rs := [12]) (by kernel_rfl) (by simp) ?_
          refine AllReady.cons rfl (fun K hK => ?_) AllReady.nil
          go_simp
          (refine (nodes_yes _ _ _ _ _ _ hc4 hz4).mono ?_; rintro e4 w4 ⟨rfl, rfl⟩)
          refine hK _ _ ?_
          clear hK K
          refine wpAny_done (by kernel_rfl) ?_ _
          have hbq : Below w1.heap.size w1 w3 := ⟨hb3.os, hb3.tape, hb3.output, hb3.size, hb3.block⟩
          have hO3 := HW.out.below hbq
          have hx3 : OwnX w0 w3 (.slice a3 q3.length c3) q3 := ho3.up HW.out.base.size
          have hnew3 : ∀ x ∈ q3, x.bv.ownBlock ≠ some w.heap.size := fun x hx h => by have h1 := (ho3.bl x hx).new _ h; have h2 := Hz1.out; have h3 : w1.heap.size ≤ w.heap.size := h1; omega
          have kB := (heap_setCell_other w3 ⟨g, 4, none⟩ w.heap.size (.slice a3 q3.length c3) (fun h => by have h1 := Hlt.out.1; have h2 : w.heap.size = g := h; omega)).trans ((hbq.block _ (lt_of_block K0.out)).trans K0.out)
          have hlen : q3.length ≤ 60 := by
            have h1 := congrArg List.length Hq4.out
            have h2 := (move_less HE.out.symm).1
            have h3 := Hs.out.tree.len
            rw [List.length_map] at h1
            omega
          have hO4 := WkO.poke (s' := { s with nodes := q3, vn := .slice a3 q3.length c3 }) (j := 4) (u := .slice a3 q3.length c3) hO3 rfl hx3 hO3.leases (Nat.le_trans hlen (by decide)) hO3.ln
          have HO4 := Lib.hid hO4; have KB := Lib.hid kB; have Hn3 := Lib.hid hnew3; have Hlen := Lib.hid hlen
          clear hO4 kB hnew3 hO3 hx3 hbq hc4 hz4 ho3 hlen
          go_wp2_with (fail)
          go_meet
          exact ⟨_, rfl, q3, a3, c3, HO4.out, KB.out, Hn3.out, Hq4.out, Hlen.out⟩
        refine AllReady.cons rfl (fun K hK => ?_) AllReady.nil
        go_simp
        refine hK _ _ ?_
        clear hK K
        refine wpAny_ready (rs := [6]) (by kernel_rfl) (by simp) ?_
        refine AllReady.cons rfl (fun K hK => ?_) AllReady.nil
        go_simp
        refine hK _ _ ?_
        clear hK K
        refine wpAny_ready (rs := [9]) (by kernel_rfl) (by simp) ?_
        refine AllReady.cons rfl (fun K hK => ?_) AllReady.nil
        go_simp
        (refine (Hrm.out _ (Below.refl _ _).drew).mono ?_; rintro e3' w3 hp; unfold ResX at hp; obtain ⟨⟨v3, q3, rfl, ho3, hq3⟩, hb3⟩ := hp; obtain ⟨a3, c3, rfl, -⟩ := own_slice ho3.own)
        have hq4 := hq3.trans (if_pos rfl)
        clear hq3
        have hc4 : w3.cell? ⟨g, 4, none⟩ = some (.slice an s.nodes.length cn) := (hb3.cell (p := ⟨g, 4, none⟩) (lt_of_block HW.out.blk)).trans d4
        have hz4 : w3.frozen? ⟨g, 4, none⟩ = false := (hb3.frozen (p := ⟨g, 4, none⟩) (lt_of_block HW.out.blk)).trans (free_of_blk HW.out.blk)
        have Hq4 := Lib.hid hq4; clear hq4
        refine hK _ _ ?_
        clear hK K
        refine wpAny_take (i := 10) (v := .slice a3 q3.length c3) rfl (by kernel_rfl) (by kernel_rfl) (by kernel_rfl) (fun _ _ _ h => h) (Or.inl ⟨by rfl, fun wz => by first | (go_simp; done) | rfl⟩) ?_
        refine wpAny_take (i := 11) (v := .int .i64 0) rfl (by kernel_rfl) (by kernel_rfl) (by kernel_rfl) (fun _ _ _ h => h) (Or.inl ⟨by rfl, fun wz => by first | (go_simp; done) | rfl⟩) ?_
        simp only [Act.put, List.setIfInBounds_toArray, List.set_cons_zero, List.set_cons_succ]
        refine wpAny_ready (rs := [12]) (by kernel_rfl) (by simp) ?_
        refine AllReady.cons rfl (fun K hK => ?_) AllReady.nil
        go_simp
        (refine (nodes_yes _ _ _ _ _ _ hc4 hz4).mono ?_; rintro e4 w4 ⟨rfl, rfl⟩)
        refine hK _ _ ?_
        clear hK K
        refine wpAny_done (by kernel_rfl) ?_ _
        have hbq : Below w1.heap.size w1 w3 := ⟨hb3.os, hb3.tape, hb3.output, hb3.size, hb3.block⟩
        have hO3 := HW.out.below hbq
        have hx3 : OwnX w0 w3 (.slice a3 q3.length c3) q3 := ho3.up HW.out.base.size
        have hnew3 : ∀ x ∈ q3, x.bv.ownBlock ≠ some w.heap.size := fun x hx h => by have h1 := (ho3.bl x hx).new _ h; have h2 := Hz1.out; have h3 : w1.heap.size ≤ w.heap.size := h1; omega
        have kB := (heap_setCell_other w3 ⟨g, 4, none⟩ w.heap.size (.slice a3 q3.length c3) (fun h => by have h1 := Hlt.out.1; have h2 : w.heap.size = g := h; omega)).trans ((hbq.block _ (lt_of_block K0.out)).trans K0.out)
        have hlen : q3.length ≤ 60 := by
          have h1 := congrArg List.length Hq4.out
          have h2 := (move_less HE.out.symm).1
          have h3 := Hs.out.tree.len
          rw [List.length_map] at h1
          omega
        have hO4 := WkO.poke (s' := { s with nodes := q3, vn := .slice a3 q3.length c3 }) (j := 4) (u := .slice a3 q3.length c3) hO3 rfl hx3 hO3.leases (Nat.le_trans hlen (by decide)) hO3.ln
        have HO4 := Lib.hid hO4; have KB := Lib.hid kB; have Hn3 := Lib.hid hnew3; have Hlen := Lib.hid hlen
        clear hO4 kB hnew3 hO3 hx3 hbq hc4 hz4 ho3 hlen
        go_wp2_with (fail)
        go_meet
        exact ⟨_, rfl, q3, a3, c3, HO4.out, KB.out, Hn3.out, Hq4.out, Hlen.out⟩
      refine AllReady.cons rfl (fun K hK => ?_) ?_
      · go_simp
        refine hK _ _ ?_
        clear hK K
        refine wpAny_ready (rs := [4, 8]) (by kernel_rfl) (by simp) ?_
        refine AllReady.cons rfl (fun K hK => ?_) ?_
        · go_simp
          refine hK _ _ ?_
          clear hK K
          refine wpAny_ready (rs := [8]) (by kernel_rfl) (by simp) ?_
          refine AllReady.cons rfl (fun K hK => ?_) AllReady.nil
          go_simp
          refine hK _ _ ?_
          clear hK K
          refine wpAny_ready (rs := [9]) (by kernel_rfl) (by simp) ?_
          refine AllReady.cons rfl (fun K hK => ?_) AllReady.nil
          go_simp
          (refine (Hrm.out _ (Below.refl _ _).drew).mono ?_; rintro e3' w3 hp; unfold ResX at hp; obtain ⟨⟨v3, q3, rfl, ho3, hq3⟩, hb3⟩ := hp; obtain ⟨a3, c3, rfl, -⟩ := own_slice ho3.own)
          have hq4 := hq3.trans (if_pos rfl)
          clear hq3
          have hc4 : w3.cell? ⟨g, 4, none⟩ = some (.slice an s.nodes.length cn) := (hb3.cell (p := ⟨g, 4, none⟩) (lt_of_block HW.out.blk)).trans d4
          have hz4 : w3.frozen? ⟨g, 4, none⟩ = false := (hb3.frozen (p := ⟨g, 4, none⟩) (lt_of_block HW.out.blk)).trans (free_of_blk HW.out.blk)
          have Hq4 := Lib.hid hq4; clear hq4
          refine hK _ _ ?_
          clear hK K
          refine wpAny_take (i := 10) (v := .slice a3 q3.length c3) rfl (by kernel_rfl) (by kernel_rfl) (by kernel_rfl) (fun _ _ _ h => h) (Or.inl ⟨by rfl, fun wz => by first | (go_simp; done) | rfl⟩) ?_
          refine wpAny_take (i := 11) (v := .int .i64 0) rfl (by kernel_rfl) (by kernel_rfl) (by kernel_rfl) (fun _ _ _ h => h) (Or.inl ⟨by rfl, fun wz => by first | (go_simp; done) | rfl⟩) ?_
          simp only [Act.put, List.setIfInBounds_toArray, List.set_cons_zero, List.set_cons_succ]
          refine wpAny_ready (rs := [12]) (by kernel_rfl) (by simp) ?_
          refine AllReady.cons rfl (fun K hK => ?_) AllReady.nil
          go_simp
          (refine (nodes_yes _ _ _ _ _ _ hc4 hz4).mono ?_; rintro e4 w4 ⟨rfl, rfl⟩)
          refine hK _ _ ?_
          clear hK K
          refine wpAny_done (by kernel_rfl) ?_ _
          have hbq : Below w1.heap.size w1 w3 := ⟨hb3.os, hb3.tape, hb3.output, hb3.size, hb3.block⟩
          have hO3 := HW.out.below hbq
          have hx3 : OwnX w0 w3 (.slice a3 q3.length c3) q3 := ho3.up HW.out.base.size
          have hnew3 : ∀ x ∈ q3, x.bv.ownBlock ≠ some w.heap.size := fun x hx h => by have h1 := (ho3.bl x hx).new _ h; have h2 := Hz1.out; have h3 : w1.heap.size ≤ w.heap.size := h1; omega
          have kB := (heap_setCell_other w3 ⟨g, 4, none⟩ w.heap.size (.slice a3 q3.length c3) (fun h => by have h1 := Hlt.out.1; have h2 : w.heap.size = g := h; omega)).trans ((hbq.block _ (lt_of_block K0.out)).trans K0.out)
          have hlen : q3.length ≤ 60 := by
            have h1 := congrArg List.length Hq4.out
            have h2 := (move_less HE.out.symm).1
            have h3 := Hs.out.tree.len
            rw [List.length_map] at h1
            omega
          have hO4 := WkO.poke (s' := { s with nodes := q3, vn := .slice a3 q3.length c3 }) (j := 4) (u := .slice a3 q3.length c3) hO3 rfl hx3 hO3.leases (Nat.le_trans hlen (by decide)) hO3.ln
          have HO4 := Lib.hid hO4; have KB := Lib.hid kB; have Hn3 := Lib.hid hnew3; have Hlen := Lib.hid hlen
          clear hO4 kB hnew3 hO3 hx3 hbq hc4 hz4 ho3 hlen
          go_wp2_with (fail)
          go_meet
          exact ⟨_, rfl, q3, a3, c3, HO4.out, KB.out, Hn3.out, Hq4.out, Hlen.out⟩
        refine AllReady.cons rfl (fun K hK => ?_) AllReady.nil
        go_simp
        refine hK _ _ ?_
        clear hK K
        refine wpAny_ready (rs := [4]) (by kernel_rfl) (by simp) ?_
        refine AllReady.cons rfl (fun K hK => ?_) AllReady.nil
        go_simp
        refine hK _ _ ?_
        clear hK K
        refine wpAny_ready (rs := [9]) (by kernel_rfl) (by simp) ?_
        refine AllReady.cons rfl (fun K hK => ?_) AllReady.nil
        go_simp
        (refine (Hrm.out _ (Below.refl _ _).drew).mono ?_; rintro e3' w3 hp; unfold ResX at hp; obtain ⟨⟨v3, q3, rfl, ho3, hq3⟩, hb3⟩ := hp; obtain ⟨a3, c3, rfl, -⟩ := own_slice ho3.own)
        have hq4 := hq3.trans (if_pos rfl)
        clear hq3
        have hc4 : w3.cell? ⟨g, 4, none⟩ = some (.slice an s.nodes.length cn) := (hb3.cell (p := ⟨g, 4, none⟩) (lt_of_block HW.out.blk)).trans d4
        have hz4 : w3.frozen? ⟨g, 4, none⟩ = false := (hb3.frozen (p := ⟨g, 4, none⟩) (lt_of_block HW.out.blk)).trans (free_of_blk HW.out.blk)
        have Hq4 := Lib.hid hq4; clear hq4
        refine hK _ _ ?_
        clear hK K
        refine wpAny_take (i := 10) (v := .slice a3 q3.length c3) rfl (by kernel_rfl) (by kernel_rfl) (by kernel_rfl) (fun _ _ _ h => h) (Or.inl ⟨by rfl, fun wz => by first | (go_simp; done) | rfl⟩) ?_
        refine wpAny_take (i := 11) (v := .int .i64 0) rfl (by kernel_rfl) (by kernel_rfl) (by kernel_rfl) (fun _ _ _ h => h) (Or.inl ⟨by rfl, fun wz => by first | (go_simp; done) | rfl⟩) ?_
        simp only [Act.put, List.setIfInBounds_toArray, List.set_cons_zero, List.set_cons_succ]
        refine wpAny_ready (rs := [12]) (by kernel_rfl) (by simp) ?_
        refine AllReady.cons rfl (fun K hK => ?_) AllReady.nil
        go_simp
        (refine (nodes_yes _ _ _ _ _ _ hc4 hz4).mono ?_; rintro e4 w4 ⟨rfl, rfl⟩)
        refine hK _ _ ?_
        clear hK K
        refine wpAny_done (by kernel_rfl) ?_ _
        have hbq : Below w1.heap.size w1 w3 := ⟨hb3.os, hb3.tape, hb3.output, hb3.size, hb3.block⟩
        have hO3 := HW.out.below hbq
        have hx3 : OwnX w0 w3 (.slice a3 q3.length c3) q3 := ho3.up HW.out.base.size
        have hnew3 : ∀ x ∈ q3, x.bv.ownBlock ≠ some w.heap.size := fun x hx h => by have h1 := (ho3.bl x hx).new _ h; have h2 := Hz1.out; have h3 : w1.heap.size ≤ w.heap.size := h1; omega
        have kB := (heap_setCell_other w3 ⟨g, 4, none⟩ w.heap.size (.slice a3 q3.length c3) (fun h => by have h1 := Hlt.out.1; have h2 : w.heap.size = g := h; omega)).trans ((hbq.block _ (lt_of_block K0.out)).trans K0.out)
        have hlen : q3.length ≤ 60 := by
          have h1 := congrArg List.length Hq4.out
          have h2 := (move_less HE.out.symm).1
          have h3 := Hs.out.tree.len
          rw [List.length_map] at h1
          omega
        have hO4 := WkO.poke (s' := { s with nodes := q3, vn := .slice a3 q3.length c3 }) (j := 4) (u := .slice a3 q3.length c3) hO3 rfl hx3 hO3.leases (Nat.le_trans hlen (by decide)) hO3.ln
        have HO4 := Lib.hid hO4; have KB := Lib.hid kB; have Hn3 := Lib.hid hnew3; have Hlen := Lib.hid hlen
        clear hO4 kB hnew3 hO3 hx3 hbq hc4 hz4 ho3 hlen
        go_wp2_with (fail)
        go_meet
        exact ⟨_, rfl, q3, a3, c3, HO4.out, KB.out, Hn3.out, Hq4.out, Hlen.out⟩
      refine AllReady.cons rfl (fun K hK => ?_) AllReady.nil
      go_simp
      refine hK _ _ ?_
      clear hK K
      refine wpAny_ready (rs := [4, 6]) (by kernel_rfl) (by simp) ?_
      refine AllReady.cons rfl (fun K hK => ?_) ?_
      · go_simp
        refine hK _ _ ?_
        clear hK K
        refine wpAny_ready (rs := [6]) (by kernel_rfl) (by simp) ?_
        refine AllReady.cons rfl (fun K hK => ?_) AllReady.nil
        go_simp
        refine hK _ _ ?_
        clear hK K
        refine wpAny_ready (rs := [9]) (by kernel_rfl) (by simp) ?_
        refine AllReady.cons rfl (fun K hK => ?_) AllReady.nil
        go_simp
        (refine (Hrm.out _ (Below.refl _ _).drew).mono ?_; rintro e3' w3 hp; unfold ResX at hp; obtain ⟨⟨v3, q3, rfl, ho3, hq3⟩, hb3⟩ := hp; obtain ⟨a3, c3, rfl, -⟩ := own_slice ho3.own)
        have hq4 := hq3.trans (if_pos rfl)
        clear hq3
        have hc4 : w3.cell? ⟨g, 4, none⟩ = some (.slice an s.nodes.length cn) := (hb3.cell (p := ⟨g, 4, none⟩) (lt_of_block HW.out.blk)).trans d4
        have hz4 : w3.frozen? ⟨g, 4, none⟩ = false := (hb3.frozen (p := ⟨g, 4, none⟩) (lt_of_block HW.out.blk)).trans (free_of_blk HW.out.blk)
        have Hq4 := Lib.hid hq4; clear hq4
        refine hK _ _ ?_
        clear hK K
        refine wpAny_take (i := 10) (v := .slice a3 q3.length c3) rfl (by kernel_rfl) (by kernel_rfl) (by kernel_rfl) (fun _ _ _ h => h) (Or.inl ⟨by rfl, fun wz => by first | (go_simp; done) | rfl⟩) ?_
        refine wpAny_take (i := 11) (v := .int .i64 0) rfl (by kernel_rfl) (by kernel_rfl) (by kernel_rfl) (fun _ _ _ h => h) (Or.inl ⟨by rfl, fun wz => by first | (go_simp; done) | rfl⟩) ?_
        simp only [Act.put, List.setIfInBounds_toArray, List.set_cons_zero, List.set_cons_succ]
        refine wpAny_ready (rs := [12]) (by kernel_rfl) (by simp) ?_
        refine AllReady.cons rfl (fun K hK => ?_) AllReady.nil
        go_simp
        (refine (nodes_yes _ _ _ _ _ _ hc4 hz4).mono ?_; rintro e4 w4 ⟨rfl, rfl⟩)
        refine hK _ _ ?_
        clear hK K
        refine wpAny_done (by kernel_rfl) ?_ _
        have hbq : Below w1.heap.size w1 w3 := ⟨hb3.os, hb3.tape, hb3.output, hb3.size, hb3.block⟩
        have hO3 := HW.out.below hbq
        have hx3 : OwnX w0 w3 (.slice a3 q3.length c3) q3 := ho3.up HW.out.base.size
        have hnew3 : ∀ x ∈ q3, x.bv.ownBlock ≠ some w.heap.size := fun x hx h => by have h1 := (ho3.bl x hx).new _ h; have h2 := Hz1.out; have h3 : w1.heap.size ≤ w.heap.size := h1; omega
        have kB := (heap_setCell_other w3 ⟨g, 4, none⟩ w.heap.size (.slice a3 q3.length c3) (fun h => by have h1 := Hlt.out.1; have h2 : w.heap.size = g := h; omega)).trans ((hbq.block _ (lt_of_block K0.out)).trans K0.out)
        have hlen : q3.length ≤ 60 := by
          have h1 := congrArg List.length Hq4.out
          have h2 := (move_less HE.out.symm).1
          have h3 := Hs.out.tree.len
          rw [List.length_map] at h1
          omega
        have hO4 := WkO.poke (s' := { s with nodes := q3, vn := .slice a3 q3.length c3 }) (j := 4) (u := .slice a3 q3.length c3) hO3 rfl hx3 hO3.leases (Nat.le_trans hlen (by decide)) hO3.ln
        have HO4 := Lib.hid hO4; have KB := Lib.hid kB; have Hn3 := Lib.hid hnew3; have Hlen := Lib.hid hlen
        clear hO4 kB hnew3 hO3 hx3 hbq hc4 hz4 ho3 hlen
        go_wp2_with (fail)
        go_meet
        exact ⟨_, rfl, q3, a3, c3, HO4.out, KB.out, Hn3.out, Hq4.out, Hlen.out⟩
      refine AllReady.cons rfl (fun K hK => ?_) AllReady.nil
      go_simp
      refine hK _ _ ?_
      clear hK K
      refine wpAny_ready (rs := [4]) (by kernel_rfl) (by simp) ?_
      refine AllReady.cons rfl (fun K hK => ?_) AllReady.nil
      go_simp
      refine hK _ _ ?_
      clear hK K
      refine wpAny_ready (rs := [9]) (by kernel_rfl) (by simp) ?_
      refine AllReady.cons rfl (fun K hK => ?_) AllReady.nil
      go_simp
      (refine (Hrm.out _ (Below.refl _ _).drew).mono ?_; rintro e3' w3 hp; unfold ResX at hp; obtain ⟨⟨v3, q3, rfl, ho3, hq3⟩, hb3⟩ := hp; obtain ⟨a3, c3, rfl, -⟩ := own_slice ho3.own)
      have hq4 := hq3.trans (if_pos rfl)
      clear hq3
      have hc4 : w3.cell? ⟨g, 4, none⟩ = some (.slice an s.nodes.length cn) := (hb3.cell (p := ⟨g, 4, none⟩) (lt_of_block HW.out.blk)).trans d4
      have hz4 : w3.frozen? ⟨g, 4, none⟩ = false := (hb3.frozen (p := ⟨g, 4, none⟩) (lt_of_block HW.out.blk)).trans (free_of_blk HW.out.blk)
      have Hq4 := Lib.hid hq4; clear hq4
      refine hK _ _ ?_
      clear hK K
      refine wpAny_take (i := 10) (v := .slice a3 q3.length c3) rfl (by kernel_rfl) (by kernel_rfl) (by kernel_rfl) (fun _ _ _ h => h) (Or.inl ⟨by rfl, fun wz => by first | (go_simp; done) | rfl⟩) ?_
      refine wpAny_take (i := 11) (v := .int .i64 0) rfl (by kernel_rfl) (by kernel_rfl) (by kernel_rfl) (fun _ _ _ h => h) (Or.inl ⟨by rfl, fun wz => by first | (go_simp; done) | rfl⟩) ?_
      simp only [Act.put, List.setIfInBounds_toArray, List.set_cons_zero, List.set_cons_succ]
      refine wpAny_ready (rs := [12]) (by kernel_rfl) (by simp) ?_
      refine AllReady.cons rfl (fun K hK => ?_) AllReady.nil
      go_simp
      (refine (nodes_yes _ _ _ _ _ _ hc4 hz4).mono ?_; rintro e4 w4 ⟨rfl, rfl⟩)
      refine hK _ _ ?_
      clear hK K
      refine wpAny_done (by kernel_rfl) ?_ _
      have hbq : Below w1.heap.size w1 w3 := ⟨hb3.os, hb3.tape, hb3.output, hb3.size, hb3.block⟩
      have hO3 := HW.out.below hbq
      have hx3 : OwnX w0 w3 (.slice a3 q3.length c3) q3 := ho3.up HW.out.base.size
      have hnew3 : ∀ x ∈ q3, x.bv.ownBlock ≠ some w.heap.size := fun x hx h => by have h1 := (ho3.bl x hx).new _ h; have h2 := Hz1.out; have h3 : w1.heap.size ≤ w.heap.size := h1; omega
      have kB := (heap_setCell_other w3 ⟨g, 4, none⟩ w.heap.size (.slice a3 q3.length c3) (fun h => by have h1 := Hlt.out.1; have h2 : w.heap.size = g := h; omega)).trans ((hbq.block _ (lt_of_block K0.out)).trans K0.out)
      have hlen : q3.length ≤ 60 := by
        have h1 := congrArg List.length Hq4.out
        have h2 := (move_less HE.out.symm).1
        have h3 := Hs.out.tree.len
        rw [List.length_map] at h1
        omega
      have hO4 := WkO.poke (s' := { s with nodes := q3, vn := .slice a3 q3.length c3 }) (j := 4) (u := .slice a3 q3.length c3) hO3 rfl hx3 hO3.leases (Nat.le_trans hlen (by decide)) hO3.ln
      have HO4 := Lib.hid hO4; have KB := Lib.hid kB; have Hn3 := Lib.hid hnew3; have Hlen := Lib.hid hlen
      clear hO4 kB hnew3 hO3 hx3 hbq hc4 hz4 ho3 hlen
      go_wp2_with (fail)
      go_meet
      exact ⟨_, rfl, q3, a3, c3, HO4.out, KB.out, Hn3.out, Hq4.out, Hlen.out⟩
    case rest =>
      obtain ⟨W, hW, q3, a3, c3, hO, kB, hn, hq, hl⟩ := hcut
      subst hW
      have hov := Quota.over_calls W (.slice a3 q3.length c3) q3 hO.rd.sp.n hO.rd.sp.nn (HM.out.below hO.base)
      have ho : overL q3 = overL (mvL s.nodes (bs e.path) (bs e.dst)) := Quota.over_same (by rw [hq, mvL, List.map_map]; rfl)
      have m4 : W.cell? ⟨g, 4, none⟩ = some (.slice a3 q3.length c3) := (wkc hO.rd).2.2.2.2.1
      clear b0 b1 b2 f0 f1 f2 d0 d1 d2 d3 d4 d5 e0 e1 e2 e3 e5
      have HO := Lib.hid hO; have KB := Lib.hid kB; have Hn := Lib.hid hn; have Hq := Lib.hid hq; have Hov := Lib.hid hov; have Ho := Lib.hid ho
      clear hO kB hn hq hov ho
      by_cases hz : (overL q3).length = 0
      · have HR2 := Lib.hid (HR'.out.trans (if_neg (by rw [← Ho.out]; omega)))
        clear HR'
        go_wp2_with (first
          | (go_at_call 25; (with_reducible refine Hov.out.mono ?_); rintro e4 w4 ⟨v4, rfl, ho4, hb4⟩; obtain ⟨a4, c4, rfl, -⟩ := own_slice ho4.own; rw [hz]; obtain ⟨b0, b1, b2, f0, f1, f2⟩ := box_cells ((hb4.block _ (lt_of_block KB.out)).trans KB.out); have Hb4 := Lib.hid hb4; clear ho4 hb4)
          | (go_at_call 45; (with_reducible refine (must_yes _ _).mono ?_); rintro e5' w5 ⟨rfl, rfl⟩))
        have kB := (Hb4.out.block _ (lt_of_block KB.out)).trans KB.out
        have hsm : q3.map pur = (mvL s.nodes (bs e.path) (bs e.dst)).map pur := by rw [Hq.out, mvL, List.map_map]; rfl
        refine bodyPost_ret (results_cell_row rfl _ _ w.heap.size _ _ _ _ rfl (set3_blk kB (.int .i64 0) (.int .i64 0) (.int .i64 0)) Tryz.underlying31 rfl (by kernel_rfl)) rfl ?_
        exact do_end (t := { s with nodes := q3, vn := .slice a3 q3.length c3 }) (by rw [HR2.out]) (by rw [HR2.out]) (by rw [HR2.out]; exact ⟨rfl, rfl, rfl, rfl, hsm, rfl⟩) (HO.out.below Hb4.out) kB Hh.out.base.size Hn.out
      · have HR2 := Lib.hid (HR'.out.trans (if_pos (by rw [← Ho.out]; omega)))
        have hz' : (((overL q3).length : Int) == 0) = false := by simpa using hz
        clear HR'
        go_wp2_with (first
          | (go_at_call 25; (with_reducible refine Hov.out.mono ?_); rintro e4 w4 ⟨v4, rfl, ho4, hb4⟩; obtain ⟨a4, c4, rfl, -⟩ := own_slice ho4.own; have Hb4 := Lib.hid hb4; clear ho4 hb4)
          | (go_at_call 45; (with_reducible refine (must_no _ _).mono ?_); rintro e5' w5 ⟨rfl, rfl⟩))
        exact ⟨rfl, do_bad HR2.out (by decide) (HO.out.base.trans (Hb4.out.mono HO.out.base.size))⟩
end Go.Proofs.YtdfckkadmgmcaaaGreatDoor.Space

/- Edits of spaces: (*work).do, kind by kind (printed by gen_zn.py): MkDir. -/
namespace Go.Proofs.YtdfckkadmgmcaaaGreatDoor.Space
open Go.RowKit
open Path (Bs bs mk bs_mk mk_bs tl_bs MaxC splitE splitL parD)
open Tree
open Quota (overL cntT roomT)
set_option linter.unusedSimpArgs false
set_option linter.unusedVariables false
set_option maxRecDepth 100000 in
set_option maxHeartbeats 8000000 in
theorem do_mkdir (w0 w : World) (g : Nat) (s : Sp) (e : Ed) (h : WkO w0 w g s e) (hA : Apart s.nodes) (hM : MaxC w0) (hs : RightS s) (he : EdOk e) (hk : e.kind = 1) :
    Calls Tryz.prog 48 #[.pointer (some ⟨g, 0, none⟩)] w (DoP w0 g (doE s e) e) := by
  obtain ⟨c0, c1, c2, c3, c4, c5, c6, c7, c8, c9, c10, c11, c12⟩ := wkc h.rd
  obtain ⟨al, cl, hlv, -, -⟩ := Lease.rd_cellsI h.rd.len
  obtain ⟨an, cn, hvn, -⟩ := rd_cellsN h.rd.sp.n.rd
  rw [hlv] at c12
  obtain ⟨R, hR0⟩ : ∃ R, R = doE s e := ⟨_, rfl⟩
  rw [← hR0]
  rw [doE, if_pos (.inl hk)] at hR0
  have HR := Lib.hid hR0
  have Hh := Lib.hid h; have HA := Lib.hid hA; have Hk := Lib.hid hk; have Hlv := Lib.hid hlv; have Hvn := Lib.hid hvn; have HM := Lib.hid hM; have Hs := Lib.hid hs; have He := Lib.hid he
  clear hR0 h hA hk hlv hvn hM hs he
  go_enter Tryz.func48, Tryz.ntmps48
  go_wp2_with (fail)
  go_region_held3 (fun w' => w'.cell? ⟨g, 6, none⟩ = some (.int .i64 e.kind) ∧ w'.cell? ⟨g, 7, none⟩ = some (.string e.path) ∧ w'.cell? ⟨g, 8, none⟩ = some (.string e.dst) ∧ w'.cell? ⟨g, 9, none⟩ = some (.int .i64 e.client) ∧ w'.cell? ⟨g, 10, none⟩ = some (.int .i64 e.call) ∧ w'.cell? ⟨g, 11, none⟩ = some (.int .i64 e.n) ∧ w'.cell? ⟨g, 12, none⟩ = some (.slice al e.lens.length cl)) (go_keep) (fail)
  have hb1 : Below w.heap.size w (((w.alloc (.cells #[.int .i64 0, .int .i64 0, .int .i64 0] 31 (0, 0))).alloc (.cells #[.int .i64 e.kind, .string e.path, .string e.dst, .int .i64 e.client, .int .i64 e.call, .int .i64 e.n, .slice al e.lens.length cl] 42 (0, 0))).drew) := (((Below.refl _ _).alloc (Nat.le_refl _) _).alloc (by simp) _).drew
  have hk0 : (((w.alloc (.cells #[.int .i64 0, .int .i64 0, .int .i64 0] 31 (0, 0))).alloc (.cells #[.int .i64 e.kind, .string e.path, .string e.dst, .int .i64 e.client, .int .i64 e.call, .int .i64 e.n, .slice al e.lens.length cl] 42 (0, 0))).drew).heap[w.heap.size]? = some (.cells #[.int .i64 0, .int .i64 0, .int .i64 0] 31 (0, 0)) := (heap_alloc_old _ _ (by simp)).trans (heap_alloc_new _ _)
  have hk1 : (((w.alloc (.cells #[.int .i64 0, .int .i64 0, .int .i64 0] 31 (0, 0))).alloc (.cells #[.int .i64 e.kind, .string e.path, .string e.dst, .int .i64 e.client, .int .i64 e.call, .int .i64 e.n, .slice al e.lens.length cl] 42 (0, 0))).drew).heap[w.heap.size + 1]? = some (.cells #[.int .i64 e.kind, .string e.path, .string e.dst, .int .i64 e.client, .int .i64 e.call, .int .i64 e.n, .slice al e.lens.length cl] 42 (0, 0)) := by
    have h1 := heap_alloc_new (w.alloc (.cells #[.int .i64 0, .int .i64 0, .int .i64 0] 31 (0, 0))) (.cells #[.int .i64 e.kind, .string e.path, .string e.dst, .int .i64 e.client, .int .i64 e.call, .int .i64 e.n, .slice al e.lens.length cl] 42 (0, 0))
    have h2 : (w.alloc (.cells #[.int .i64 0, .int .i64 0, .int .i64 0] 31 (0, 0))).heap.size = w.heap.size + 1 := by simp
    rw [h2] at h1; exact h1
  have hz1 : (((w.alloc (.cells #[.int .i64 0, .int .i64 0, .int .i64 0] 31 (0, 0))).alloc (.cells #[.int .i64 e.kind, .string e.path, .string e.dst, .int .i64 e.client, .int .i64 e.call, .int .i64 e.n, .slice al e.lens.length cl] 42 (0, 0))).drew).heap.size = w.heap.size + 2 := by simp
  clear c0 c1 c2 c3 c4 c5 c6 c7 c8 c9 c10 c11 c12
  generalize ((w.alloc (.cells #[.int .i64 0, .int .i64 0, .int .i64 0] 31 (0, 0))).alloc (.cells #[.int .i64 e.kind, .string e.path, .string e.dst, .int .i64 e.client, .int .i64 e.call, .int .i64 e.n, .slice al e.lens.length cl] 42 (0, 0))).drew = w1 at *
  have hW := Hh.out.below hb1
  obtain ⟨e0, e1, e2, e3, e5⟩ := ed_cells hk1
  obtain ⟨d0, d1, d2, d3, d4, d5, -⟩ := wkc hW.rd
  rw [Hvn.out] at d4
  obtain ⟨b0, b1, b2, f0, f1, f2⟩ := box_cells hk0
  have hM1 := HM.out.below hW.base
  have hl1 := Hh.out.lt
  have HW := Lib.hid hW; have Hb1 := Lib.hid hb1; have K0 := Lib.hid hk0; have K1 := Lib.hid hk1; have Hz1 := Lib.hid hz1; have HM1 := Lib.hid hM1; have Hlt := Lib.hid hl1
  clear hW hb1 hk0 hk1 hz1 hM1 hl1
  have hnd : newN e = ⟨e.path, true, -1, [], .slice none 0 0, -1⟩ := by simp [newN, Hk.out]
  have hadd := fun W (hW : Below w1.heap.size w1 W) => add_calls W s.vn s.nodes (newN e) (HW.out.rd.sp.n.below hW) (by rw [hnd]; exact (OwnB.nil W W).rd) HW.out.nn (HM1.out.below hW)
  have hpar := fun W (hW : Below w1.heap.size w1 W) => Path.parent_calls W e.path (HM1.out.below hW)
  have hroom := fun W (hW : Below w1.heap.size w1 W) => Quota.room_calls W s.vn s.nodes (mk (parD (bs e.path))) (HW.out.rd.sp.n.below hW) HW.out.nn (HM1.out.below hW)
  obtain ⟨E, hE⟩ : ∃ E, E = addE s.nodes (newN e) := ⟨_, rfl⟩
  obtain ⟨r, hr⟩ : ∃ r, r = roomT s.nodes (parD (bs e.path)) := ⟨_, rfl⟩
  have hR := HR.out
  rw [← hE, ← hr] at hR
  rw [← hE] at hadd
  rw [bs_mk, ← hr] at hroom
  have hL : ∃ L, L = addL s.nodes (newN e) := ⟨_, rfl⟩
  obtain ⟨L, hL⟩ := hL
  rw [← hL] at hadd hR
  rw [hnd] at hadd
  rw [Hvn.out] at hadd hroom
  have hc := fun W (hW : Below w1.heap.size w1 W) => (show W.cell? ⟨g, 4, none⟩ = some (.slice an s.nodes.length cn) ∧ W.frozen? ⟨g, 4, none⟩ = false ∧ W.heap[w.heap.size]? = some (.cells #[.int .i64 0, .int .i64 0, .int .i64 0] 31 (0, 0)) ∧ W.cell? ⟨w.heap.size + 1, 1, none⟩ = some (.string e.path) from
    ⟨(hW.cell (p := ⟨g, 4, none⟩) (lt_of_block HW.out.blk)).trans d4, (hW.frozen (p := ⟨g, 4, none⟩) (lt_of_block HW.out.blk)).trans (free_of_blk HW.out.blk), (hW.block _ (lt_of_block K0.out)).trans K0.out, (hW.cell (p := ⟨w.heap.size + 1, 1, none⟩) (lt_of_block K1.out)).trans e1⟩)
  have HE := Lib.hid hE; have Hadd := Lib.hid hadd; have Hpar := Lib.hid hpar; have Hroom := Lib.hid hroom; have HR' := Lib.hid hR; have Hc := Lib.hid hc; have HL := Lib.hid hL; have Hr := Lib.hid hr; have Hnd := Lib.hid hnd
  clear hE hadd hpar hroom HR hR hc hL hr hnd
  rw [Hk.out] at e0
  have hlt1 : w.heap.size + 1 < w1.heap.size := by have := Hz1.out; omega
  go_wp2_with (fail)
  have hb2 : Below w1.heap.size w1 (w1.alloc (.cells #[.string e.path, .bool true, .int .i64 (-1), .slice none 0 0, .int .i64 (-1)] 35 (0, 0))) := (Below.refl _ _).alloc (Nat.le_refl _) _
  have hk2 : (w1.alloc (.cells #[.string e.path, .bool true, .int .i64 (-1), .slice none 0 0, .int .i64 (-1)] 35 (0, 0))).heap[w1.heap.size]? = some (.cells #[.string e.path, .bool true, .int .i64 (-1), .slice none 0 0, .int .i64 (-1)] 35 (0, 0)) := heap_alloc_new _ _
  have hz2 : (w1.alloc (.cells #[.string e.path, .bool true, .int .i64 (-1), .slice none 0 0, .int .i64 (-1)] 35 (0, 0))).heap.size = w1.heap.size + 1 := by simp [World.setCell]
  generalize (w1.alloc (.cells #[.string e.path, .bool true, .int .i64 (-1), .slice none 0 0, .int .i64 (-1)] 35 (0, 0))) = w2 at *
  obtain ⟨n0, n1, n2, n3, n4⟩ := blk5c hk2
  obtain ⟨g4, z4, kB2, -⟩ := Hc.out w2 hb2
  have hS := fun W (hW : Below w2.heap.size w2 W) => (show (W.cell? ⟨g, 4, none⟩ = some (.slice an s.nodes.length cn) ∧ W.cell? ⟨w1.heap.size, 0, none⟩ = some (.string e.path) ∧ W.cell? ⟨w1.heap.size, 1, none⟩ = some (.bool true) ∧ W.cell? ⟨w1.heap.size, 2, none⟩ = some (.int .i64 (-1)) ∧ W.cell? ⟨w1.heap.size, 3, none⟩ = some (.slice none 0 0) ∧ W.cell? ⟨w1.heap.size, 4, none⟩ = some (.int .i64 (-1))) ∧ W.frozen? ⟨g, 4, none⟩ = false ∧ Below w1.heap.size w1 W from by
    have hh := (hW.block _ (lt_of_block hk2)).trans hk2
    obtain ⟨o0, o1, o2, o3, o4⟩ := blk5c hh
    have hbb := hb2.trans (hW.mono hb2.size)
    exact ⟨⟨(Hc.out W hbb).1, o0, o1, o2, o3, o4⟩, (Hc.out W hbb).2.1, hbb⟩)
  have HS := Lib.hid hS; have Hb2 := Lib.hid hb2; have Hz2 := Lib.hid hz2
  clear hS hb2 hk2 kB2 hz2 b0 b1 b2 f0 f1 f2 d0 d1 d2 d3 d4 d5 e0 e1 e2 e3 e5
  go_region_held3 (fun w' => w'.cell? ⟨g, 4, none⟩ = some (.slice an s.nodes.length cn) ∧ w'.cell? ⟨w1.heap.size, 0, none⟩ = some (.string e.path) ∧ w'.cell? ⟨w1.heap.size, 1, none⟩ = some (.bool true) ∧ w'.cell? ⟨w1.heap.size, 2, none⟩ = some (.int .i64 (-1)) ∧ w'.cell? ⟨w1.heap.size, 3, none⟩ = some (.slice none 0 0) ∧ w'.cell? ⟨w1.heap.size, 4, none⟩ = some (.int .i64 (-1))) (go_keep)
    (first | (go_at_call 93; refine (Hadd.out _ Hb2.out.drew).mono ?_; rintro e3' w3 hp; unfold ResX at hp; obtain ⟨⟨v3, q3, rfl, ho3, hq3⟩, hb3⟩ := hp; obtain ⟨a3, c3, rfl, -⟩ := own_slice ho3.own; obtain ⟨⟨l4, m0, m1, m2, m3, m4⟩, z4', hB3⟩ := HS.out w3 ⟨hb3.os, hb3.tape, hb3.output, hb3.size, hb3.block⟩; have pe := (Hc.out w3 hB3).2.2.2; have Hb3w : Hid (Below w2.heap.size w2 w3) := Lib.hid ⟨hb3.os, hb3.tape, hb3.output, hb3.size, hb3.block⟩; have Ho3 := Lib.hid ho3; have HB3 := Lib.hid hB3; have Hq3 := Lib.hid hq3; clear ho3 hb3 hB3 hq3))
  by_cases hE0 : E = 0
  · subst hE0
    have Hq4 := Lib.hid (Hq3.out.trans (if_pos rfl))
    clear Hq3
    have HR1 := Lib.hid (HR'.out.trans (if_neg (by simp)))
    clear HR'
    by_cases hr1 : 0 < r
    · have HR2 := Lib.hid ((HR1.out.trans (if_neg (by omega))).trans (if_pos Hk.out))
      clear HR1
      go_wp2_with (first
        | (go_at_call 45; (with_reducible refine (must_yes _ _).mono ?_); rintro e5' w5 ⟨rfl, rfl⟩)
        | (go_at_call 94; (with_reducible refine (Hpar.out _ HB3.out).mono ?_); rintro e4 w4 hp; unfold Path.ParPost at hp; obtain ⟨rfl, hb4⟩ := hp; have hB4 := HB3.out.trans (hb4.mono HB3.out.size); obtain ⟨p4, zp4, -⟩ := Hc.out w4 hB4; have HB4 := Lib.hid hB4; have Hb4 := Lib.hid hb4; clear hB4 hb4)
        | (go_at_call 95; (with_reducible refine (Hroom.out _ HB4.out).mono ?_); rintro e6 w6 ⟨rfl, hb6⟩; have hB6 := HB4.out.trans (hb6.mono HB4.out.size); obtain ⟨p6, zp6, kB6, -⟩ := Hc.out w6 hB6; obtain ⟨b0, b1, b2, f0, f1, f2⟩ := box_cells kB6; obtain ⟨⟨l46, m06, m16, m26, m36, m46⟩, -, -⟩ := HS.out w6 (((Hb3w.out).trans (Hb4.out.mono Hb3w.out.size)).trans (hb6.mono (Nat.le_trans Hb3w.out.size Hb4.out.size))); have HB6 := Lib.hid hB6; have KB6 := Lib.hid kB6; have Hb46 := Lib.hid (Hb4.out.trans (hb6.mono Hb4.out.size)); clear hb6 hB6 kB6))
      have hbq : Below w1.heap.size w1 w5 := HB6.out
      have hO3 := HW.out.below hbq
      have hx3 : OwnX w0 w5 (.slice a3 q3.length c3) q3 := (Ho3.out.up (Nat.le_trans HW.out.base.size Hb2.out.size)).below Hb46.out
      have hnew3 : ∀ x ∈ q3, x.bv.ownBlock ≠ some w.heap.size := fun x hx h => by have h1 := (Ho3.out.bl x hx).new _ h; have h2 := Hz1.out; have h4 := Hz2.out; have h3 : w2.heap.size ≤ w.heap.size := h1; omega
      have hq4 : q3.map pur = L := Hq4.out
      have hlen : q3.length ≤ 60 := by
        have h1 := congrArg List.length hq4
        rw [HL.out, addL, List.length_map, List.length_map, (ins_perm _ _).length_eq, List.length_cons] at h1
        have h2 := (addE_zero HE.out.symm).2.2.2.2.2
        omega
      have hO4 := WkO.poke (s' := { s with nodes := q3, vn := .slice a3 q3.length c3 }) (j := 4) (u := .slice a3 q3.length c3) hO3 rfl hx3 hO3.leases (Nat.le_trans hlen (by decide)) hO3.ln
      have hsm : q3.map pur = L.map pur := by rw [hq4, HL.out, addL, List.map_map]; rfl
      have kB := (heap_setCell_other w5 ⟨g, 4, none⟩ w.heap.size (.slice a3 q3.length c3) (fun h => by have h1 := Hlt.out.1; have h2 : w.heap.size = g := h; omega)).trans KB6.out
      refine bodyPost_ret (results_cell_row rfl _ _ w.heap.size _ _ _ _ rfl (set3_blk kB (.int .i64 0) (.int .i64 0) (.int .i64 0)) Tryz.underlying31 rfl (by kernel_rfl)) rfl ?_
      exact do_end (t := { s with nodes := q3, vn := .slice a3 q3.length c3 }) (by rw [HR2.out]) (by rw [HR2.out]) (by rw [HR2.out]; exact ⟨rfl, rfl, rfl, rfl, hsm, rfl⟩) hO4 kB Hh.out.base.size hnew3
    · have HR2 := Lib.hid (HR1.out.trans (if_pos (by omega)))
      have hr2 : decide (r > 0) = false := decide_eq_false hr1
      have hr3 : decide (0 < r) = false := decide_eq_false hr1
      clear HR1
      go_wp2_with (first
        | (go_at_call 45; (with_reducible refine (must_yes _ _).mono ?_); rintro e5' w5 ⟨rfl, rfl⟩)
        | (go_at_call 45; (with_reducible refine (must_no _ _).mono ?_); rintro e5' w5 ⟨rfl, rfl⟩)
        | (go_at_call 94; (with_reducible refine (Hpar.out _ HB3.out).mono ?_); rintro e4 w4 hp; unfold Path.ParPost at hp; obtain ⟨rfl, hb4⟩ := hp; have hB4 := HB3.out.trans (hb4.mono HB3.out.size); obtain ⟨p4, zp4, -⟩ := Hc.out w4 hB4; have HB4 := Lib.hid hB4; clear hB4 hb4)
        | (go_at_call 95; (with_reducible refine (Hroom.out _ HB4.out).mono ?_); rintro e6 w6 ⟨rfl, hb6⟩; have hB6 := HB4.out.trans (hb6.mono HB4.out.size); have HB6 := Lib.hid hB6; clear hb6 hB6))
      exact ⟨rfl, do_bad HR2.out (by decide) (HW.out.base.trans (HB6.out.mono HW.out.base.size))⟩
  · have hE' : (E == 0) = false := by simpa using hE0
    have HR2 := Lib.hid (HR'.out.trans (if_pos hE0))
    go_wp2_with (go_at_call 45; (with_reducible refine (must_no _ _).mono ?_); rintro e5' w5 ⟨rfl, rfl⟩)
    exact ⟨rfl, do_bad HR2.out hE0 (HW.out.base.trans (HB3.out.mono HW.out.base.size))⟩
end Go.Proofs.YtdfckkadmgmcaaaGreatDoor.Space

/- Edits of spaces: (*work).do, kind by kind (printed by gen_zn.py): Create. -/
namespace Go.Proofs.YtdfckkadmgmcaaaGreatDoor.Space
open Go.RowKit
open Path (Bs bs mk bs_mk mk_bs tl_bs MaxC splitE splitL parD)
open Tree
open Quota (overL cntT roomT)
set_option linter.unusedSimpArgs false
set_option linter.unusedVariables false
set_option maxRecDepth 100000 in
set_option maxHeartbeats 8000000 in
theorem do_create (w0 w : World) (g : Nat) (s : Sp) (e : Ed) (h : WkO w0 w g s e) (hA : Apart s.nodes) (hM : MaxC w0) (hs : RightS s) (he : EdOk e) (hk : e.kind = 2) :
    Calls Tryz.prog 48 #[.pointer (some ⟨g, 0, none⟩)] w (DoP w0 g (doE s e) e) := by
  obtain ⟨c0, c1, c2, c3, c4, c5, c6, c7, c8, c9, c10, c11, c12⟩ := wkc h.rd
  obtain ⟨al, cl, hlv, -, -⟩ := Lease.rd_cellsI h.rd.len
  obtain ⟨an, cn, hvn, -⟩ := rd_cellsN h.rd.sp.n.rd
  rw [hlv] at c12
  obtain ⟨R, hR0⟩ : ∃ R, R = doE s e := ⟨_, rfl⟩
  rw [← hR0]
  rw [doE, if_pos (.inr hk)] at hR0
  have HR := Lib.hid hR0
  have Hh := Lib.hid h; have HA := Lib.hid hA; have Hk := Lib.hid hk; have Hlv := Lib.hid hlv; have Hvn := Lib.hid hvn; have HM := Lib.hid hM; have Hs := Lib.hid hs; have He := Lib.hid he
  clear hR0 h hA hk hlv hvn hM hs he
  go_enter Tryz.func48, Tryz.ntmps48
  go_wp2_with (fail)
  go_region_held3 (fun w' => w'.cell? ⟨g, 6, none⟩ = some (.int .i64 e.kind) ∧ w'.cell? ⟨g, 7, none⟩ = some (.string e.path) ∧ w'.cell? ⟨g, 8, none⟩ = some (.string e.dst) ∧ w'.cell? ⟨g, 9, none⟩ = some (.int .i64 e.client) ∧ w'.cell? ⟨g, 10, none⟩ = some (.int .i64 e.call) ∧ w'.cell? ⟨g, 11, none⟩ = some (.int .i64 e.n) ∧ w'.cell? ⟨g, 12, none⟩ = some (.slice al e.lens.length cl)) (go_keep) (fail)
  have hb1 : Below w.heap.size w (((w.alloc (.cells #[.int .i64 0, .int .i64 0, .int .i64 0] 31 (0, 0))).alloc (.cells #[.int .i64 e.kind, .string e.path, .string e.dst, .int .i64 e.client, .int .i64 e.call, .int .i64 e.n, .slice al e.lens.length cl] 42 (0, 0))).drew) := (((Below.refl _ _).alloc (Nat.le_refl _) _).alloc (by simp) _).drew
  have hk0 : (((w.alloc (.cells #[.int .i64 0, .int .i64 0, .int .i64 0] 31 (0, 0))).alloc (.cells #[.int .i64 e.kind, .string e.path, .string e.dst, .int .i64 e.client, .int .i64 e.call, .int .i64 e.n, .slice al e.lens.length cl] 42 (0, 0))).drew).heap[w.heap.size]? = some (.cells #[.int .i64 0, .int .i64 0, .int .i64 0] 31 (0, 0)) := (heap_alloc_old _ _ (by simp)).trans (heap_alloc_new _ _)
  have hk1 : (((w.alloc (.cells #[.int .i64 0, .int .i64 0, .int .i64 0] 31 (0, 0))).alloc (.cells #[.int .i64 e.kind, .string e.path, .string e.dst, .int .i64 e.client, .int .i64 e.call, .int .i64 e.n, .slice al e.lens.length cl] 42 (0, 0))).drew).heap[w.heap.size + 1]? = some (.cells #[.int .i64 e.kind, .string e.path, .string e.dst, .int .i64 e.client, .int .i64 e.call, .int .i64 e.n, .slice al e.lens.length cl] 42 (0, 0)) := by
    have h1 := heap_alloc_new (w.alloc (.cells #[.int .i64 0, .int .i64 0, .int .i64 0] 31 (0, 0))) (.cells #[.int .i64 e.kind, .string e.path, .string e.dst, .int .i64 e.client, .int .i64 e.call, .int .i64 e.n, .slice al e.lens.length cl] 42 (0, 0))
    have h2 : (w.alloc (.cells #[.int .i64 0, .int .i64 0, .int .i64 0] 31 (0, 0))).heap.size = w.heap.size + 1 := by simp
    rw [h2] at h1; exact h1
  have hz1 : (((w.alloc (.cells #[.int .i64 0, .int .i64 0, .int .i64 0] 31 (0, 0))).alloc (.cells #[.int .i64 e.kind, .string e.path, .string e.dst, .int .i64 e.client, .int .i64 e.call, .int .i64 e.n, .slice al e.lens.length cl] 42 (0, 0))).drew).heap.size = w.heap.size + 2 := by simp
  clear c0 c1 c2 c3 c4 c5 c6 c7 c8 c9 c10 c11 c12
  generalize ((w.alloc (.cells #[.int .i64 0, .int .i64 0, .int .i64 0] 31 (0, 0))).alloc (.cells #[.int .i64 e.kind, .string e.path, .string e.dst, .int .i64 e.client, .int .i64 e.call, .int .i64 e.n, .slice al e.lens.length cl] 42 (0, 0))).drew = w1 at *
  have hW := Hh.out.below hb1
  obtain ⟨e0, e1, e2, e3, e5⟩ := ed_cells hk1
  obtain ⟨d0, d1, d2, d3, d4, d5, -⟩ := wkc hW.rd
  rw [Hvn.out] at d4
  obtain ⟨b0, b1, b2, f0, f1, f2⟩ := box_cells hk0
  have hM1 := HM.out.below hW.base
  have hl1 := Hh.out.lt
  have HW := Lib.hid hW; have Hb1 := Lib.hid hb1; have K0 := Lib.hid hk0; have K1 := Lib.hid hk1; have Hz1 := Lib.hid hz1; have HM1 := Lib.hid hM1; have Hlt := Lib.hid hl1
  clear hW hb1 hk0 hk1 hz1 hM1 hl1
  have hnd : newN e = ⟨e.path, false, -1, [], .slice none 0 0, e.client⟩ := by simp [newN, Hk.out]
  have hadd := fun W (hW : Below w1.heap.size w1 W) => add_calls W s.vn s.nodes (newN e) (HW.out.rd.sp.n.below hW) (by rw [hnd]; exact (OwnB.nil W W).rd) HW.out.nn (HM1.out.below hW)
  have hpar := fun W (hW : Below w1.heap.size w1 W) => Path.parent_calls W e.path (HM1.out.below hW)
  have hroom := fun W (hW : Below w1.heap.size w1 W) => Quota.room_calls W s.vn s.nodes (mk (parD (bs e.path))) (HW.out.rd.sp.n.below hW) HW.out.nn (HM1.out.below hW)
  obtain ⟨E, hE⟩ : ∃ E, E = addE s.nodes (newN e) := ⟨_, rfl⟩
  obtain ⟨r, hr⟩ : ∃ r, r = roomT s.nodes (parD (bs e.path)) := ⟨_, rfl⟩
  have hR := HR.out
  rw [← hE, ← hr] at hR
  rw [← hE] at hadd
  rw [bs_mk, ← hr] at hroom
  have hL : ∃ L, L = addL s.nodes (newN e) := ⟨_, rfl⟩
  obtain ⟨L, hL⟩ := hL
  rw [← hL] at hadd hR
  rw [hnd] at hadd
  rw [Hvn.out] at hadd hroom
  have hc := fun W (hW : Below w1.heap.size w1 W) => (show W.cell? ⟨g, 4, none⟩ = some (.slice an s.nodes.length cn) ∧ W.frozen? ⟨g, 4, none⟩ = false ∧ W.heap[w.heap.size]? = some (.cells #[.int .i64 0, .int .i64 0, .int .i64 0] 31 (0, 0)) ∧ W.cell? ⟨w.heap.size + 1, 1, none⟩ = some (.string e.path) from
    ⟨(hW.cell (p := ⟨g, 4, none⟩) (lt_of_block HW.out.blk)).trans d4, (hW.frozen (p := ⟨g, 4, none⟩) (lt_of_block HW.out.blk)).trans (free_of_blk HW.out.blk), (hW.block _ (lt_of_block K0.out)).trans K0.out, (hW.cell (p := ⟨w.heap.size + 1, 1, none⟩) (lt_of_block K1.out)).trans e1⟩)
  have HE := Lib.hid hE; have Hadd := Lib.hid hadd; have Hpar := Lib.hid hpar; have Hroom := Lib.hid hroom; have HR' := Lib.hid hR; have Hc := Lib.hid hc; have HL := Lib.hid hL; have Hr := Lib.hid hr; have Hnd := Lib.hid hnd
  clear hE hadd hpar hroom HR hR hc hL hr hnd
  rw [Hk.out] at e0
  have hlt1 : w.heap.size + 1 < w1.heap.size := by have := Hz1.out; omega
  go_wp2_with (fail)
  have hb2 : Below w1.heap.size w1 (w1.alloc (.cells #[.string e.path, .bool false, .int .i64 (-1), .slice none 0 0, .int .i64 e.client] 35 (0, 0))) := (Below.refl _ _).alloc (Nat.le_refl _) _
  have hk2 : (w1.alloc (.cells #[.string e.path, .bool false, .int .i64 (-1), .slice none 0 0, .int .i64 e.client] 35 (0, 0))).heap[w1.heap.size]? = some (.cells #[.string e.path, .bool false, .int .i64 (-1), .slice none 0 0, .int .i64 e.client] 35 (0, 0)) := heap_alloc_new _ _
  have hz2 : (w1.alloc (.cells #[.string e.path, .bool false, .int .i64 (-1), .slice none 0 0, .int .i64 e.client] 35 (0, 0))).heap.size = w1.heap.size + 1 := by simp [World.setCell]
  generalize (w1.alloc (.cells #[.string e.path, .bool false, .int .i64 (-1), .slice none 0 0, .int .i64 e.client] 35 (0, 0))) = w2 at *
  obtain ⟨n0, n1, n2, n3, n4⟩ := blk5c hk2
  obtain ⟨g4, z4, kB2, -⟩ := Hc.out w2 hb2
  have hS := fun W (hW : Below w2.heap.size w2 W) => (show (W.cell? ⟨g, 4, none⟩ = some (.slice an s.nodes.length cn) ∧ W.cell? ⟨w1.heap.size, 0, none⟩ = some (.string e.path) ∧ W.cell? ⟨w1.heap.size, 1, none⟩ = some (.bool false) ∧ W.cell? ⟨w1.heap.size, 2, none⟩ = some (.int .i64 (-1)) ∧ W.cell? ⟨w1.heap.size, 3, none⟩ = some (.slice none 0 0) ∧ W.cell? ⟨w1.heap.size, 4, none⟩ = some (.int .i64 e.client)) ∧ W.frozen? ⟨g, 4, none⟩ = false ∧ Below w1.heap.size w1 W from by
    have hh := (hW.block _ (lt_of_block hk2)).trans hk2
    obtain ⟨o0, o1, o2, o3, o4⟩ := blk5c hh
    have hbb := hb2.trans (hW.mono hb2.size)
    exact ⟨⟨(Hc.out W hbb).1, o0, o1, o2, o3, o4⟩, (Hc.out W hbb).2.1, hbb⟩)
  have HS := Lib.hid hS; have Hb2 := Lib.hid hb2; have Hz2 := Lib.hid hz2
  clear hS hb2 hk2 kB2 hz2 b0 b1 b2 f0 f1 f2 d0 d1 d2 d3 d4 d5 e0 e1 e2 e3 e5
  go_region_held3 (fun w' => w'.cell? ⟨g, 4, none⟩ = some (.slice an s.nodes.length cn) ∧ w'.cell? ⟨w1.heap.size, 0, none⟩ = some (.string e.path) ∧ w'.cell? ⟨w1.heap.size, 1, none⟩ = some (.bool false) ∧ w'.cell? ⟨w1.heap.size, 2, none⟩ = some (.int .i64 (-1)) ∧ w'.cell? ⟨w1.heap.size, 3, none⟩ = some (.slice none 0 0) ∧ w'.cell? ⟨w1.heap.size, 4, none⟩ = some (.int .i64 e.client)) (go_keep)
    (first | (go_at_call 93; refine (Hadd.out _ Hb2.out.drew).mono ?_; rintro e3' w3 hp; unfold ResX at hp; obtain ⟨⟨v3, q3, rfl, ho3, hq3⟩, hb3⟩ := hp; obtain ⟨a3, c3, rfl, -⟩ := own_slice ho3.own; obtain ⟨⟨l4, m0, m1, m2, m3, m4⟩, z4', hB3⟩ := HS.out w3 ⟨hb3.os, hb3.tape, hb3.output, hb3.size, hb3.block⟩; have pe := (Hc.out w3 hB3).2.2.2; have Hb3w : Hid (Below w2.heap.size w2 w3) := Lib.hid ⟨hb3.os, hb3.tape, hb3.output, hb3.size, hb3.block⟩; have Ho3 := Lib.hid ho3; have HB3 := Lib.hid hB3; have Hq3 := Lib.hid hq3; clear ho3 hb3 hB3 hq3))
  by_cases hE0 : E = 0
  · subst hE0
    have Hq4 := Lib.hid (Hq3.out.trans (if_pos rfl))
    clear Hq3
    have HR1 := Lib.hid (HR'.out.trans (if_neg (by simp)))
    clear HR'
    by_cases hr1 : 0 < r
    · have HR2 := Lib.hid ((HR1.out.trans (if_neg (by omega))).trans (if_neg (by rw [Hk.out]; decide)))
      clear HR1
      go_wp2_with (first
        | (go_at_call 45; (with_reducible refine (must_yes _ _).mono ?_); rintro e5' w5 ⟨rfl, rfl⟩)
        | (go_at_call 94; (with_reducible refine (Hpar.out _ HB3.out).mono ?_); rintro e4 w4 hp; unfold Path.ParPost at hp; obtain ⟨rfl, hb4⟩ := hp; have hB4 := HB3.out.trans (hb4.mono HB3.out.size); obtain ⟨p4, zp4, -⟩ := Hc.out w4 hB4; have HB4 := Lib.hid hB4; have Hb4 := Lib.hid hb4; clear hB4 hb4)
        | (go_at_call 95; (with_reducible refine (Hroom.out _ HB4.out).mono ?_); rintro e6 w6 ⟨rfl, hb6⟩; have hB6 := HB4.out.trans (hb6.mono HB4.out.size); obtain ⟨p6, zp6, kB6, -⟩ := Hc.out w6 hB6; obtain ⟨b0, b1, b2, f0, f1, f2⟩ := box_cells kB6; obtain ⟨⟨l46, m06, m16, m26, m36, m46⟩, -, -⟩ := HS.out w6 (((Hb3w.out).trans (Hb4.out.mono Hb3w.out.size)).trans (hb6.mono (Nat.le_trans Hb3w.out.size Hb4.out.size))); have HB6 := Lib.hid hB6; have KB6 := Lib.hid kB6; have Hb46 := Lib.hid (Hb4.out.trans (hb6.mono Hb4.out.size)); clear hb6 hB6 kB6))
      have hbq : Below w1.heap.size w1 w5 := HB6.out
      have hO3 := HW.out.below hbq
      have hx3 : OwnX w0 w5 (.slice a3 q3.length c3) q3 := (Ho3.out.up (Nat.le_trans HW.out.base.size Hb2.out.size)).below Hb46.out
      have hnew3 : ∀ x ∈ q3, x.bv.ownBlock ≠ some w.heap.size := fun x hx h => by have h1 := (Ho3.out.bl x hx).new _ h; have h2 := Hz1.out; have h4 := Hz2.out; have h3 : w2.heap.size ≤ w.heap.size := h1; omega
      have hq4 : q3.map pur = L := Hq4.out
      have hlen : q3.length ≤ 60 := by
        have h1 := congrArg List.length hq4
        rw [HL.out, addL, List.length_map, List.length_map, (ins_perm _ _).length_eq, List.length_cons] at h1
        have h2 := (addE_zero HE.out.symm).2.2.2.2.2
        omega
      have hO4 := WkO.poke (s' := { s with nodes := q3, vn := .slice a3 q3.length c3 }) (j := 4) (u := .slice a3 q3.length c3) hO3 rfl hx3 hO3.leases (Nat.le_trans hlen (by decide)) hO3.ln
      have hsm : q3.map pur = L.map pur := by rw [hq4, HL.out, addL, List.map_map]; rfl
      have hok : Lease.renOk e.client s.now s.leases = true := ren_ok Hs.out.lease He.out.client ⟨Hs.out.nums.2.2.2.2.2.2.1, Hs.out.nums.2.2.2.2.2.2.2⟩
      have hrn := renew_calls w0 _ g { s with nodes := q3, vn := .slice a3 q3.length c3 } e hO4 hok
      have kB := (heap_setCell_other w5 ⟨g, 4, none⟩ w.heap.size (.slice a3 q3.length c3) (fun h => by have h1 := Hlt.out.1; have h2 : w.heap.size = g := h; omega)).trans KB6.out
      have hglt := Hlt.out.1
      have Hrn := Lib.hid hrn; have KB := Lib.hid kB; have Hsm := Lib.hid hsm; have Hnew := Lib.hid hnew3
      clear hrn kB hO4 hsm hlen hq4 hnew3 hx3 hO3 hbq hok b0 b1 b2 f0 f1 f2
      go_wp2_with (go_at_call 96; refine Hrn.out.mono ?_; rintro e8 w8 hp; unfold RenP at hp; obtain ⟨rfl, ⟨vl8, hO8⟩, hU8⟩ := hp; have kB8 := (hU8.block _ (lt_of_block KB.out) (by intro h; have h2 : w.heap.size = g := h; omega)).trans KB.out; obtain ⟨b0, b1, b2, f0, f1, f2⟩ := box_cells kB8; have HO8 := Lib.hid hO8; have KB8 := Lib.hid kB8; clear hO8 hU8 kB8)
      refine bodyPost_ret (results_cell_row rfl _ _ w.heap.size _ _ _ _ rfl (set3_blk KB8.out (.int .i64 0) (.int .i64 0) (.int .i64 0)) Tryz.underlying31 rfl (by kernel_rfl)) rfl ?_
      exact do_end (t := { renS { s with nodes := q3, vn := .slice a3 q3.length c3 } e.client with vl := vl8 }) (by rw [HR2.out]) (by rw [HR2.out]) (by rw [HR2.out]; exact ⟨rfl, rfl, rfl, rfl, Hsm.out, rfl⟩) HO8.out KB8.out Hh.out.base.size Hnew.out
    · have HR2 := Lib.hid (HR1.out.trans (if_pos (by omega)))
      have hr2 : decide (r > 0) = false := decide_eq_false hr1
      have hr3 : decide (0 < r) = false := decide_eq_false hr1
      clear HR1
      go_wp2_with (first
        | (go_at_call 45; (with_reducible refine (must_yes _ _).mono ?_); rintro e5' w5 ⟨rfl, rfl⟩)
        | (go_at_call 45; (with_reducible refine (must_no _ _).mono ?_); rintro e5' w5 ⟨rfl, rfl⟩)
        | (go_at_call 94; (with_reducible refine (Hpar.out _ HB3.out).mono ?_); rintro e4 w4 hp; unfold Path.ParPost at hp; obtain ⟨rfl, hb4⟩ := hp; have hB4 := HB3.out.trans (hb4.mono HB3.out.size); obtain ⟨p4, zp4, -⟩ := Hc.out w4 hB4; have HB4 := Lib.hid hB4; clear hB4 hb4)
        | (go_at_call 95; (with_reducible refine (Hroom.out _ HB4.out).mono ?_); rintro e6 w6 ⟨rfl, hb6⟩; have hB6 := HB4.out.trans (hb6.mono HB4.out.size); have HB6 := Lib.hid hB6; clear hb6 hB6))
      exact ⟨rfl, do_bad HR2.out (by decide) (HW.out.base.trans (HB6.out.mono HW.out.base.size))⟩
  · have hE' : (E == 0) = false := by simpa using hE0
    have HR2 := Lib.hid (HR'.out.trans (if_pos hE0))
    go_wp2_with (go_at_call 45; (with_reducible refine (must_no _ _).mono ?_); rintro e5' w5 ⟨rfl, rfl⟩)
    exact ⟨rfl, do_bad HR2.out hE0 (HW.out.base.trans (HB3.out.mono HW.out.base.size))⟩
end Go.Proofs.YtdfckkadmgmcaaaGreatDoor.Space
