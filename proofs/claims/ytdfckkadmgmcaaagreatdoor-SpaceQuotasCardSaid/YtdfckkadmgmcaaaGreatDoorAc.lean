/- Edits of spaces: space.Apply, where the edit is tried. -/
import Derived.Test.YtdfckkadmgmcaaaGreatDoorAb
import Derived.Test.YtdfckkadmgmcaaaGreatDoorGm
import Derived.Deep.DeepCutAuto
import Derived.Deep.CutBlock
namespace Go.Proofs.YtdfckkadmgmcaaaGreatDoor.Space
open Go.RowKit
open Path (Bs bs mk bs_mk mk_bs tl_bs MaxC splitE splitL parD)
open Tree
set_option linter.unusedSimpArgs false
set_option linter.unusedVariables false
set_option maxRecDepth 100000 in
set_option maxHeartbeats 8000000 in
theorem apply_try (w : World) (s : Sp) (e : Ed) (h : RdSp w s) (hl : Rd w 1 encI e.lv e.lens) (hn : e.lens.length ≤ 17592186044416) (hM : MaxC w) (hs : spaceB s = true) (hed : editB e = true) (hx : s.txid < 300) :
    Calls Tryz.prog 18 #[.agg (spC s), .agg (edC e)] w (ApplyP w (applyE s e)) := by
  have hmf : ∀ (fn : Fn) (first cap : Array Value) (w : World), (Instr.makeFunc fn first cap).run Tryz.prog w = .ok (.func fn first cap) w := fun _ _ _ _ => rfl
  have hRS := (right_iff s).1 hs
  have hEO := (edit_iff e).1 hed
  obtain ⟨A, hA⟩ : ∃ A, A = applyE s e := ⟨_, rfl⟩
  rw [← hA]
  rw [applyE, if_neg (by rw [hs, hed]; simp), if_neg (by omega)] at hA
  have HA := Lib.hid hA
  have hr := fun W (hW : Below w.heap.size w W) => right_calls W s (h.below hW) (hM.below hW)
  have he := fun W (hW : Below w.heap.size w W) => edit_calls W e (hl.below hW (Nat.le_refl _)) hn
  have hc := fun W (hW : Below w.heap.size w W) => clone_calls W s (h.below hW) (by have := hRS.tree.len; omega) (by have := Lease.right_len hRS.lease; omega) (fun x hx => by have := fits_blocks (hRS.tree.fits x hx); omega)
  simp only [spC] at hr hc
  simp only [edC] at he
  obtain ⟨al, cl, hlv, -⟩ := Lease.rd_cellsI hl
  rw [spC, edC, hlv]
  rw [hlv] at he
  obtain ⟨an, cn, hvn, -⟩ := rd_cellsN h.n.rd
  obtain ⟨avl, cvl, hvl, -⟩ := Lease.rd_cells h.l
  rw [hvn, hvl]
  rw [hvn, hvl] at hr hc
  rw [hs] at hr
  rw [hed] at he
  have Hr := Lib.hid hr; have He := Lib.hid he; have Hc := Lib.hid hc; have Hlv := Lib.hid hlv; have Hvn := Lib.hid hvn; have Hvl := Lib.hid hvl; have Hh := Lib.hid h; have Hl := Lib.hid hl; have HM := Lib.hid hM; have HRS := Lib.hid hRS; have HEO := Lib.hid hEO; have Hx := Lib.hid hx
  have q1 : decide (s.txid < 300) = true := decide_eq_true hx
  clear hA hr he hc h hl hM hlv hvn hvl hs hed hx hRS hEO
  go_enter_defers Tryz.func18, Tryz.ntmps18
  go_wp2_with (first
      | (go_at_call 22; (with_reducible refine (Hr.out _ (four_new w _ _ _ _).1).mono ?_); rintro e1 w1 ⟨rfl, hb1⟩; obtain ⟨f1, f2, f3, f4, f5, f6⟩ := four_new w (.cells #[.int .i64 s.txid, .int .i64 s.nb, .int .i64 s.ng, .int .i64 s.now, .slice an s.nodes.length cn, .slice avl s.leases.length cvl] 27 (0, 0)) (.cells #[.int .i64 e.kind, .string e.path, .string e.dst, .int .i64 e.client, .int .i64 e.call, .int .i64 e.n, .slice al e.lens.length cl] 42 (0, 0)) (.cells #[.int .i64 0, .int .i64 0, .int .i64 0, .int .i64 0, .slice none 0 0, .slice none 0 0] 27 (0, 0)) (.cells #[.int .i64 0, .int .i64 0, .int .i64 0, .int .i64 0, .slice none 0 0, .string ⟨#[]⟩, .bool false, .int .i64 0, .slice none 0 0, .int .i64 0, .int .i64 0] 37 (0, 0)); have hc0 : w1.cell? ⟨w.heap.size, 0, none⟩ = some (.int .i64 s.txid) := cell_of_blk ((hb1.block _ (by omega)).trans f2); have HL0 := Lib.hid (lt_of_block ((hb1.block _ (by omega)).trans f2)); obtain ⟨d0, d1, d2, d3, d4, d5, d6⟩ := ed_cells7 ((hb1.block _ (by omega)).trans f3); have KS := Lib.hid ((hb1.block _ (by omega)).trans f2); have KE := Lib.hid ((hb1.block _ (by omega)).trans f3); have k4 := (hb1.block _ (by omega)).trans f4; have k5 := (hb1.block _ (by omega)).trans f5; have Hb1 := Lib.hid (f1.trans (hb1.mono f1.size)); have K4 := Lib.hid k4; have K5 := Lib.hid k5; clear hb1 k4 k5 f1 f4 f5 f6)
      | (go_at_call 46; (with_reducible refine (He.out _ Hb1.out).mono ?_); rintro e3 w3 ⟨rfl, hb3⟩; have hc0 := (hb3.cell (p := ⟨w.heap.size, 0, none⟩) HL0.out).trans hc0; have KS := Lib.hid ((hb3.block _ (lt_of_block KS.out)).trans KS.out); have KE := Lib.hid ((hb3.block _ (lt_of_block KE.out)).trans KE.out); obtain ⟨s0, s1, s2, s3, s4, s5⟩ := sp_cells6 KS.out; obtain ⟨d0, d1, d2, d3, d4, d5, d6⟩ := ed_cells7 KE.out; have K4 := Lib.hid ((hb3.block _ (lt_of_block K4.out)).trans K4.out); have K5 := Lib.hid ((hb3.block _ (lt_of_block K5.out)).trans K5.out); have Hb1 := Lib.hid (Hb1.out.trans (hb3.mono Hb1.out.size)); clear hb3)
      | (go_at_call 45; (with_reducible refine (must_yes _ _).mono ?_); rintro e4 w4 ⟨rfl, rfl⟩))
  have hS := fun W (hW : Below w4.heap.size w4 W) => (show (W.cell? ⟨w.heap.size, 0, none⟩ = some (.int .i64 s.txid) ∧ W.cell? ⟨w.heap.size, 1, none⟩ = some (.int .i64 s.nb) ∧ W.cell? ⟨w.heap.size, 2, none⟩ = some (.int .i64 s.ng) ∧ W.cell? ⟨w.heap.size, 3, none⟩ = some (.int .i64 s.now) ∧ W.cell? ⟨w.heap.size, 4, none⟩ = some (.slice an s.nodes.length cn) ∧ W.cell? ⟨w.heap.size, 5, none⟩ = some (.slice avl s.leases.length cvl)) ∧
      (W.cell? ⟨w.heap.size + 1, 0, none⟩ = some (.int .i64 e.kind) ∧ W.cell? ⟨w.heap.size + 1, 1, none⟩ = some (.string e.path) ∧ W.cell? ⟨w.heap.size + 1, 2, none⟩ = some (.string e.dst) ∧ W.cell? ⟨w.heap.size + 1, 3, none⟩ = some (.int .i64 e.client) ∧ W.cell? ⟨w.heap.size + 1, 4, none⟩ = some (.int .i64 e.call) ∧ W.cell? ⟨w.heap.size + 1, 5, none⟩ = some (.int .i64 e.n) ∧ W.cell? ⟨w.heap.size + 1, 6, none⟩ = some (.slice al e.lens.length cl)) from
    ⟨sp_cells6 ((hW.block _ (lt_of_block KS.out)).trans KS.out), ed_cells7 ((hW.block _ (lt_of_block KE.out)).trans KE.out)⟩)
  have HS := Lib.hid hS
  clear hS hc0
  go_region_held3 (fun w' => w'.cell? ⟨w.heap.size, 0, none⟩ = some (.int .i64 s.txid) ∧ w'.cell? ⟨w.heap.size, 1, none⟩ = some (.int .i64 s.nb) ∧ w'.cell? ⟨w.heap.size, 2, none⟩ = some (.int .i64 s.ng) ∧ w'.cell? ⟨w.heap.size, 3, none⟩ = some (.int .i64 s.now) ∧ w'.cell? ⟨w.heap.size, 4, none⟩ = some (.slice an s.nodes.length cn) ∧ w'.cell? ⟨w.heap.size, 5, none⟩ = some (.slice avl s.leases.length cvl) ∧
      w'.cell? ⟨w.heap.size + 1, 0, none⟩ = some (.int .i64 e.kind) ∧ w'.cell? ⟨w.heap.size + 1, 1, none⟩ = some (.string e.path) ∧ w'.cell? ⟨w.heap.size + 1, 2, none⟩ = some (.string e.dst) ∧ w'.cell? ⟨w.heap.size + 1, 3, none⟩ = some (.int .i64 e.client) ∧ w'.cell? ⟨w.heap.size + 1, 4, none⟩ = some (.int .i64 e.call) ∧ w'.cell? ⟨w.heap.size + 1, 5, none⟩ = some (.int .i64 e.n) ∧ w'.cell? ⟨w.heap.size + 1, 6, none⟩ = some (.slice al e.lens.length cl)) (go_keep)
    (first | (go_at_call 47; refine (Hc.out _ Hb1.out.drew).mono ?_; rintro e5 w5 hp; unfold CloneP at hp; obtain ⟨⟨t, rfl, hst, hot, hap, hlt⟩, hb5⟩ := hp; obtain ⟨at3, ct3, hvt, -⟩ := own_slice hot.own; obtain ⟨at4, ct4, hvt4, -⟩ := own_slice hlt.own; obtain ⟨⟨s0', s1', s2', s3', s4', s5'⟩, ⟨d0', d1', d2', d3', d4', d5', d6'⟩⟩ := HS.out w5 ⟨hb5.os, hb5.tape, hb5.output, hb5.size, hb5.block⟩; have Hb5 := Lib.hid (show Below w4.heap.size w4 w5 from ⟨hb5.os, hb5.tape, hb5.output, hb5.size, hb5.block⟩); have Hot := Lib.hid hot; have Hap := Lib.hid hap; have Hlt := Lib.hid hlt; have Hst := Lib.hid hst; rw [spC, hvt, hvt4]; have Hvt := Lib.hid hvt; have Hvt4 := Lib.hid hvt4; clear hb5 hot hap hlt hst hvt hvt4))
  have b6 : Below w5.heap.size w5 (w5.alloc (.cells #[.int .i64 t.txid, .int .i64 t.nb, .int .i64 t.ng, .int .i64 t.now, .slice at3 t.nodes.length ct3, .slice at4 t.leases.length ct4, .int .i64 e.kind, .string e.path, .string e.dst, .int .i64 e.client, .int .i64 e.call, .int .i64 e.n, .slice al e.lens.length cl] 78 (0, 0))) := (Below.refl _ _).alloc (Nat.le_refl _) _
  have k6 : (w5.alloc (.cells #[.int .i64 t.txid, .int .i64 t.nb, .int .i64 t.ng, .int .i64 t.now, .slice at3 t.nodes.length ct3, .slice at4 t.leases.length ct4, .int .i64 e.kind, .string e.path, .string e.dst, .int .i64 e.client, .int .i64 e.call, .int .i64 e.n, .slice al e.lens.length cl] 78 (0, 0))).heap[w5.heap.size]? = some (.cells #[.int .i64 t.txid, .int .i64 t.nb, .int .i64 t.ng, .int .i64 t.now, .slice at3 t.nodes.length ct3, .slice at4 t.leases.length ct4, .int .i64 e.kind, .string e.path, .string e.dst, .int .i64 e.client, .int .i64 e.call, .int .i64 e.n, .slice al e.lens.length cl] 78 (0, 0)) := heap_alloc_new _ _
  generalize w5.alloc (.cells #[.int .i64 t.txid, .int .i64 t.nb, .int .i64 t.ng, .int .i64 t.now, .slice at3 t.nodes.length ct3, .slice at4 t.leases.length ct4, .int .i64 e.kind, .string e.path, .string e.dst, .int .i64 e.client, .int .i64 e.call, .int .i64 e.n, .slice al e.lens.length cl] 78 (0, 0)) = w6 at *
  have hW4 : Below w4.heap.size w4 w6 := Hb5.out.trans (b6.mono Hb5.out.size)
  have hO : WkO w4 w6 w5.heap.size t e := ⟨by
      have : wkC t e = #[.int .i64 t.txid, .int .i64 t.nb, .int .i64 t.ng, .int .i64 t.now, .slice at3 t.nodes.length ct3, .slice at4 t.leases.length ct4, .int .i64 e.kind, .string e.path, .string e.dst, .int .i64 e.client, .int .i64 e.call, .int .i64 e.n, .slice al e.lens.length cl] := by rw [wkC, Hvt.out, Hvt4.out, Hlv.out]
      rw [this]; exact k6, (Hot.out.up (w := w4) (Nat.le_refl _)).below b6, OwnL.below (show Lease.OwnL w4 w5 t.vl t.leases from ⟨Hlt.out.own, Hlt.out.new⟩) b6, Hl.out.below Hb1.out (Nat.le_refl _), Hb5.out.size, hW4,
      by rw [len_same Hst.out.nodes]; have := HRS.out.tree.len; omega, by rw [Hst.out.leases]; have := Lease.right_len HRS.out.lease; omega⟩
  have hdo := do_calls w4 w6 w5.heap.size t e hO Hap.out (HM.out.below Hb1.out) (right_sameS Hst.out.symm HRS.out) HEO.out
  have hsr := do_same Hst.out e
  have Hdo := Lib.hid hdo; have Hsr := Lib.hid hsr; have HO := Lib.hid hO
  have kb4 := (hW4.block _ (lt_of_block K4.out)).trans K4.out
  have kb5 := (hW4.block _ (lt_of_block K5.out)).trans K5.out
  have HW4 := Lib.hid hW4
  clear hdo hsr hO hW4 b6 k6 kb4 kb5 s0 s1 s2 s3 s4 s5 d0 d1 d2 d3 d4 d5 d6
  by_cases hz : (doE s e).err ≠ 0
  · obtain ⟨E, hE⟩ : ∃ E, E = (doE s e).err := ⟨_, rfl⟩
    have HA2 : Hid (A = noAns E) := Lib.hid (by rw [HA.out, if_pos hz, hE])
    have Hdo2 : Hid (Calls Tryz.prog 48 #[.pointer (some ⟨w5.heap.size, 0, none⟩)] w6 (fun e' w' => e' = amissE E ∧ Below w4.heap.size w4 w')) := Lib.hid (Hdo.out.mono (fun e' w' hp => by
      unfold DoP at hp
      obtain ⟨hb, hp⟩ := hp
      rw [Hsr.out.err, if_pos hz, ← hE] at hp
      exact ⟨hp, hb⟩))
    clear hE hz
    go_wp2_with (go_at_call 48; (with_reducible refine Hdo2.out.mono ?_); rintro e7 w7 ⟨he7, hb7⟩; rw [amissE] at he7; subst he7)
    have K4 := Lib.hid ((hb7.block _ (lt_of_block K4.out)).trans K4.out)
    have K5 := Lib.hid ((hb7.block _ (lt_of_block K5.out)).trans K5.out)
    have Hb1 := Lib.hid (Hb1.out.trans (hb7.mono Hb1.out.size))
    refine leaves_cons (f := 44) (args := #[.pointer (some ⟨w.heap.size + 1 + 1, 0, none⟩), .pointer (some ⟨w.heap.size + 1 + 1 + 1, 0, none⟩)]) (by simp) (by simp [go_sem]) ?_; refine (undo_panicking _ _ _ _ K4.out K5.out (by omega)).mono ?_; rintro e9 u9 w9 ⟨rfl, rfl, kg, kh, hU⟩; exact ⟨_, results_two rfl _ _ _ _ rfl kg Tryz.underlying27 rfl (by kernel_rfl) rfl kh Tryz.underlying37 rfl (by kernel_rfl), apply_out HA2.out (Hb1.out.trans (hU.toBelow (fun k hk => by rcases hk with h | h <;> omega) Hb1.out.size))⟩
  · have hz0 : (doE s e).err = 0 := Classical.not_not.1 hz
    have hgr := do_right HRS.out HEO.out hz0
    obtain ⟨b, hb⟩ : ∃ b, b = (doE t e).b := ⟨_, rfl⟩
    have HA2 : Hid (A = ⟨0, { (doE s e).s with txid := s.txid + 1 }, b, if tells e.kind = true then ((doE s e).s.nodes.find? fun x => bs x.path == bs e.path).getD zeroN else zeroN⟩) := Lib.hid (by rw [HA.out, if_neg hz, hb, Hsr.out.b])
    have Hdo2 : Hid (Calls Tryz.prog 48 #[.pointer (some ⟨w5.heap.size, 0, none⟩)] w6 (fun e' w' => Below w4.heap.size w4 w' ∧ (∃ t2, SameS t2 (doE s e).s ∧ WkO w4 w' w5.heap.size t2 e) ∧ e' = .returned (.agg #[.int .i64 b.id, .int .i64 b.gen, .int .i64 b.len]))) := Lib.hid (Hdo.out.mono (fun e' w' hp => by
      unfold DoP at hp
      obtain ⟨hb2, hp⟩ := hp
      rw [Hsr.out.err, if_neg hz, ← hb] at hp
      obtain ⟨⟨t2, h2, h3⟩, h4⟩ := hp
      exact ⟨hb2, ⟨t2, h2.trans Hsr.out.s, h3⟩, h4⟩))
    have hg5 : w4.heap.size ≤ w5.heap.size := Hb5.out.size
    have hg4 := lt_of_block K5.out
    have g1 : w5.heap.size ≠ w.heap.size + 1 + 1 + 1 := by omega
    have g2 := Ne.symm g1
    have Hgr := Lib.hid hgr; have Hz0 := Lib.hid hz0; have Hb := Lib.hid hb
    clear hgr hz0 hb hz
    go_upto_region 7 with (go_at_call 48; (with_reducible refine Hdo2.out.mono ?_); rintro e7 w7 ⟨hb7, ⟨t2, hst2, hO7⟩, rfl⟩; obtain ⟨a0, a1, a2, a3, a4, a5, a6, a7, a8, a9, a10⟩ := ans_cells ((hb7.block _ (lt_of_block K5.out)).trans K5.out); obtain ⟨y1, y2, y3⟩ := (show w7.frozen? ⟨w.heap.size + 1 + 1 + 1, 1, none⟩ = false ∧ w7.frozen? ⟨w.heap.size + 1 + 1 + 1, 2, none⟩ = false ∧ w7.frozen? ⟨w.heap.size + 1 + 1 + 1, 3, none⟩ = false from ⟨free_of_blk ((hb7.block _ (lt_of_block K5.out)).trans K5.out), free_of_blk ((hb7.block _ (lt_of_block K5.out)).trans K5.out), free_of_blk ((hb7.block _ (lt_of_block K5.out)).trans K5.out)⟩); have c0 := (wkc hO7.rd).1; have z0 : w7.frozen? ⟨w5.heap.size, 0, none⟩ = false := free_of_blk hO7.blk; have x0 : 0 ≤ t2.txid ∧ t2.txid < 300 := (by have h1 := hst2.txid; have h2 := Hgr.out.txid; have h3 := HRS.out.nums.1; have h4 := Hx.out; omega); have HO7 := Lib.hid hO7; have Hb7 := Lib.hid hb7; have Hst2 := Lib.hid hst2; clear hO7 hb7 hst2)
    have hwle := Hb1.out.size
    have hO8 : WkO w w7 w5.heap.size t2 e := ⟨HO7.out.blk, HO7.out.nodes.up hwle, ⟨HO7.out.leases.own, fun g hg => Nat.le_trans hwle (HO7.out.leases.new g hg)⟩, Hl.out, Nat.le_trans hwle HO7.out.new, Hb1.out.trans (HO7.out.base.mono hwle), HO7.out.nn, HO7.out.ln⟩
    have k57 := (Hb7.out.block _ (lt_of_block K5.out)).trans K5.out
    have k47 := (Hb7.out.block _ (lt_of_block K4.out)).trans K4.out
    have ke7 := (Hb7.out.block _ (lt_of_block KE.out)).trans KE.out
    have r1 := own_ne_blk hO8.nodes.own k57 (by decide)
    have r2 := own_ne_blk hO8.leases.own k57 (by decide)
    have r3 := fun x hx => own_ne_blk (hO8.nodes.bl x hx).own k57 (by decide)
    have hN3 : w.heap.size ≤ w.heap.size + 1 + 1 + 1 := by omega
    have hO9 := ((hO8.side (j := 1) (u := .int .i64 b.id) hN3 g1 r1 r2 r3).side (j := 2) (u := .int .i64 b.gen) hN3 g1 r1 r2 r3).side (j := 3) (u := .int .i64 b.len) hN3 g1 r1 r2 r3
    have hO10 := WkO.poke (s' := { t2 with txid := t2.txid + 1 }) (j := 0) (u := .int .i64 (t2.txid + 1)) hO9 rfl hO9.nodes hO9.leases hO9.nn hO9.ln
    have g3 : w.heap.size + 1 + 1 ≠ w.heap.size + 1 + 1 + 1 := by omega
    have g4 : w.heap.size + 1 ≠ w.heap.size + 1 + 1 + 1 := by omega
    have g5 : w.heap.size + 1 + 1 ≠ w5.heap.size := by omega
    have g6 : w.heap.size + 1 ≠ w5.heap.size := by omega
    have ka := (heap_setCell_other _ ⟨w5.heap.size, 0, none⟩ _ (.int .i64 (t2.txid + 1)) g2).trans (heap_setCell_same _ _ 3 _ _ (.int .i64 b.len) (heap_setCell_same _ _ 2 _ _ (.int .i64 b.gen) (heap_setCell_same _ _ 1 _ _ (.int .i64 b.id) k57)))
    simp only [List.setIfInBounds_toArray, List.set_cons_zero, List.set_cons_succ] at ka
    have kz := (heap_setCell_other _ ⟨w5.heap.size, 0, none⟩ _ (.int .i64 (t2.txid + 1)) g5).trans ((heap_setCell_other _ ⟨w.heap.size + 1 + 1 + 1, 3, none⟩ _ (.int .i64 b.len) g3).trans ((heap_setCell_other _ ⟨w.heap.size + 1 + 1 + 1, 2, none⟩ _ (.int .i64 b.gen) g3).trans ((heap_setCell_other _ ⟨w.heap.size + 1 + 1 + 1, 1, none⟩ _ (.int .i64 b.id) g3).trans k47)))
    have ke := (heap_setCell_other _ ⟨w5.heap.size, 0, none⟩ _ (.int .i64 (t2.txid + 1)) g6).trans ((heap_setCell_other _ ⟨w.heap.size + 1 + 1 + 1, 3, none⟩ _ (.int .i64 b.len) g4).trans ((heap_setCell_other _ ⟨w.heap.size + 1 + 1 + 1, 2, none⟩ _ (.int .i64 b.gen) g4).trans ((heap_setCell_other _ ⟨w.heap.size + 1 + 1 + 1, 1, none⟩ _ (.int .i64 b.id) g4).trans ke7)))
    clear k57 k47 ke7 hO8 hO9 r1 r2 r3 a0 a1 a2 a3 a4 a5 a6 a7 a8 a9 a10 y1 y2 y3 c0 z0
    generalize (((w7.setCell ⟨w.heap.size + 1 + 1 + 1, 1, none⟩ (.int .i64 b.id)).setCell ⟨w.heap.size + 1 + 1 + 1, 2, none⟩ (.int .i64 b.gen)).setCell ⟨w.heap.size + 1 + 1 + 1, 3, none⟩ (.int .i64 b.len)).setCell ⟨w5.heap.size, 0, none⟩ (.int .i64 (t2.txid + 1)) = w9 at *
    have HO := Lib.hid hO10; have KA := Lib.hid ka; have KZ := Lib.hid kz; have KE9 := Lib.hid ke
    clear hO10 ka kz ke
    obtain ⟨av5, cv5, hv5, -⟩ := own_slice HO.out.nodes.own
    obtain ⟨av6, cv6, hv6, -⟩ := own_slice HO.out.leases.own
    have Hv5 := Lib.hid hv5; have Hv6 := Lib.hid hv6
    clear hv5 hv6
    have e0 : w9.cell? ⟨w.heap.size + 1, 0, none⟩ = some (.int .i64 e.kind) := cell_of_blk KE9.out
    have hM9 := HM.out.below (HO.out.base)
    have HM9 := Lib.hid hM9
    clear hM9
    go_upto_block 0 with (fail)
    go_cut [] from 38 to 54 (fun wx => ∃ x : Nd, pur x = pur A.n ∧ wx.heap[w.heap.size + 1 + 1 + 1]? = some (.cells #[.int .i64 0, .int .i64 b.id, .int .i64 b.gen, .int .i64 b.len, .slice none 0 0, .string x.path, .bool x.dir, .int .i64 x.quota, x.bv, .int .i64 x.writer, .int .i64 0] 37 (0, 0)) ∧ wx.heap[w.heap.size + 1 + 1]? = some (.cells #[.int .i64 0, .int .i64 0, .int .i64 0, .int .i64 0, .slice none 0 0, .slice none 0 0] 27 (0, 0)) ∧ WkO w wx w5.heap.size { t2 with txid := t2.txid + 1 } e ∧ OwnB w wx x.bv x.blocks)
    case first =>
      go_upto_if 38 with (fail)
      go_cut [38] from 39 to 43 (fun v wx => v = .bool (tells e.kind) ∧ w9 = wx)
      case first =>
        rcases tells_ways e.kind with ⟨q2, ht⟩ | ⟨q2, q5, ht⟩ | ⟨q2, q5, q6, ht⟩ | ⟨q2, q5, q6, q9, ht⟩ | ⟨q2, q5, q6, q9, q10, ht⟩ | ⟨q2, q5, q6, q9, q10, ht⟩
        all_goals
          clear e0
          go_wp2_with (fail)
          go_meet
          exact ⟨by rw [ht], rfl⟩
      case rest =>
      obtain ⟨rfl, rfl⟩ := hcut
      clear e0
      rcases Bool.eq_false_or_eq_true (tells e.kind) with htl | htl
      · have hta := tells_at (t2 := { t2 with txid := t2.txid + 1 }) HRS.out HEO.out htl Hz0.out Hst2.out.nodes
        have HA3 := Lib.hid (show pur A.n = pur (((doE s e).s.nodes.find? fun x => bs x.path == bs e.path).getD zeroN) by rw [HA2.out, if_pos htl])
        rw [htl]
        obtain ⟨k, x, hat, hx, hd, hbl8, hpx⟩ := hta
        have hpos : 0 < ({ t2 with txid := t2.txid + 1 } : Sp).nodes.length * 5 := by have := (List.getElem?_eq_some_iff.1 hx).1; show 0 < t2.nodes.length * 5; simp only at this; omega
        obtain ⟨gn, cap, cur, hvg, -, -, -⟩ := own_form HO.out.nodes.own hpos
        have hfl := file_at w9 w5.heap.size _ e HO.out.rd HM9.out hvg hat hx
        rw [hd, if_neg (by simp)] at hfl
        have hxb := HO.out.nodes.bl x (List.mem_of_getElem? hx)
        obtain ⟨ax, cx, hbv⟩ := bv_slice hxb.rd
        have hg25 : w.heap.size + 1 + 1 ≠ w.heap.size + 1 + 1 + 1 := by omega
        have hN3' : w.heap.size ≤ w.heap.size + 1 + 1 + 1 := by omega
        have hcx := fun Wv (hW : Below w9.heap.size w9 Wv) => (show Wv.cell? ⟨gn, k * 5, none⟩ = some (.string x.path) ∧ Wv.cell? ⟨gn, k * 5 + 1, none⟩ = some (.bool x.dir) ∧ Wv.cell? ⟨gn, k * 5 + 2, none⟩ = some (.int .i64 x.quota) ∧ Wv.cell? ⟨gn, k * 5 + 3, none⟩ = some (.slice ax x.blocks.length cx) ∧ Wv.cell? ⟨gn, k * 5 + 4, none⟩ = some (.int .i64 x.writer) from
          ⟨((HO.out.below hW).cell (j := 0) hvg hx rfl (by decide)).1, ((HO.out.below hW).cell (j := 1) hvg hx rfl (by decide)).1, ((HO.out.below hW).cell (j := 2) hvg hx rfl (by decide)).1, by rw [← hbv]; exact ((HO.out.below hW).cell (j := 3) hvg hx rfl (by decide)).1, ((HO.out.below hW).cell (j := 4) hvg hx rfl (by decide)).1⟩)
        have hput := fun Wv (hW : Below w9.heap.size w9 Wv) => node_put (x := x) (v5 := .string x.path) (v6 := .bool x.dir) (v7 := .int .i64 x.quota) (v8 := .slice ax x.blocks.length cx) (v9 := .int .i64 x.writer) HO.out KA.out KZ.out hN3' g1 hg25 hW hxb
        simp only [Space.setL, Nat.reduceAdd] at hput
        have hya := fun Wv (hW : Below w9.heap.size w9 Wv) => (show (Wv.frozen? ⟨w.heap.size + 1 + 1 + 1, 5, none⟩ = false ∧ Wv.frozen? ⟨w.heap.size + 1 + 1 + 1, 6, none⟩ = false ∧ Wv.frozen? ⟨w.heap.size + 1 + 1 + 1, 7, none⟩ = false ∧ Wv.frozen? ⟨w.heap.size + 1 + 1 + 1, 8, none⟩ = false ∧ Wv.frozen? ⟨w.heap.size + 1 + 1 + 1, 9, none⟩ = false) ∧ Wv.heap[w.heap.size + 1 + 1 + 1]? = some (.cells #[.int .i64 0, .int .i64 b.id, .int .i64 b.gen, .int .i64 b.len, .slice none 0 0, .string ⟨#[]⟩, .bool false, .int .i64 0, .slice none 0 0, .int .i64 0, .int .i64 0] 37 (0, 0)) from
          ⟨⟨free_of_blk ((hW.block _ (lt_of_block KA.out)).trans KA.out), free_of_blk ((hW.block _ (lt_of_block KA.out)).trans KA.out), free_of_blk ((hW.block _ (lt_of_block KA.out)).trans KA.out), free_of_blk ((hW.block _ (lt_of_block KA.out)).trans KA.out), free_of_blk ((hW.block _ (lt_of_block KA.out)).trans KA.out)⟩, (hW.block _ (lt_of_block KA.out)).trans KA.out⟩)
        have hcb := fun Wv (hW : Below w9.heap.size w9 Wv) => cloneB_calls (((((Wv.setCell ⟨w.heap.size + 1 + 1 + 1, 5, none⟩ (.string x.path)).setCell ⟨w.heap.size + 1 + 1 + 1, 6, none⟩ (.bool x.dir)).setCell ⟨w.heap.size + 1 + 1 + 1, 7, none⟩ (.int .i64 x.quota)).setCell ⟨w.heap.size + 1 + 1 + 1, 8, none⟩ (.slice ax x.blocks.length cx)).setCell ⟨w.heap.size + 1 + 1 + 1, 9, none⟩ (.int .i64 x.writer)) x.bv x.blocks (hput Wv hW).2.2.2.rd (by omega)
        rw [hbv] at hcb
        have Hfl := Lib.hid hfl; have Hcx := Lib.hid hcx; have Hput := Lib.hid hput; have Hya := Lib.hid hya; have Hcb := Lib.hid hcb; have Hhx := Lib.hid hxb; have Hpx := Lib.hid hpx
        clear hfl hcx hput hya hcb hxb hpx hat hx hbv hvg hd
        go_wp2_with (first
          | (go_at_call 49; (with_reducible refine Hfl.out.mono ?_); rintro e10 w10 ⟨rfl, hb10⟩; obtain ⟨l0, l1, l2, l3, l4⟩ := Hcx.out w10 hb10; obtain ⟨⟨y5, y6, y7, y8, y9⟩, kA10⟩ := Hya.out w10 hb10; obtain ⟨a0, a1, a2, a3, a4, a5, a6, a7, a8, a9, a10⟩ := ans_cells kA10; have Hb10 := Lib.hid hb10; clear hb10 kA10)
          | (go_at_call 50; (with_reducible refine (Hcb.out _ Hb10.out).mono ?_); rintro e11 w11 ⟨v11, rfl, ho11, hb11⟩; obtain ⟨a11, c11, rfl, -⟩ := own_slice ho11.own; have z8 : w11.frozen? ⟨w.heap.size + 1 + 1 + 1, 8, none⟩ = false := free_of_blk ((hb11.block _ (lt_of_block (Hput.out _ Hb10.out).1)).trans (Hput.out _ Hb10.out).1); have s8 : w11.cell? ⟨w.heap.size + 1 + 1 + 1, 8, none⟩ = some (.slice ax x.blocks.length cx) := cell_of_blk ((hb11.block _ (lt_of_block (Hput.out _ Hb10.out).1)).trans (Hput.out _ Hb10.out).1); have Ho11 := Lib.hid ho11; have Hb11 := Lib.hid hb11; clear ho11 hb11))
        go_meet
        have hend := node_end (x := x) (Hput.out _ Hb10.out).2.2.1 (Hput.out _ Hb10.out).1 (Hput.out _ Hb10.out).2.1 hN3' g1 hg25 Hb11.out Ho11.out
        exact ⟨{ x with bv := .slice a11 x.blocks.length c11 }, Hpx.out.trans HA3.out.symm, hend.1, hend.2.1, hend.2.2.1, hend.2.2.2⟩
      · have HA3 := Lib.hid (show pur zeroN = pur A.n by rw [HA2.out, if_neg (by rw [htl]; simp)])
        rw [htl]
        go_wp2_with (fail)
        go_meet
        exact ⟨zeroN, HA3.out, KA.out, KZ.out, HO.out, OwnB.nil _ _⟩
    case rest =>
    clear KA KZ HO KE9
    generalize wc = w9 at *
    obtain ⟨x, hpx, kA, kZ, hOW, hbx⟩ := hcut
    obtain ⟨ax, cx, hbv⟩ := bv_slice hbx.rd
    rw [hbv] at kA
    have Hbv := Lib.hid hbv
    have KA := Lib.hid kA; have KZ := Lib.hid kZ; have HO := Lib.hid hOW; have Hpx := Lib.hid hpx; have Hbx := Lib.hid hbx
    clear kA kZ hOW hpx hbx hbv
    obtain ⟨c0, c1, c2, c3, c4, c5, -⟩ := wkc HO.out.rd
    rw [Hv5.out] at c4
    rw [Hv6.out] at c5
    obtain ⟨a0, a1, a2, a3, a4, a5, a6, a7, a8, a9, a10⟩ := ans_cells KA.out
    obtain ⟨o0, o1, o2, o3, o4, o5⟩ := sp_cells6 KZ.out
    obtain ⟨z0, z1, z2, z3, z4, z5⟩ := (show w9.frozen? ⟨w.heap.size + 1 + 1, 0, none⟩ = false ∧ w9.frozen? ⟨w.heap.size + 1 + 1, 1, none⟩ = false ∧ w9.frozen? ⟨w.heap.size + 1 + 1, 2, none⟩ = false ∧ w9.frozen? ⟨w.heap.size + 1 + 1, 3, none⟩ = false ∧ w9.frozen? ⟨w.heap.size + 1 + 1, 4, none⟩ = false ∧ w9.frozen? ⟨w.heap.size + 1 + 1, 5, none⟩ = false from ⟨free_of_blk KZ.out, free_of_blk KZ.out, free_of_blk KZ.out, free_of_blk KZ.out, free_of_blk KZ.out, free_of_blk KZ.out⟩)
    obtain ⟨y0, y1, y2, y3, y4, y5, y6, y7, y8, y9, y10⟩ := (show w9.frozen? ⟨w.heap.size + 1 + 1 + 1, 0, none⟩ = false ∧ w9.frozen? ⟨w.heap.size + 1 + 1 + 1, 1, none⟩ = false ∧ w9.frozen? ⟨w.heap.size + 1 + 1 + 1, 2, none⟩ = false ∧ w9.frozen? ⟨w.heap.size + 1 + 1 + 1, 3, none⟩ = false ∧ w9.frozen? ⟨w.heap.size + 1 + 1 + 1, 4, none⟩ = false ∧ w9.frozen? ⟨w.heap.size + 1 + 1 + 1, 5, none⟩ = false ∧ w9.frozen? ⟨w.heap.size + 1 + 1 + 1, 6, none⟩ = false ∧ w9.frozen? ⟨w.heap.size + 1 + 1 + 1, 7, none⟩ = false ∧ w9.frozen? ⟨w.heap.size + 1 + 1 + 1, 8, none⟩ = false ∧ w9.frozen? ⟨w.heap.size + 1 + 1 + 1, 9, none⟩ = false ∧ w9.frozen? ⟨w.heap.size + 1 + 1 + 1, 10, none⟩ = false from ⟨free_of_blk KA.out, free_of_blk KA.out, free_of_blk KA.out, free_of_blk KA.out, free_of_blk KA.out, free_of_blk KA.out, free_of_blk KA.out, free_of_blk KA.out, free_of_blk KA.out, free_of_blk KA.out, free_of_blk KA.out⟩)
    have g7 := Ne.symm g3
    have g8 := Ne.symm g5
    obtain ⟨wF, hwF⟩ : ∃ W, setL (w.heap.size + 1 + 1 + 1) 0 [.int .i64 0, .int .i64 b.id, .int .i64 b.gen, .int .i64 b.len, .slice none 0 0, .string x.path, .bool x.dir, .int .i64 x.quota, .slice ax x.blocks.length cx, .int .i64 x.writer, .int .i64 0] (setL (w.heap.size + 1 + 1) 0 [.int .i64 (t2.txid + 1), .int .i64 t2.nb, .int .i64 t2.ng, .int .i64 t2.now, .slice av5 t2.nodes.length cv5, .slice av6 t2.leases.length cv6] w9) = W := ⟨_, rfl⟩
    have kaF := setL_blk [.int .i64 0, .int .i64 b.id, .int .i64 b.gen, .int .i64 b.len, .slice none 0 0, .string x.path, .bool x.dir, .int .i64 x.quota, .slice ax x.blocks.length cx, .int .i64 x.writer, .int .i64 0] 0 _ _ ((setL_other g7 [.int .i64 (t2.txid + 1), .int .i64 t2.nb, .int .i64 t2.ng, .int .i64 t2.now, .slice av5 t2.nodes.length cv5, .slice av6 t2.leases.length cv6] 0 w9).trans KA.out)
    have kzF := (setL_other g3 [.int .i64 0, .int .i64 b.id, .int .i64 b.gen, .int .i64 b.len, .slice none 0 0, .string x.path, .bool x.dir, .int .i64 x.quota, .slice ax x.blocks.length cx, .int .i64 x.writer, .int .i64 0] 0 _).trans (setL_blk [.int .i64 (t2.txid + 1), .int .i64 t2.nb, .int .i64 t2.ng, .int .i64 t2.now, .slice av5 t2.nodes.length cv5, .slice av6 t2.leases.length cv6] 0 w9 _ KZ.out)
    have kgF := (setL_other g1 [.int .i64 0, .int .i64 b.id, .int .i64 b.gen, .int .i64 b.len, .slice none 0 0, .string x.path, .bool x.dir, .int .i64 x.quota, .slice ax x.blocks.length cx, .int .i64 x.writer, .int .i64 0] 0 _).trans (setL_other g8 [.int .i64 (t2.txid + 1), .int .i64 t2.nb, .int .i64 t2.ng, .int .i64 t2.now, .slice av5 t2.nodes.length cv5, .slice av6 t2.leases.length cv6] 0 w9)
    have hOF := WkO.setL (by omega : w.heap.size ≤ w.heap.size + 1 + 1 + 1) g1 (own_ne_blk HO.out.nodes.own KA.out (by decide)) (own_ne_blk HO.out.leases.own KA.out (by decide)) (fun x hx => own_ne_blk (HO.out.nodes.bl x hx).own KA.out (by decide)) [.int .i64 0, .int .i64 b.id, .int .i64 b.gen, .int .i64 b.len, .slice none 0 0, .string x.path, .bool x.dir, .int .i64 x.quota, .slice ax x.blocks.length cx, .int .i64 x.writer, .int .i64 0] 0 _
      (WkO.setL (by omega : w.heap.size ≤ w.heap.size + 1 + 1) g8 (own_ne_blk HO.out.nodes.own KZ.out (by decide)) (own_ne_blk HO.out.leases.own KZ.out (by decide)) (fun x hx => own_ne_blk (HO.out.nodes.bl x hx).own KZ.out (by decide)) [.int .i64 (t2.txid + 1), .int .i64 t2.nb, .int .i64 t2.ng, .int .i64 t2.now, .slice av5 t2.nodes.length cv5, .slice av6 t2.leases.length cv6] 0 w9 HO.out)
    have hbF := OwnB.setL (w' := w9) (own_ne_blk Hbx.out.own KA.out (by decide)) [.int .i64 0, .int .i64 b.id, .int .i64 b.gen, .int .i64 b.len, .slice none 0 0, .string x.path, .bool x.dir, .int .i64 x.quota, .slice ax x.blocks.length cx, .int .i64 x.writer, .int .i64 0] 0 _ (OwnB.setL (w' := w9) (own_ne_blk Hbx.out.own KZ.out (by decide)) [.int .i64 (t2.txid + 1), .int .i64 t2.nb, .int .i64 t2.ng, .int .i64 t2.now, .slice av5 t2.nodes.length cv5, .slice av6 t2.leases.length cv6] 0 _ Hbx.out)
    rw [hwF] at kaF kzF kgF hOF hbF
    simp only [putL, Nat.reduceAdd, Nat.zero_add, List.setIfInBounds_toArray, List.set_cons_zero, List.set_cons_succ] at kaF kzF
    have haF : wF.cell? ⟨w5.heap.size, 0, none⟩ = some (.int .i64 (t2.txid + 1)) ∧ wF.cell? ⟨w5.heap.size, 1, none⟩ = some (.int .i64 t2.nb) ∧ wF.cell? ⟨w5.heap.size, 2, none⟩ = some (.int .i64 t2.ng) ∧ wF.cell? ⟨w5.heap.size, 3, none⟩ = some (.int .i64 t2.now) ∧ wF.cell? ⟨w5.heap.size, 4, none⟩ = some (.slice av5 t2.nodes.length cv5) ∧ wF.cell? ⟨w5.heap.size, 5, none⟩ = some (.slice av6 t2.leases.length cv6) ∧
      wF.cell? ⟨w.heap.size + 1 + 1 + 1, 0, none⟩ = some (.int .i64 0) ∧ wF.cell? ⟨w.heap.size + 1 + 1 + 1, 1, none⟩ = some (.int .i64 b.id) ∧ wF.cell? ⟨w.heap.size + 1 + 1 + 1, 2, none⟩ = some (.int .i64 b.gen) ∧ wF.cell? ⟨w.heap.size + 1 + 1 + 1, 3, none⟩ = some (.int .i64 b.len) ∧ wF.cell? ⟨w.heap.size + 1 + 1 + 1, 4, none⟩ = some (.slice none 0 0) ∧ wF.cell? ⟨w.heap.size + 1 + 1 + 1, 5, none⟩ = some (.string x.path) ∧ wF.cell? ⟨w.heap.size + 1 + 1 + 1, 6, none⟩ = some (.bool x.dir) ∧ wF.cell? ⟨w.heap.size + 1 + 1 + 1, 7, none⟩ = some (.int .i64 x.quota) ∧ wF.cell? ⟨w.heap.size + 1 + 1 + 1, 8, none⟩ = some (.slice ax x.blocks.length cx) ∧ wF.cell? ⟨w.heap.size + 1 + 1 + 1, 9, none⟩ = some (.int .i64 x.writer) ∧ wF.cell? ⟨w.heap.size + 1 + 1 + 1, 10, none⟩ = some (.int .i64 0) :=
      ⟨(World.cell?_of_block (a := ⟨w5.heap.size, 0, none⟩) kgF).trans c0, (World.cell?_of_block (a := ⟨w5.heap.size, 1, none⟩) kgF).trans c1, (World.cell?_of_block (a := ⟨w5.heap.size, 2, none⟩) kgF).trans c2, (World.cell?_of_block (a := ⟨w5.heap.size, 3, none⟩) kgF).trans c3, (World.cell?_of_block (a := ⟨w5.heap.size, 4, none⟩) kgF).trans c4, (World.cell?_of_block (a := ⟨w5.heap.size, 5, none⟩) kgF).trans c5, ans_cells kaF⟩
    rw [← hwF] at haF
    simp only [setL, Nat.reduceAdd, Nat.zero_add] at hwF haF
    have HaF := Lib.hid haF; have KAF := Lib.hid kaF; have KZF := Lib.hid kzF; have HOF := Lib.hid hOF; have HbF := Lib.hid hbF; have HwF := Lib.hid hwF
    clear kgF haF kaF kzF hOF hbF hwF
    go_wp2_with (fail)
    go_region_held3 (fun w' => w'.cell? ⟨w5.heap.size, 0, none⟩ = some (.int .i64 (t2.txid + 1)) ∧ w'.cell? ⟨w5.heap.size, 1, none⟩ = some (.int .i64 t2.nb) ∧ w'.cell? ⟨w5.heap.size, 2, none⟩ = some (.int .i64 t2.ng) ∧ w'.cell? ⟨w5.heap.size, 3, none⟩ = some (.int .i64 t2.now) ∧ w'.cell? ⟨w5.heap.size, 4, none⟩ = some (.slice av5 t2.nodes.length cv5) ∧ w'.cell? ⟨w5.heap.size, 5, none⟩ = some (.slice av6 t2.leases.length cv6) ∧
      w'.cell? ⟨w.heap.size + 1 + 1 + 1, 0, none⟩ = some (.int .i64 0) ∧ w'.cell? ⟨w.heap.size + 1 + 1 + 1, 1, none⟩ = some (.int .i64 b.id) ∧ w'.cell? ⟨w.heap.size + 1 + 1 + 1, 2, none⟩ = some (.int .i64 b.gen) ∧ w'.cell? ⟨w.heap.size + 1 + 1 + 1, 3, none⟩ = some (.int .i64 b.len) ∧ w'.cell? ⟨w.heap.size + 1 + 1 + 1, 4, none⟩ = some (.slice none 0 0) ∧ w'.cell? ⟨w.heap.size + 1 + 1 + 1, 5, none⟩ = some (.string x.path) ∧ w'.cell? ⟨w.heap.size + 1 + 1 + 1, 6, none⟩ = some (.bool x.dir) ∧ w'.cell? ⟨w.heap.size + 1 + 1 + 1, 7, none⟩ = some (.int .i64 x.quota) ∧ w'.cell? ⟨w.heap.size + 1 + 1 + 1, 8, none⟩ = some (.slice ax x.blocks.length cx) ∧ w'.cell? ⟨w.heap.size + 1 + 1 + 1, 9, none⟩ = some (.int .i64 x.writer) ∧ w'.cell? ⟨w.heap.size + 1 + 1 + 1, 10, none⟩ = some (.int .i64 0)) (first | (simp only [World.cell?_drew]; with_reducible exact HaF.out) | go_keep) (fail)
    rw [HwF.out]
    clear HaF HwF a0 a1 a2 a3 a4 a5 a6 a7 a8 a9 a10 o0 o1 o2 o3 o4 o5 z0 z1 z2 z3 z4 z5 y0 y1 y2 y3 y4 y5 y6 y7 y8 y9 y10 c0 c1 c2 c3 c4 c5
    go_wp2_with (fail)
    refine leaves_cons (f := 44) (args := #[.pointer (some ⟨w.heap.size + 1 + 1, 0, none⟩), .pointer (some ⟨w.heap.size + 1 + 1 + 1, 0, none⟩)]) (by simp) (by simp [go_sem]) ?_
    refine (undo_idle _ _ _).mono ?_
    rintro e9 u9 w10 ⟨rfl, rfl, rfl⟩
    refine ⟨_, results_two rfl _ _ _ _ rfl KZF.out Tryz.underlying27 rfl (by kernel_rfl) rfl KAF.out Tryz.underlying37 rfl (by kernel_rfl), ?_⟩
    refine ⟨⟨{ t2 with txid := t2.txid + 1 }, x, ?_, Hpx.out, ?_, HOF.out.drew.nodes, HOF.out.drew.leases, ⟨HbF.out.own, HbF.out.new⟩⟩, HOF.out.drew.base⟩
    · rw [HA2.out]
      exact ⟨by show t2.txid + 1 = s.txid + 1; rw [Hst2.out.txid, Hgr.out.txid], Hst2.out.nb, Hst2.out.ng, Hst2.out.now, Hst2.out.nodes, Hst2.out.leases⟩
    · rw [HA2.out, spC, ansC]
      show _ = Ending.returned (.tuple #[.agg #[.int .i64 (t2.txid + 1), .int .i64 t2.nb, .int .i64 t2.ng, .int .i64 t2.now, t2.vn, t2.vl], .agg #[.int .i64 0, .int .i64 b.id, .int .i64 b.gen, .int .i64 b.len, .slice none 0 0, .string x.path, .bool x.dir, .int .i64 x.quota, x.bv, .int .i64 x.writer, .int .i64 0]])
      rw [show t2.vn = _ from Hv5.out, show t2.vl = _ from Hv6.out, Hbv.out]
end Go.Proofs.YtdfckkadmgmcaaaGreatDoor.Space
