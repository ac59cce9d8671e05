/- Spaces: space.Right, walked to its end. -/
import Derived.Test.YtgpddngbccecfaaDoorVc
namespace Go.Proofs.YtgpddngbccecfaaDoor.Space
open Go.RowKit
open Path (Bs bs mk bs_mk mk_bs tl_bs MaxC OwnS rd_cellsS)
open Tree
open Quota (overL)
set_option linter.unusedSimpArgs false
set_option linter.unusedVariables false
theorem parts_ways (s : Sp) : rightT s.nodes = false ∧ partsB s = false ∨ rightT s.nodes = true ∧ Lease.rightB s.leases = false ∧ partsB s = false ∨ rightT s.nodes = true ∧ Lease.rightB s.leases = true ∧ 0 < (overL s.nodes).length ∧ partsB s = false ∨
    rightT s.nodes = true ∧ Lease.rightB s.leases = true ∧ (overL s.nodes).length = 0 ∧ partsB s = true := by
  cases h1 : rightT s.nodes
  · exact .inl ⟨rfl, by rw [partsB, h1]; rfl⟩
  · cases h2 : Lease.rightB s.leases
    · exact .inr (.inl ⟨rfl, rfl, by rw [partsB, h1, h2]; rfl⟩)
    · by_cases h3 : (overL s.nodes).length = 0
      · exact .inr (.inr (.inr ⟨rfl, rfl, h3, by rw [partsB, h1, h2, decide_eq_true h3]; rfl⟩))
      · exact .inr (.inr (.inl ⟨rfl, rfl, by omega, by rw [partsB, h1, h2, decide_eq_false h3]; rfl⟩))
set_option maxRecDepth 8000 in
set_option maxHeartbeats 8000000 in
theorem right_yes (w : World) (s : Sp) (h : RdSp w s) (hM : MaxC w) (hN : numsB s = true) : Calls Tryd.prog 9 #[.agg (spC s)] w fun e w' => e = .returned (.bool (spaceB s)) ∧ Below w.heap.size w w' := by
  have hin := fun W n lo hi => in_calls W n lo hi
  have hb0 := (Below.refl w.heap.size w).alloc (Nat.le_refl _) (.cells #[.int .i64 s.txid, .int .i64 s.nb, .int .i64 s.ng, .int .i64 s.now, s.vn, s.vl] 25 (0, 0))
  have hk0 := heap_alloc_new w (.cells #[.int .i64 s.txid, .int .i64 s.nb, .int .i64 s.ng, .int .i64 s.now, s.vn, s.vl] 25 (0, 0))
  rw [spaceB, hN, Bool.true_and]
  simp only [numsB, Bool.and_eq_true] at hN
  obtain ⟨⟨⟨c1, c2⟩, c3⟩, c4⟩ := hN
  have htr := Tree.right_calls (w.alloc (.cells #[.int .i64 s.txid, .int .i64 s.nb, .int .i64 s.ng, .int .i64 s.now, s.vn, s.vl] 25 (0, 0))) s.vn s.nodes (h.n.below hb0) h.nn (hM.below hb0)
  have hlr := fun W (hW : Below w.heap.size w W) => Lease.right_calls W s.vl s.leases (h.l.below hW (Nat.le_refl _)) h.ln
  have hov := fun W (hW : Below w.heap.size w W) => Quota.over_calls W s.vn s.nodes (h.n.below hW) h.nn (hM.below hW)
  have hways := parts_ways s
  have Hlr := Lib.hid hlr; have Hov := Lib.hid hov; have Hb0 := Lib.hid hb0; have Hk0 := Lib.hid hk0; have Hh := Lib.hid h
  clear hlr hov hb0 hk0 h hM
  go_enter Tryd.func9, Tryd.ntmps9
  rw [spC]
  go_wp2_with (fail)
  refine (hin _ _ _ _).mono ?_; rintro e w1 ⟨rfl, rfl⟩; go_wp2_with (fail)
  refine (hin _ _ _ _).mono ?_; rintro e w1 ⟨rfl, rfl⟩; go_wp2_with (fail)
  refine (hin _ _ _ _).mono ?_; rintro e w1 ⟨rfl, rfl⟩; go_wp2_with (fail)
  refine (hin _ _ _ _).mono ?_; rintro e w1 ⟨rfl, rfl⟩; go_wp2_with (fail)
  clear hin c1 c4
  refine htr.mono ?_
  rintro e w1 ⟨rfl, hb1⟩
  have k1 := (hb1.block w.heap.size (by simp)).trans Hk0.out
  have hw1 : Below w.heap.size w w1 := Hb0.out.trans (hb1.mono (by simp))
  have hs1 : w.heap.size < w1.heap.size := by have := hb1.size; simp at this; omega
  have a4 := cell_of_blk (j := 4) k1
  have a5 := cell_of_blk (j := 5) k1
  simp only [List.getElem?_toArray, List.getElem?_cons_zero, List.getElem?_cons_succ] at a4 a5
  clear htr hb1
  have hlr1 := Hlr.out w1 hw1
  rcases hways with ⟨e1, e2⟩ | ⟨e1, e3, e2⟩ | ⟨e1, e3, e4, e2⟩ | ⟨e1, e3, e4, e2⟩
  · have hf : (partsB s && restB s) = false := by rw [e2]; rfl
    have Hf := Lib.hid hf
    clear hf e2 hlr1 Hov Hlr
    go_wp2_with (fail)
    go_ret
    rw [Hf.out]
    exact ⟨rfl, hw1⟩
  · have hf : (partsB s && restB s) = false := by rw [e2]; rfl
    have Hf := Lib.hid hf
    clear hf e2 Hov Hlr
    go_wp2_with (fail)
    refine hlr1.mono ?_
    rintro e w2 ⟨rfl, hb2⟩
    clear hlr1
    go_wp2_with (fail)
    go_ret
    rw [Hf.out]
    exact ⟨rfl, hw1.trans (hb2.mono (Nat.le_of_lt hs1))⟩
  · have hf : (partsB s && restB s) = false := by rw [e2]; rfl
    have Hf := Lib.hid hf; have K1 := Lib.hid k1
    clear hf e2 Hlr k1
    go_wp2_with (fail)
    refine hlr1.mono ?_
    rintro e w2 ⟨rfl, hb2⟩
    have k2 := (hb2.block w.heap.size hs1).trans K1.out
    have hw2 := hw1.trans (hb2.mono (Nat.le_of_lt hs1))
    have b4 := cell_of_blk (j := 4) k2
    simp only [List.getElem?_toArray, List.getElem?_cons_zero, List.getElem?_cons_succ] at b4
    have hov2 := Hov.out w2 hw2
    clear hlr1 a4 a5 k2 Hov
    go_wp2_with (fail)
    refine hov2.mono ?_
    rintro e w3 ⟨v3, rfl, hO, hb3⟩
    obtain ⟨ao, cap, rfl, _, _, _⟩ := rd_cellsS hO.rd
    have hs2 := hw2.size
    clear hov2 hO b4
    generalize (overL s.nodes).length = L at *
    have e5 : decide (0 < (L : Int)) = true := decide_eq_true (by omega)
    go_wp2_with (fail)
    go_ret
    rw [Hf.out]
    exact ⟨rfl, hw2.trans (hb3.mono hs2)⟩
  · have hf : (partsB s && restB s) = restB s := by rw [e2]; rfl
    have Hf := Lib.hid hf; have K1 := Lib.hid k1
    have E1 := Lib.hid e1; have E4 := Lib.hid e4
    clear e4
    clear hf e2 Hlr k1
    go_wp2_with (fail)
    refine hlr1.mono ?_
    rintro e w2 ⟨rfl, hb2⟩
    have k2 := (hb2.block w.heap.size hs1).trans K1.out
    have hw2 := hw1.trans (hb2.mono (Nat.le_of_lt hs1))
    have b4 := cell_of_blk (j := 4) k2
    simp only [List.getElem?_toArray, List.getElem?_cons_zero, List.getElem?_cons_succ] at b4
    have hov2 := Hov.out w2 hw2
    have hs2 : w.heap.size < w2.heap.size := Nat.lt_of_lt_of_le hs1 hb2.size
    have K2 := Lib.hid k2
    clear hlr1 a4 a5 k2 Hov e1 K1
    go_wp2_with (fail)
    refine hov2.mono ?_
    rintro e w3 ⟨v3, rfl, hO, hb3⟩
    obtain ⟨ao, cap, rfl, _, _, -⟩ := rd_cellsS hO.rd
    have k3 := (hb3.block w.heap.size hs2).trans K2.out
    have hw3 := hw2.trans (hb3.mono (Nat.le_of_lt hs2))
    have hs3 : w.heap.size < w3.heap.size := Nat.lt_of_lt_of_le hs2 hb3.size
    have b4 := cell_of_blk (j := 4) k3
    simp only [List.getElem?_toArray, List.getElem?_cons_zero, List.getElem?_cons_succ] at b4
    clear hov2 hO b4 K2 hw1 hw2 hb2 hb3 hs2 hs1
    generalize (overL s.nodes).length = L at *
    obtain rfl : L = 0 := E4.out
    clear E4
    have hm0 := MapB.made w3
    have hbm : Below w.heap.size w (w3.alloc (.map #[] 0)) := hw3.alloc (Nat.le_of_lt hs3) _
    have k4 := (((Below.refl w3.heap.size w3).alloc (Nat.le_refl _) (.map #[] 0)).block w.heap.size hs3).trans k3
    have b4 := cell_of_blk (j := 4) k4
    simp only [List.getElem?_toArray, List.getElem?_cons_zero, List.getElem?_cons_succ] at b4
    have Hm0 := Lib.hid hm0; have K3 := Lib.hid k3
    have hmm := @run_makeMap Tryd.prog
    obtain ⟨an, cn, hvn, _, _, hcell⟩ := rd_cellsN Hh.out.n.rd
    obtain ⟨_, hl60, _⟩ := Quota.right_node E1.out
    have hfit := fun x hx => right_fit E1.out (x := x) hx
    have hun := fun W (hW : Below w.heap.size w W) c => Lease.until_calls W s.vl s.leases c (Hh.out.l.below hW (Nat.le_refl _)) Hh.out.ln
    have hbl := fun x (hx : x ∈ s.nodes) => rd_cellsB (Hh.out.n.bl x hx)
    have Hcell := Lib.hid hcell; have Hfit := Lib.hid hfit; have Hun := Lib.hid hun; have Hbl := Lib.hid hbl
    rw [hvn] at b4
    clear hm0 k4 k3 hcell hfit hun hbl c2 c3 e3 Hh Hb0 Hk0 hvn
    go_wp2_with (fail)
    clear hmm b4
    have Hw3 := Lib.hid hw3; have Hbm := Lib.hid hbm
    clear hw3 hbm
    generalize hB : w3.heap.size = M at *
    go_loopw [58] (fun vk wr => ∃ k : Nat, vk = .int .i64 k ∧ k ≤ s.nodes.length ∧ MapB wr M (8 * k) (fun i => decide (i ∈ ids (allB (s.nodes.take k)))) ∧ okW s.leases (s.nodes.take k) ∧ okP s.nb s.ng (allB (s.nodes.take k)) ∧ Below M w3 wr) (fun vk _ => s.nodes.length - (intOf vk).toNat)
    case atStart => exact ⟨0, rfl, Nat.zero_le _, Hm0.out, fun x hx => (by cases hx), ⟨List.nodup_nil, fun x hx => (by cases hx)⟩, (by rw [← hB]; exact (Below.refl _ _).alloc (Nat.le_refl _) _)⟩
    case round =>
      obtain ⟨k, rfl, hk, hm, hw, hp, hb⟩ := hrel
      have Hm := Lib.hid hm; have Hw := Lib.hid hw; have Hp := Lib.hid hp
      have hszr : M < wr.heap.size := hm.lt
      clear hm hw hp
      by_cases hlt : k < s.nodes.length
      · obtain ⟨x, hx⟩ : ∃ x, s.nodes[k]? = some x := ⟨s.nodes[k], by simp [hlt]⟩
        have hxm := List.mem_of_getElem? hx
        have hbw : Below w.heap.size w wr := Hw3.out.trans (hb.mono (by omega))
        obtain ⟨b, off, rfl, _, d0, d1, d2, d3, d4⟩ := Hcell.out wr hbw k x hx
        have kr := (hb.block w.heap.size hs3).trans K3.out
        obtain ⟨ax, cx, hbvx, hcx1, hcx2, hbc⟩ := Hbl.out x hxm
        rw [hbvx] at d3
        obtain ⟨hbl8, hbid⟩ := fit_blocks (Hfit.out x hxm)
        have hA : Below wr.heap.size wr (wr.alloc (.cells #[.string x.path, .bool x.dir, .int .i64 x.quota, .slice ax x.blocks.length cx, .int .i64 x.writer] 51 (0, 0))) := (Below.refl _ _).alloc (Nat.le_refl _) _
        have hAk := heap_alloc_new wr (.cells #[.string x.path, .bool x.dir, .int .i64 x.quota, .slice ax x.blocks.length cx, .int .i64 x.writer] 51 (0, 0))
        have hun := Hun.out (wr.alloc (.cells #[.string x.path, .bool x.dir, .int .i64 x.quota, .slice ax x.blocks.length cx, .int .i64 x.writer] 51 (0, 0))) (hbw.trans (hA.mono (by have := hbw.size; omega))) x.writer
        have kA := (hA.block w.heap.size (by omega)).trans kr
        have f5 := cell_of_blk (j := 5) kA
        have f4 := cell_of_blk (j := 4) hAk
        simp only [List.getElem?_toArray, List.getElem?_cons_zero, List.getElem?_cons_succ] at f4 f5
        have hbad := fun h0 hn => rest_no_writer (s := s) hxm h0 hn
        have hokw := fun h => okW_next hx Hw.out h
        have Hx := Lib.hid hx; have Hb := Lib.hid hb; have HA := Lib.hid hA; have HAk := Lib.hid hAk; have Hbc := Lib.hid hbc; have Hbid := Lib.hid hbid; have Hbad := Lib.hid hbad; have Hokw := Lib.hid hokw; have Kr := Lib.hid kr; have KA := Lib.hid kA
        have Hbw := Lib.hid hbw
        clear hx hxm hb hA hAk hbc hbid hbad hokw kr kA hbw hbvx Hw
        go_wp2_with (fail)
        refine hun.mono ?_
        rintro e w5 ⟨rfl, hb5⟩
        have k5 := (hb5.block w.heap.size (by simp; omega)).trans KA.out
        have n5 := (hb5.block wr.heap.size (by simp)).trans HAk.out
        have g4 := cell_of_blk (j := 4) n5
        have g3 := cell_of_blk (j := 3) n5
        simp only [List.getElem?_toArray, List.getElem?_cons_zero, List.getElem?_cons_succ] at g3 g4
        have h5 : Below wr.heap.size wr w5 := HA.out.trans (hb5.mono (by simp))
        have h5M : Below M w3 w5 := Hb.out.trans (h5.mono (by omega))
        have hm5 := Hm.out.below h5 hszr
        have H5M := Lib.hid h5M; have K5 := Lib.hid k5; have H5 := Lib.hid h5
        have hsz5 : M < w5.heap.size := hm5.lt
        have Hm5 := Lib.hid hm5
        clear hun f4 f5 d0 d1 d2 d3 d4 hm5 h5M k5 h5 hb5 n5
        have hways : (decide (x.writer ≥ 0) = true ∧ Lease.untilB x.writer s.leases = false ∧ restB s = false) ∨ (decide (x.writer ≥ 0) = true ∧ Lease.untilB x.writer s.leases = true ∧ okW s.leases (s.nodes.take (k + 1))) ∨ (decide (x.writer ≥ 0) = false ∧ okW s.leases (s.nodes.take (k + 1))) := by
          by_cases h0 : 0 ≤ x.writer
          · cases hu : Lease.untilB x.writer s.leases
            · exact .inl ⟨decide_eq_true h0, rfl, Hbad.out h0 hu⟩
            · exact .inr (.inl ⟨decide_eq_true h0, rfl, Hokw.out fun _ => hu⟩)
          · exact .inr (.inr ⟨decide_eq_false h0, Hokw.out fun h => absurd h h0⟩)
        clear Hbad Hokw Hun Hcell Hbl Hfit
        rcases hways with ⟨v1, v2, v3⟩ | hways
        · have V3 := Lib.hid v3
          clear v3
          go_wp2_with (fail)
          go_ret
          rw [Hf.out, V3.out]
          exact ⟨rfl, Hw3.out.trans (H5M.out.mono (by omega))⟩
        · have hgo : okW s.leases (s.nodes.take (k + 1)) := by rcases hways with ⟨_, _, h⟩ | ⟨_, h⟩ <;> exact h
          have Hgo := Lib.hid hgo
          have hs0 : MapB w5 M (8 * k + 0) (fun i => decide (i ∈ ids (seenL s.nodes k x 0))) := Hm5.out.cong fun i => by simp [seenL]
          have hp0 : okP s.nb s.ng (seenL s.nodes k x 0) := by
            have := Hp.out
            simpa [seenL] using this
          have Hs0 := Lib.hid hs0; have Hp0 := Lib.hid hp0
          clear hgo hs0 hp0 Hm5 Hp Hm
          rcases hways with ⟨v1, v2, -⟩ | ⟨v1, -⟩
          all_goals
            go_wp2_with (fail)
            clear g3 g4
            obtain ⟨w4, rfl⟩ : ∃ w4 : World, w4 = wr := ⟨_, rfl⟩
            go_loopw [80] (fun vj wr => ∃ j : Nat, vj = .int .i64 j ∧ j ≤ x.blocks.length ∧ MapB wr M (8 * k + j) (fun i => decide (i ∈ ids (seenL s.nodes k x j))) ∧ okP s.nb s.ng (seenL s.nodes k x j) ∧ Below M w3 wr) (fun vj _ => x.blocks.length - (intOf vj).toNat)
            case atStart => exact ⟨0, rfl, Nat.zero_le _, Hs0.out, Hp0.out, H5M.out⟩
            case round =>
              obtain ⟨j, rfl, hj, hm, hp, hb⟩ := hrel
              have hsz6 : M < wr.heap.size := hm.lt
              by_cases hjl : j < x.blocks.length
              · obtain ⟨y, hy⟩ : ∃ y, x.blocks[j]? = some y := ⟨x.blocks[j], by simp [hjl]⟩
                obtain ⟨b2, off2, rfl, _, d0, d1, d2⟩ := Hbc.out wr (Hw3.out.trans (hb.mono (by omega))) j y hy
                obtain ⟨y1, y2⟩ := Hbid.out y (List.mem_of_getElem? hy)
                have k6 := (hb.block w.heap.size hs3).trans K3.out
                have hA : Below wr.heap.size wr (wr.alloc (.cells #[.int .i64 y.id, .int .i64 y.gen, .int .i64 y.len] 53 (0, 0))) := (Below.refl _ _).alloc (Nat.le_refl _) _
                have hAk := heap_alloc_new wr (.cells #[.int .i64 y.id, .int .i64 y.gen, .int .i64 y.len] 53 (0, 0))
                have hmA := hm.below hA (by omega)
                have hl := hmA.look (i := y.id) (by constructor <;> omega)
                have kA := (hA.block w.heap.size (by omega)).trans k6
                have f1 := cell_of_blk (j := 1) kA
                have f2 := cell_of_blk (j := 2) kA
                have f3 := cell_of_blk (j := 0) hAk
                have f4 := cell_of_blk (j := 1) hAk
                simp only [List.getElem?_toArray, List.getElem?_cons_zero, List.getElem?_cons_succ] at f1 f2 f3 f4
                have hno := rest_no_block (s := s) Hx.out hy
                have hsn := seen_snoc (l := s.nodes) (k := k) hy
                have HA := Lib.hid hA; have HAk := Lib.hid hAk; have HmA := Lib.hid hmA; have Hno := Lib.hid hno; have Hsn := Lib.hid hsn; have Hb6 := Lib.hid hb; have Hp6 := Lib.hid hp; have KA := Lib.hid kA
                clear hA hAk hmA hno hsn hb hp kA k6 hm hy
                have hw4 : (decide (y.id ∈ ids (seenL s.nodes k x j)) = true ∧ restB s = false) ∨ (decide (y.id ∈ ids (seenL s.nodes k x j)) = false ∧ decide (y.id ≥ s.nb) = true ∧ restB s = false) ∨ (decide (y.id ∈ ids (seenL s.nodes k x j)) = false ∧ decide (y.id ≥ s.nb) = false ∧ decide (y.gen ≥ s.ng) = true ∧ restB s = false) ∨
                    (decide (y.id ∈ ids (seenL s.nodes k x j)) = false ∧ decide (y.id ≥ s.nb) = false ∧ decide (y.gen ≥ s.ng) = false ∧ okP s.nb s.ng (seenL s.nodes k x (j + 1))) := by
                  by_cases z1 : y.id ∈ ids (seenL s.nodes k x j)
                  · exact .inl ⟨decide_eq_true z1, Hno.out (.inl z1)⟩
                  · by_cases z2 : y.id < s.nb
                    · by_cases z3 : y.gen < s.ng
                      · exact .inr (.inr (.inr ⟨decide_eq_false z1, decide_eq_false (by omega), decide_eq_false (by omega), by rw [Hsn.out]; exact ok_snoc.2 ⟨Hp6.out, z1, z2, z3⟩⟩))
                      · exact .inr (.inr (.inl ⟨decide_eq_false z1, decide_eq_false (by omega), decide_eq_true (by omega), Hno.out (.inr (.inr z3))⟩))
                    · exact .inr (.inl ⟨decide_eq_false z1, decide_eq_true (by omega), Hno.out (.inr (.inl z2))⟩)
                clear Hno Hp6
                rcases hw4 with ⟨z1, z4⟩ | ⟨z1, z2, z4⟩ | ⟨z1, z2, z3, z4⟩ | ⟨z1, z2, z3, z4⟩
                · rw [z1] at hl
                  have Hno2 := Lib.hid z4
                  clear z1 z4
                  go_wp2_with (fail); go_ret; rw [Hf.out, Hno2.out]; exact ⟨rfl, Hw3.out.trans ((Hb6.out.trans (HA.out.mono (by omega))).mono (by omega))⟩
                · rw [z1] at hl
                  have Hno2 := Lib.hid z4
                  clear z1 z4
                  go_wp2_with (fail); go_ret; rw [Hf.out, Hno2.out]; exact ⟨rfl, Hw3.out.trans ((Hb6.out.trans (HA.out.mono (by omega))).mono (by omega))⟩
                · rw [z1] at hl
                  have Hno2 := Lib.hid z4
                  clear z1 z4
                  go_wp2_with (fail); go_ret; rw [Hf.out, Hno2.out]; exact ⟨rfl, Hw3.out.trans ((Hb6.out.trans (HA.out.mono (by omega))).mono (by omega))⟩
                · rw [z1] at hl
                  have Hz4 := Lib.hid z4
                  clear z1 z4
                  have hin : inI y.id := by constructor <;> omega
                  go_wp2_with (first | (at_mapUpdate; refine MapB.upd HmA.out (by unfold maxLen; omega) rfl _ _ _ rfl rfl rfl hin rfl ?_; intro w7 hm7 hg7; simp only [Act.put]))
                  go_roundw
                  case rel =>
                    refine ⟨j + 1, by go_num, by omega, ?_, Hz4.out, ?_⟩
                    · rw [← Nat.add_assoc]
                      exact hm7.cong fun i => by rw [Hsn.out, mem_snoc]
                    · exact (Hb6.out.trans (HA.out.mono (by omega))).grown hg7 (by simp; omega) (fun g hg => by cases hg; exact Nat.le_refl _)
                  case measure => simp [intOf]; omega
              · obtain rfl : j = x.blocks.length := by omega
                have hnx := seen_next Hx.out
                rw [hnx] at hm hp
                have Hmm := Lib.hid (hm.mono (n' := 8 * (k + 1)) (by omega)); have Hpp := Lib.hid hp
                clear hm hp hnx
                go_wp2_with (fail)
                go_roundw
                case rel => exact ⟨k + 1, by go_num, by omega, Hmm.out, Hgo.out, Hpp.out, by trivial⟩
                case measure => simp [intOf]; omega
      · obtain rfl : k = s.nodes.length := by omega
        have hend := rest_yes (s := s) (by have := Hw.out; rwa [List.take_length] at this) (by have := Hp.out; rwa [List.take_length] at this)
        have Hend := Lib.hid hend
        clear hend
        go_wp2_with (fail)
        go_ret
        rw [Hf.out, Hend.out]
        exact ⟨rfl, Hw3.out.trans (hb.mono (by omega))⟩
theorem right_calls (w : World) (s : Sp) (h : RdSp w s) (hM : MaxC w) : Calls Tryd.prog 9 #[.agg (spC s)] w fun e w' => e = .returned (.bool (spaceB s)) ∧ Below w.heap.size w w' := by
  cases hN : numsB s
  · exact right_no w s hN
  · exact right_yes w s h hM hN
end Go.Proofs.YtgpddngbccecfaaDoor.Space
