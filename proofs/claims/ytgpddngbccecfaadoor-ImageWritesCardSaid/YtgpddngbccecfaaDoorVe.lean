/- Spaces: the document's Right, walked. -/
import Derived.Test.YtgpddngbccecfaaDoorVd
namespace Go.Proofs.YtgpddngbccecfaaDoor.Space
open Go.RowKit
open Path (Bs bs mk bs_mk mk_bs tl_bs MaxC OwnS rd_cellsS)
open Tree
open Quota (overL)
set_option linter.unusedSimpArgs false
set_option linter.unusedVariables false
theorem no_nums {s : Sp} (h : ¬ numsB s = true) : spaceB s = false := by
  have : numsB s = false := by simpa using h
  rw [spaceB, this]; rfl
theorem grown_below {w w' : World} (h : Below w.heap.size w w') : w.grownBy w' none := ⟨h.os, h.tape, h.output, h.size, fun k hk _ => h.block k hk⟩
theorem own_below {w w' w'' : World} {v : Value} {q : List Int} (h : Lease.OwnI w w' v q) (hb : Below w'.heap.size w' w'') : Lease.OwnI w w'' v q := ⟨h.own.kept (grown_below hb) (by cases v.ownBlock <;> simp), h.new⟩
theorem own_lt {w w' : World} {v : Value} {q : List Int} (h : Lease.OwnI w w' v q) {g : Nat} (hg : v.ownBlock = some g) : g < w'.heap.size := by
  rcases h.own.2 with ⟨rfl, _⟩ | ⟨g1, cap, cur, rfl, _, h1, _⟩
  · simp [Value.ownBlock] at hg
  · have : g1 = g := by simpa [Value.ownBlock] using hg
    subst this
    exact lt_of_block h1
theorem allB_len : ∀ (l : List Nd), (∀ x ∈ l, x.blocks.length ≤ 8) → (allB l).length ≤ 8 * l.length
  | [], _ => Nat.le_refl _
  | x :: t, h => by
    have h1 := h x (by simp)
    have h2 := allB_len t fun y hy => h y (List.mem_cons_of_mem _ hy)
    simp only [allB, List.flatMap_cons, List.length_append, List.length_cons] at h2 ⊢
    omega
theorem seen_len {l : List Nd} {k j : Nat} {x : Nd} (h : (allB (l.take k)).length ≤ 8 * k) : (ids (seenL l k x j)).length ≤ 8 * k + j := by
  rw [ids, List.length_map, seenL, List.length_append, List.length_take]
  omega
theorem no_parts {s : Sp} (h : partsB s = false) : spaceB s = false := by rw [spaceB, h, Bool.and_false]; rfl
set_option maxRecDepth 8000 in
set_option maxHeartbeats 8000000 in
theorem rright_calls (w : World) (s : Sp) (h : RdSp w s) : Calls Tryd.prog 16 #[.agg (spC s)] w fun e w' => e = .returned (.bool (spaceB s)) ∧ Below w.heap.size w w' := by
  have hb0 := (Below.refl w.heap.size w).alloc (Nat.le_refl _) (.cells #[.int .i64 s.txid, .int .i64 s.nb, .int .i64 s.ng, .int .i64 s.now, s.vn, s.vl] 25 (0, 0))
  have hk0 := heap_alloc_new w (.cells #[.int .i64 s.txid, .int .i64 s.nb, .int .i64 s.ng, .int .i64 s.now, s.vn, s.vl] 25 (0, 0))
  have htr := Tree.rright_calls (w.alloc (.cells #[.int .i64 s.txid, .int .i64 s.nb, .int .i64 s.ng, .int .i64 s.now, s.vn, s.vl] 25 (0, 0))) s.vn s.nodes (h.n.below hb0) h.nn
  have hlr := fun W (hW : Below w.heap.size w W) => Lease.rright_calls W s.vl s.leases (h.l.below hW (Nat.le_refl _)) h.ln
  have hov := fun W (hW : Below w.heap.size w W) => Quota.rover_calls W s.vn s.nodes (h.n.below hW) h.nn
  have hways := parts_ways s
  have Hlr := Lib.hid hlr; have Hov := Lib.hid hov; have Hb0 := Lib.hid hb0; have Hk0 := Lib.hid hk0; have Hh := Lib.hid h; have Hways := Lib.hid hways
  clear hlr hov hb0 hk0 h hways
  go_enter Tryd.func16, Tryd.ntmps16
  rw [spC]
  go_wp2_with (fail)
  refine htr.mono ?_
  rintro e w1 ⟨rfl, hb1⟩
  have k1 := (hb1.block w.heap.size (by simp)).trans Hk0.out
  have hw1 : Below w.heap.size w w1 := Hb0.out.trans (hb1.mono (by simp))
  have hs1 : w.heap.size < w1.heap.size := by have := hb1.size; simp at this; omega
  have a5 := cell_of_blk (j := 5) k1
  simp only [List.getElem?_toArray, List.getElem?_cons_zero, List.getElem?_cons_succ] at a5
  have hlr1 := Hlr.out w1 hw1
  have K1 := Lib.hid k1
  clear htr hb1 k1 Hlr
  go_wp2_with (fail)
  refine hlr1.mono ?_
  rintro e w2 ⟨rfl, hb2⟩
  have k2 := (hb2.block w.heap.size hs1).trans K1.out
  have hw2 := hw1.trans (hb2.mono (Nat.le_of_lt hs1))
  have hs2 : w.heap.size < w2.heap.size := Nat.lt_of_lt_of_le hs1 hb2.size
  have b0 := cell_of_blk (j := 0) k2
  have b1 := cell_of_blk (j := 1) k2
  have b2 := cell_of_blk (j := 2) k2
  have b3 := cell_of_blk (j := 3) k2
  have b4 := cell_of_blk (j := 4) k2
  simp only [List.getElem?_toArray, List.getElem?_cons_zero, List.getElem?_cons_succ] at b0 b1 b2 b3 b4
  have K2 := Lib.hid k2
  clear hlr1 a5 hb2 k2 hw1 hs1 K1
  rcases Bool.eq_false_or_eq_true (decide (s.txid < 0)) with q | q0
  · (have hf : spaceB s = false := no_nums (fun hN => by simp only [numsB, inB, Bool.and_eq_true, decide_eq_true_eq] at hN; simp only [decide_eq_true_eq] at q; omega)); (have Hf := Lib.hid hf); (clear hf); (go_wp2_with (fail)); go_ret; rw [Hf.out]; exact ⟨rfl, hw2⟩
  rcases Bool.eq_false_or_eq_true (decide (300 < s.txid)) with q | q1
  · (have hf : spaceB s = false := no_nums (fun hN => by simp only [numsB, inB, Bool.and_eq_true, decide_eq_true_eq] at hN; simp only [decide_eq_true_eq] at q; omega)); (have Hf := Lib.hid hf); (clear hf); (go_wp2_with (fail)); go_ret; rw [Hf.out]; exact ⟨rfl, hw2⟩
  rcases Bool.eq_false_or_eq_true (decide (s.nb < 1)) with q | q2
  · (have hf : spaceB s = false := no_nums (fun hN => by simp only [numsB, inB, Bool.and_eq_true, decide_eq_true_eq] at hN; simp only [decide_eq_true_eq] at q; omega)); (have Hf := Lib.hid hf); (clear hf); (go_wp2_with (fail)); go_ret; rw [Hf.out]; exact ⟨rfl, hw2⟩
  rcases Bool.eq_false_or_eq_true (decide (9007199254740991 < s.nb)) with q | q3
  · (have hf : spaceB s = false := no_nums (fun hN => by simp only [numsB, inB, Bool.and_eq_true, decide_eq_true_eq] at hN; simp only [decide_eq_true_eq] at q; omega)); (have Hf := Lib.hid hf); (clear hf); (go_wp2_with (fail)); go_ret; rw [Hf.out]; exact ⟨rfl, hw2⟩
  rcases Bool.eq_false_or_eq_true (decide (s.ng < 1)) with q | q4
  · (have hf : spaceB s = false := no_nums (fun hN => by simp only [numsB, inB, Bool.and_eq_true, decide_eq_true_eq] at hN; simp only [decide_eq_true_eq] at q; omega)); (have Hf := Lib.hid hf); (clear hf); (go_wp2_with (fail)); go_ret; rw [Hf.out]; exact ⟨rfl, hw2⟩
  rcases Bool.eq_false_or_eq_true (decide (9007199254740991 < s.ng)) with q | q5
  · (have hf : spaceB s = false := no_nums (fun hN => by simp only [numsB, inB, Bool.and_eq_true, decide_eq_true_eq] at hN; simp only [decide_eq_true_eq] at q; omega)); (have Hf := Lib.hid hf); (clear hf); (go_wp2_with (fail)); go_ret; rw [Hf.out]; exact ⟨rfl, hw2⟩
  rcases Bool.eq_false_or_eq_true (decide (s.now < 0)) with q | q6
  · (have hf : spaceB s = false := no_nums (fun hN => by simp only [numsB, inB, Bool.and_eq_true, decide_eq_true_eq] at hN; simp only [decide_eq_true_eq] at q; omega)); (have Hf := Lib.hid hf); (clear hf); (go_wp2_with (fail)); go_ret; rw [Hf.out]; exact ⟨rfl, hw2⟩
  rcases Bool.eq_false_or_eq_true (decide (9007199254740981 < s.now)) with q | q7
  · (have hf : spaceB s = false := no_nums (fun hN => by simp only [numsB, inB, Bool.and_eq_true, decide_eq_true_eq] at hN; simp only [decide_eq_true_eq] at q; omega)); (have Hf := Lib.hid hf); (clear hf); (go_wp2_with (fail)); go_ret; rw [Hf.out]; exact ⟨rfl, hw2⟩
  have hN : numsB s = true := by
    simp only [decide_eq_false_iff_not] at q0 q1 q2 q3 q4 q5 q6 q7
    simp only [numsB, inB, Bool.and_eq_true, decide_eq_true_eq]
    omega
  have HN := Lib.hid hN
  clear hN
  rcases Hways.out with ⟨e1, e2⟩ | ⟨e1, e3, e2⟩ | ⟨e1, e3, e4, e2⟩ | ⟨e1, e3, e4, e2⟩
  · have hf := no_parts e2
    have Hf := Lib.hid hf
    clear hf e2
    go_wp2_with (fail)
    go_ret
    rw [Hf.out]; exact ⟨rfl, hw2⟩
  · have hf := no_parts e2
    have Hf := Lib.hid hf
    clear hf e2
    go_wp2_with (fail)
    go_ret
    rw [Hf.out]; exact ⟨rfl, hw2⟩
  · have hf := no_parts e2
    have Hf := Lib.hid hf; have E4 := Lib.hid e4
    have hov2 := Hov.out w2 hw2
    clear hf e2 e4 Hov Hways
    go_wp2_with (fail)
    refine hov2.mono ?_
    rintro e w3 ⟨v3, rfl, hO, hb3⟩
    obtain ⟨ao, cap, rfl, _, _, -⟩ := rd_cellsS hO.rd
    clear hov2 hO b4
    generalize (overL s.nodes).length = L at *
    have e5 : decide (0 < (L : Int)) = true := by have := E4.out; exact decide_eq_true (by omega)
    go_wp2_with (fail)
    go_ret
    rw [Hf.out]
    exact ⟨rfl, hw2.trans (hb3.mono (Nat.le_of_lt hs2))⟩
  · have hf : spaceB s = restB s := by rw [spaceB, HN.out, e2]; rfl
    have Hf := Lib.hid hf; have E1 := Lib.hid e1; have E4 := Lib.hid e4
    have hov2 := Hov.out w2 hw2
    clear hf e2 e4 Hov Hways
    go_wp2_with (fail)
    refine hov2.mono ?_
    rintro e w3 ⟨v3, rfl, hO, hb3⟩
    obtain ⟨ao, cap, rfl, _, _, -⟩ := rd_cellsS hO.rd
    have k3 := (hb3.block w.heap.size hs2).trans K2.out
    have hw3 := hw2.trans (hb3.mono (Nat.le_of_lt hs2))
    have hs3 : w.heap.size < w3.heap.size := Nat.lt_of_lt_of_le hs2 hb3.size
    clear hov2 hO b0 b1 b2 b3 b4 K2 hw2 hb3 hs2 q0 q1 q2 q3 q4 q5 q6 q7 HN e1 e3 Hb0 Hk0
    generalize (overL s.nodes).length = L at *
    obtain rfl : L = 0 := E4.out
    obtain ⟨an, cn, hvn, _, _, hcell⟩ := rd_cellsN Hh.out.n.rd
    obtain ⟨_, hl60, _⟩ := Quota.right_node E1.out
    have hfit := fun x hx => right_fit E1.out (x := x) hx
    have hun := fun W (hW : Below w.heap.size w W) c => Lease.runtil_calls W s.vl s.leases c (Hh.out.l.below hW (Nat.le_refl _)) Hh.out.ln
    have hbl := fun x (hx : x ∈ s.nodes) => rd_cellsB (Hh.out.n.bl x hx)
    have Hcell := Lib.hid hcell; have Hfit := Lib.hid hfit; have Hun := Lib.hid hun; have Hbl := Lib.hid hbl; have K3 := Lib.hid k3; have Hw3 := Lib.hid hw3
    clear hcell hfit hun hbl Hh k3 hw3 E4
    go_wp2_with (fail)
    have hn0 : Lease.OwnI w3 w3 (.slice none 0 0) [] := ⟨World.ownsRow_nil _ _ _ _, fun g h => by simp [Value.ownBlock] at h⟩
    have Hn0 := Lib.hid hn0; have Hvn := Lib.hid hvn
    clear hn0 hvn
    go_loopw [5, 6] (fun vi vk wr => ∃ k : Nat, vk = .int .i64 k ∧ k ≤ s.nodes.length ∧ Lease.OwnI w3 wr vi (ids (allB (s.nodes.take k))) ∧ okW s.leases (s.nodes.take k) ∧ okP s.nb s.ng (allB (s.nodes.take k)) ∧ Below w3.heap.size w3 wr) (fun _ vk _ => s.nodes.length - (intOf vk).toNat)
    case atStart => exact ⟨0, rfl, Nat.zero_le _, Hn0.out, fun x hx => (by cases hx), ⟨List.nodup_nil, fun x hx => (by cases hx)⟩, Below.refl _ _⟩
    case round =>
      obtain ⟨k, rfl, hk, hO, hw, hp, hb⟩ := hrel
      have Hw := Lib.hid hw; have Hp := Lib.hid hp; have HO := Lib.hid hO
      have hszr := hb.size
      clear hw hp hO
      have hbw : Below w.heap.size w wr := Hw3.out.trans (hb.mono (by omega))
      have kr := (hb.block w.heap.size hs3).trans K3.out
      have r4 := cell_of_blk (j := 4) kr
      have r5 := cell_of_blk (j := 5) kr
      simp only [List.getElem?_toArray, List.getElem?_cons_zero, List.getElem?_cons_succ] at r4 r5
      rw [Hvn.out] at r4
      have Kr := Lib.hid kr; have Hb := Lib.hid hb; have Hbw := Lib.hid hbw
      clear kr hb hbw
      by_cases hlt : k < s.nodes.length
      · obtain ⟨x, hx⟩ : ∃ x, s.nodes[k]? = some x := ⟨s.nodes[k], by simp [hlt]⟩
        have hxm := List.mem_of_getElem? hx
        obtain ⟨b, off, rfl, _, d0, d1, d2, d3, d4⟩ := Hcell.out wr Hbw.out k x hx
        obtain ⟨ax, cx, hbvx, hcx1, hcx2, hbc⟩ := Hbl.out x hxm
        rw [hbvx] at d3
        obtain ⟨hbl8, hbid⟩ := fit_blocks (Hfit.out x hxm)
        have hA : Below wr.heap.size wr (wr.alloc (.cells #[.string x.path, .bool x.dir, .int .i64 x.quota, .slice ax x.blocks.length cx, .int .i64 x.writer] 51 (0, 0))) := (Below.refl _ _).alloc (Nat.le_refl _) _
        have hAk := heap_alloc_new wr (.cells #[.string x.path, .bool x.dir, .int .i64 x.quota, .slice ax x.blocks.length cx, .int .i64 x.writer] 51 (0, 0))
        have hun := Hun.out (wr.alloc (.cells #[.string x.path, .bool x.dir, .int .i64 x.quota, .slice ax x.blocks.length cx, .int .i64 x.writer] 51 (0, 0))) (Hbw.out.trans (hA.mono (by have := Hbw.out.size; omega))) x.writer
        have kA := (hA.block w.heap.size (by omega)).trans Kr.out
        have f5 := cell_of_blk (j := 5) kA
        have f4 := cell_of_blk (j := 4) hAk
        simp only [List.getElem?_toArray, List.getElem?_cons_zero, List.getElem?_cons_succ] at f4 f5
        have hbad := fun h0 hn => rest_no_writer (s := s) hxm h0 hn
        have hokw := fun h => okW_next hx Hw.out h
        have hak : (allB (s.nodes.take k)).length ≤ 8 * k := by
          have h1 := allB_len (s.nodes.take k) fun y hy => (fit_blocks (Hfit.out y (List.mem_of_mem_take hy))).1
          rw [List.length_take] at h1
          omega
        have Hx := Lib.hid hx; have HA := Lib.hid hA; have HAk := Lib.hid hAk; have Hbc := Lib.hid hbc; have Hbid := Lib.hid hbid; have Hbad := Lib.hid hbad; have Hokw := Lib.hid hokw; have KA := Lib.hid kA
        clear hx hxm hA hAk hbc hbid hbad hokw kA hbvx Hw
        go_wp2_with (fail)
        refine hun.mono ?_
        rintro e w5 ⟨rfl, hb5⟩
        have k5 := (hb5.block w.heap.size (by simp; omega)).trans KA.out
        have n5 := (hb5.block wr.heap.size (by simp)).trans HAk.out
        have g4 := cell_of_blk (j := 4) n5
        simp only [List.getElem?_toArray, List.getElem?_cons_zero, List.getElem?_cons_succ] at g4
        have h5 : Below wr.heap.size wr w5 := HA.out.trans (hb5.mono (by simp))
        have h5M : Below w3.heap.size w3 w5 := Hb.out.trans (h5.mono (by omega))
        have hO5 := own_below HO.out h5
        have hne := fun g hg => Nat.ne_of_lt (own_lt HO.out (g := g) hg)
        have H5M := Lib.hid h5M; have N5 := Lib.hid n5; have HO5 := Lib.hid hO5; have Hne := Lib.hid hne
        have hsz5 : wr.heap.size < w5.heap.size := lt_of_block n5
        clear hun f4 f5 d0 d1 d2 d3 d4 hO5 h5M k5 h5 hb5 n5 hne
        have hways : (decide (x.writer ≥ 0) = true ∧ Lease.untilB x.writer s.leases = false ∧ restB s = false) ∨ (decide (x.writer ≥ 0) = true ∧ Lease.untilB x.writer s.leases = true ∧ okW s.leases (s.nodes.take (k + 1))) ∨ (decide (x.writer ≥ 0) = false ∧ okW s.leases (s.nodes.take (k + 1))) := by
          by_cases h0 : 0 ≤ x.writer
          · cases hu : Lease.untilB x.writer s.leases
            · exact .inl ⟨decide_eq_true h0, rfl, Hbad.out h0 hu⟩
            · exact .inr (.inl ⟨decide_eq_true h0, rfl, Hokw.out fun _ => hu⟩)
          · exact .inr (.inr ⟨decide_eq_false h0, Hokw.out fun h => absurd h h0⟩)
        clear Hbad Hokw Hun Hcell Hbl Hfit
        rcases hways with ⟨v1, v2, v3⟩ | hways
        · have V3 := Lib.hid v3
          clear v3
          go_wp2_with (fail)
          go_ret
          rw [Hf.out, V3.out]
          exact ⟨rfl, Hw3.out.trans (H5M.out.mono (by omega))⟩
        · have hgo : okW s.leases (s.nodes.take (k + 1)) := by rcases hways with ⟨_, _, h⟩ | ⟨_, h⟩ <;> exact h
          have Hgo := Lib.hid hgo
          have e0 : seenL s.nodes k x 0 = allB (s.nodes.take k) := by simp [seenL]
          have hp0 : okP s.nb s.ng (seenL s.nodes k x 0) := by rw [e0]; exact Hp.out
          have hO0 := HO5.out
          rw [← e0] at hO0
          have Hp0 := Lib.hid hp0; have HO0 := Lib.hid hO0
          clear hgo hp0 Hp hO0 HO5 HO e0
          rcases hways with ⟨v1, v2, -⟩ | ⟨v1, -⟩
          all_goals
            go_wp2_with (fail)
            clear g4
            obtain ⟨w4, rfl⟩ : ∃ w4 : World, w4 = wr := ⟨_, rfl⟩
            go_loopw [5, 10] (fun vi vj wr => ∃ j : Nat, vj = .int .i64 j ∧ j ≤ x.blocks.length ∧ Lease.OwnI w3 wr vi (ids (seenL s.nodes k x j)) ∧ okP s.nb s.ng (seenL s.nodes k x j) ∧ Below w3.heap.size w3 wr ∧ wr.heap[w4.heap.size]? = some (.cells #[.string x.path, .bool x.dir, .int .i64 x.quota, .slice ax x.blocks.length cx, .int .i64 x.writer] 51 (0, 0)) ∧ (∀ g, vi.ownBlock = some g → g ≠ w4.heap.size)) (fun _ vj _ => x.blocks.length - (intOf vj).toNat)
            case atStart => exact ⟨0, rfl, Nat.zero_le _, HO0.out, Hp0.out, H5M.out, N5.out, Hne.out⟩
            case round =>
              obtain ⟨j, rfl, hj, hO, hp, hb, hn, hne⟩ := hrel
              have g3 := cell_of_blk (j := 3) hn
              simp only [List.getElem?_toArray, List.getElem?_cons_zero, List.getElem?_cons_succ] at g3
              have HO6 := Lib.hid hO; have Hp6 := Lib.hid hp; have Hb6 := Lib.hid hb; have Hn6 := Lib.hid hn; have Hne6 := Lib.hid hne
              have hsz6 := hb.size
              clear hO hp hb hn hne
              by_cases hjl : j < x.blocks.length
              · obtain ⟨y, hy⟩ : ∃ y, x.blocks[j]? = some y := ⟨x.blocks[j], by simp [hjl]⟩
                obtain ⟨b2, off2, rfl, _, d0, d1, d2⟩ := Hbc.out wr (Hw3.out.trans (Hb6.out.mono (by omega))) j y hy
                obtain ⟨y1, y2⟩ := Hbid.out y (List.mem_of_getElem? hy)
                have hno := rest_no_block (s := s) Hx.out hy
                have hsn := seen_snoc (l := s.nodes) (k := k) hy
                have hlm := seen_len (l := s.nodes) (k := k) (x := x) (j := j) hak
                obtain ⟨ai, ci, rfl, hci, hic⟩ := Lease.rd_cellsI (Rd.of_own Lease.encI_len HO6.out.own)
                have k6 := (Hb6.out.block w.heap.size hs3).trans K3.out
                have hA : Below wr.heap.size wr (wr.alloc (.cells #[.int .i64 y.id, .int .i64 y.gen, .int .i64 y.len] 53 (0, 0))) := (Below.refl _ _).alloc (Nat.le_refl _) _
                have hAk := heap_alloc_new wr (.cells #[.int .i64 y.id, .int .i64 y.gen, .int .i64 y.len] 53 (0, 0))
                have Hno := Lib.hid hno; have Hsn := Lib.hid hsn; have Hic := Lib.hid hic; have K6 := Lib.hid k6; have HA := Lib.hid hA; have HAk := Lib.hid hAk
                clear hno hsn hic k6 hA hAk hy
                go_wp2_with (fail)
                clear d0 d1 d2 g3
                obtain ⟨w6, rfl⟩ : ∃ w6 : World, w6 = wr := ⟨_, rfl⟩
                generalize hLL : ids (seenL s.nodes k x j) = L at *
                go_loopw [12] (fun vt wr => ∃ i n : Nat, vt = .int .i64 i ∧ i ≤ L.length ∧ (∀ t, t < i → L[t]? ≠ some y.id) ∧ wr = (w6.alloc (.cells #[.int .i64 y.id, .int .i64 y.gen, .int .i64 y.len] 53 (0, 0))).drewN n) (fun vt _ => L.length - (intOf vt).toNat)
                case atStart => exact ⟨0, 0, rfl, Nat.zero_le _, fun t ht => absurd ht (Nat.not_lt_zero _), rfl⟩
                case round =>
                  obtain ⟨i, n, rfl, hi, hall, hw⟩ := hrel
                  subst hw
                  have Hall := Lib.hid hall
                  clear hall
                  by_cases hil : i < L.length
                  · obtain ⟨z, hz⟩ : ∃ z, L[i]? = some z := ⟨L[i], by simp [hil]⟩
                    obtain ⟨b3, off3, rfl, _, c0⟩ := Hic.out (w6.alloc (.cells #[.int .i64 y.id, .int .i64 y.gen, .int .i64 y.len] 53 (0, 0))) HA.out i z hz
                    have f3 := cell_of_blk (j := 0) HAk.out
                    simp only [List.getElem?_toArray, List.getElem?_cons_zero, List.getElem?_cons_succ] at f3
                    have hbz := Below.trans HA.out ((Path.below_drewN (w6.alloc (.cells #[.int .i64 y.id, .int .i64 y.gen, .int .i64 y.len] 53 (0, 0))) n).mono (by simp))
                    by_cases hzy : z = y.id
                    · have hno2 : restB s = false := Hno.out (.inl (by rw [← hzy]; exact List.mem_of_getElem? hz))
                      have q : (z == y.id) = true := by simp [hzy]
                      have Hno2 := Lib.hid hno2; have Hbz := Lib.hid hbz
                      clear hno2 hz hzy hbz
                      go_wp2_with (fail)
                      go_quiet (fail)
                      go_wp2_with (fail)
                      go_ret
                      rw [Hf.out, Hno2.out]
                      refine ⟨rfl, Hw3.out.trans ((Hb6.out.trans ((Hbz.out.trans ((Path.below_drewN _ _).mono (by simp))).mono hsz6)).mono (by omega))⟩
                    · have q : (z == y.id) = false := beq_false_of_ne hzy
                      have hnx : ∀ t, t < i + 1 → L[t]? ≠ some y.id := fun t ht => by
                        by_cases e : t < i
                        · exact Hall.out t e
                        · obtain rfl : t = i := by omega
                          rw [hz]; exact fun e => hzy (Option.some.inj e)
                      have Hnx := Lib.hid hnx
                      clear hnx hz hzy hbz
                      go_wp2_with (fail)
                      go_quiet (fail)
                      go_wp2_with (fail)
                      go_roundw
                      case rel => exact ⟨i + 1, _, by go_num, by omega, Hnx.out, rfl⟩
                      case measure => simp [intOf]; omega
                  · obtain rfl : i = L.length := by omega
                    have hnin : y.id ∉ L := fun hm => by
                      obtain ⟨t, ht, hte⟩ := List.mem_iff_getElem.1 hm
                      exact Hall.out t ht (by rw [List.getElem?_eq_getElem ht, hte])
                    have hbW := Below.trans HA.out ((Path.below_drewN (w6.alloc (.cells #[.int .i64 y.id, .int .i64 y.gen, .int .i64 y.len] 53 (0, 0))) n).mono (by simp))
                    have kW : ((w6.alloc (.cells #[.int .i64 y.id, .int .i64 y.gen, .int .i64 y.len] 53 (0, 0))).drewN n).heap[w6.heap.size]? = some (.cells #[.int .i64 y.id, .int .i64 y.gen, .int .i64 y.len] 53 (0, 0)) := HAk.out
                    have sW : ((w6.alloc (.cells #[.int .i64 y.id, .int .i64 y.gen, .int .i64 y.len] 53 (0, 0))).drewN n).heap.size = w6.heap.size + 1 := by show (w6.alloc (.cells #[.int .i64 y.id, .int .i64 y.gen, .int .i64 y.len] 53 (0, 0))).heap.size = _; simp
                    generalize (w6.alloc (.cells #[.int .i64 y.id, .int .i64 y.gen, .int .i64 y.len] 53 (0, 0))).drewN n = W at *
                    have hOW := own_below HO6.out hbW
                    have p0 := cell_of_blk (j := 0) kW
                    simp only [List.getElem?_toArray, List.getElem?_cons_zero, List.getElem?_cons_succ] at p0
                    have hkeep : ∀ (o : Obj) (w8 : World), (W.alloc o).grownBy w8 (Value.slice ai L.length ci).ownBlock → ∀ b0 ob, W.heap[b0]? = some ob → some b0 ≠ (Value.slice ai L.length ci).ownBlock → w8.heap[b0]? = some ob := fun o w8 hg b0 ob hb hne => by
                      have hlt := lt_of_block hb
                      exact ((hg.block b0 (by simp; omega) hne).trans (((Below.refl W.heap.size W).alloc (Nat.le_refl _) o).block b0 hlt)).trans hb
                    have kB := fun o w8 hg => hkeep o w8 hg w6.heap.size _ kW (fun e => absurd (own_lt HO6.out e.symm) (Nat.lt_irrefl _))
                    have kS := fun o w8 hg => hkeep o w8 hg w.heap.size _ ((hbW.block w.heap.size (by omega)).trans K6.out) (fun e => absurd (HO6.out.new _ e.symm) (by omega))
                    have kN := fun o w8 hg => hkeep o w8 hg w4.heap.size _ ((hbW.block w4.heap.size (lt_of_block Hn6.out)).trans Hn6.out) (fun e => Hne6.out _ e.symm rfl)
                    have HOW := Lib.hid hOW; have HbW := Lib.hid hbW; have KW := Lib.hid kW; have Hnin := Lib.hid hnin; have SW := Lib.hid sW; have KB := Lib.hid kB; have KS := Lib.hid kS; have KN := Lib.hid kN
                    clear hOW hbW kW hnin Hall sW kB kS kN hkeep
                    by_cases z2 : y.id < s.nb
                    · by_cases z3 : y.gen < s.ng
                      · have q2 : decide (y.id ≥ s.nb) = false := decide_eq_false (by omega)
                        have q3 : decide (y.gen ≥ s.ng) = false := decide_eq_false (by omega)
                        go_wp2_with (at_builtin; (with_reducible refine Lease.etI.wpList1 (HOW.out.own.alloc _) (heap_alloc_new _ _) rfl (by simp [Value.oneCell']) (by omega) (by unfold maxLen; omega) rfl (.tmp 122) (.tmp 125) rfl rfl rfl ?_); intro g1 cap1 w8 hown1 hgrow hat hlt1; have r0 := cell_of_blk (j := 0) (KB.out _ _ hgrow); have r1 := cell_of_blk (j := 1) (KB.out _ _ hgrow); have r2 := cell_of_blk (j := 1) (KS.out _ _ hgrow); have r3 := cell_of_blk (j := 2) (KS.out _ _ hgrow); simp only [List.getElem?_toArray, List.getElem?_cons_zero, List.getElem?_cons_succ] at r0 r1 r2 r3)
                        go_roundw
                        case rel =>
                          have hB8 : Below w3.heap.size w3 w8 := ((Hb6.out.trans (HbW.out.mono hsz6)).alloc (by have := SW.out; omega) _).grown hgrow (by simp; have := SW.out; omega) (fun q hq => HO6.out.new q hq)
                          refine ⟨j + 1, by go_num, by omega, ⟨?_, ?_⟩, ?_, hB8, KN.out _ _ hgrow, ?_⟩
                          · rw [Hsn.out, ids, List.map_append, List.map_singleton, ← ids, hLL, Lease.flatI_snoc, List.length_append]; exact hown1
                          · intro g hg
                            cases hg
                            show w3.heap.size ≤ g1
                            rcases hat with e | e
                            · exact HO6.out.new _ e
                            · have := SW.out; simp at e; omega
                          · rw [Hsn.out]; exact ok_snoc.2 ⟨Hp6.out, by rw [hLL]; exact Hnin.out, z2, z3⟩
                          · intro g hg
                            cases hg
                            show g1 ≠ w4.heap.size
                            rcases hat with e | e
                            · exact Hne6.out _ e
                            · have := SW.out; have := lt_of_block Hn6.out; simp at e; omega
                        case measure => simp [intOf]; omega
                      · have q2 : decide (y.id ≥ s.nb) = false := decide_eq_false (by omega)
                        have q3 : decide (y.gen ≥ s.ng) = true := decide_eq_true (by omega)
                        have Hno2 := Lib.hid (Hno.out (.inr (.inr (by omega))))
                        go_wp2_with (at_builtin; (with_reducible refine Lease.etI.wpList1 (HOW.out.own.alloc _) (heap_alloc_new _ _) rfl (by simp [Value.oneCell']) (by omega) (by unfold maxLen; omega) rfl (.tmp 122) (.tmp 125) rfl rfl rfl ?_); intro g1 cap1 w8 hown1 hgrow hat hlt1; have r0 := cell_of_blk (j := 0) (KB.out _ _ hgrow); have r1 := cell_of_blk (j := 1) (KB.out _ _ hgrow); have r2 := cell_of_blk (j := 1) (KS.out _ _ hgrow); have r3 := cell_of_blk (j := 2) (KS.out _ _ hgrow); simp only [List.getElem?_toArray, List.getElem?_cons_zero, List.getElem?_cons_succ] at r0 r1 r2 r3)
                        go_ret
                        rw [Hf.out, Hno2.out]
                        exact ⟨rfl, Hw3.out.trans ((((Hb6.out.trans (HbW.out.mono hsz6)).alloc (by have := SW.out; omega) _).grown hgrow (by simp; have := SW.out; omega) (fun q hq => HO6.out.new q hq)).mono (by omega))⟩
                    · have q2 : decide (y.id ≥ s.nb) = true := decide_eq_true (by omega)
                      have Hno2 := Lib.hid (Hno.out (.inr (.inl (by omega))))
                      go_wp2_with (at_builtin; (with_reducible refine Lease.etI.wpList1 (HOW.out.own.alloc _) (heap_alloc_new _ _) rfl (by simp [Value.oneCell']) (by omega) (by unfold maxLen; omega) rfl (.tmp 122) (.tmp 125) rfl rfl rfl ?_); intro g1 cap1 w8 hown1 hgrow hat hlt1; have r0 := cell_of_blk (j := 0) (KB.out _ _ hgrow); have r1 := cell_of_blk (j := 1) (KB.out _ _ hgrow); have r2 := cell_of_blk (j := 1) (KS.out _ _ hgrow); have r3 := cell_of_blk (j := 2) (KS.out _ _ hgrow); simp only [List.getElem?_toArray, List.getElem?_cons_zero, List.getElem?_cons_succ] at r0 r1 r2 r3)
                      go_ret
                      rw [Hf.out, Hno2.out]
                      exact ⟨rfl, Hw3.out.trans ((((Hb6.out.trans (HbW.out.mono hsz6)).alloc (by have := SW.out; omega) _).grown hgrow (by simp; have := SW.out; omega) (fun q hq => HO6.out.new q hq)).mono (by omega))⟩
              · obtain rfl : j = x.blocks.length := by omega
                have hnx := seen_next Hx.out
                have hO2 := HO6.out
                have hp2 := Hp6.out
                rw [hnx] at hO2 hp2
                have HO2 := Lib.hid hO2; have Hp2 := Lib.hid hp2
                clear hO2 hp2 hnx
                go_wp2_with (fail)
                go_roundw
                case rel => exact ⟨k + 1, by go_num, by omega, HO2.out, Hgo.out, Hp2.out, Hb6.out⟩
                case measure => simp [intOf]; omega
      · obtain rfl : k = s.nodes.length := by omega
        have hend := rest_yes (s := s) (by have := Hw.out; rwa [List.take_length] at this) (by have := Hp.out; rwa [List.take_length] at this)
        have Hend := Lib.hid hend
        clear hend
        go_wp2_with (fail)
        go_ret
        rw [Hf.out, Hend.out]
        exact ⟨rfl, Hbw.out⟩
end Go.Proofs.YtgpddngbccecfaaDoor.Space
