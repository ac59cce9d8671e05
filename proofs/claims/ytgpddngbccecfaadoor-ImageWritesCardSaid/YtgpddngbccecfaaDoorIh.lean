/- Images: the document's Encode, walked. -/
import Derived.Test.YtgpddngbccecfaaDoorIg
import Derived.Test.YtgpddngbccecfaaDoorVe
import Derived.Deep.RegionHeld3
namespace Go.Proofs.YtgpddngbccecfaaDoor.Image
open Go.RowKit
open Path (Bs bs mk bs_mk mk_bs tl_bs MaxC)
open Tree
open Space (Sp spC RdSp spaceB)
open Wire (numB textB sealB)
set_option linter.unusedSimpArgs false
set_option linter.unusedVariables false
set_option maxHeartbeats 2000000 in
theorem rnums_calls (w : World) (v : Value) (l : List Int) (hv : Rd w 1 encI v l) (hok : OkI l) (hl : l.length ≤ 1000) : Calls Tryd.prog 18 #[v] w fun e w' => e = .returned (.string (mk (numsL l))) ∧ Below w.heap.size w w' := by
  obtain ⟨ao, cap, rfl, _, _, hcell⟩ := rd_cellsI hv
  have Hcell := Lib.hid hcell; have Hok := Lib.hid hok
  clear hcell hok hv
  go_enter Tryd.func18, Tryd.ntmps18
  go_wp2_with (fail)
  go_loopw [3, 4] (fun vs vk wr => ∃ k : Nat, vk = .int .i64 k ∧ k ≤ l.length ∧ vs = .string (mk (numsL (l.take k))) ∧ Below w.heap.size w wr) (fun _ vk _ => l.length - (intOf vk).toNat)
  case atStart => exact ⟨0, rfl, Nat.zero_le _, rfl, Below.refl _ _⟩
  case round =>
    obtain ⟨k, rfl, hk, rfl, hb⟩ := hrel
    have hnl := nums_len (okI_take Hok.out k)
    rw [List.length_take] at hnl
    have Hb := Lib.hid hb
    clear hb
    by_cases hlt : k < l.length
    · obtain ⟨n, hn⟩ : ∃ n, l[k]? = some n := ⟨l[k], by simp [hlt]⟩
      obtain ⟨b', off', rfl, _, c0⟩ := Hcell.out wr Hb.out k n hn
      have hin := Hok.out n (List.mem_of_getElem? hn)
      have hst := numsL_take hn
      have hnb := Wire.numB_len hin
      have hnum := Wire.rnum_calls wr n hin
      have hcat : mk (numsL (l.take k)) ++ mk (numB n) = mk (numsL (l.take (k + 1))) := by rw [Wire.mk_app, ← hst]
      have hs1 := Path.mk_size (numsL (l.take k))
      have hs2 := Path.mk_size (numB n)
      have hz1 : (mk (numsL (l.take k))).size ≤ 10000 := by omega
      have hz2 : (mk (numB n)).size ≤ 10 := by omega
      have Hcat := Lib.hid hcat; have Hnum := Lib.hid hnum
      clear hst hnum hn hnl hcat hs1 hs2 hnb
      generalize hS : mk (numsL (l.take k)) = S at *
      generalize hM : mk (numB n) = M at *
      have HS := Lib.hid hS; have HM := Lib.hid hM
      clear hS hM
      go_wp2_with (fail)
      refine Hnum.out.mono ?_
      rintro e w2 ⟨rfl, hb2⟩
      have Hb2 := Lib.hid hb2
      clear hb2
      go_wp2_with (fail)
      go_roundw
      case rel => exact ⟨k + 1, by go_num, by omega, by rw [Hcat.out], Hb.out.trans (Hb2.out.mono Hb.out.size)⟩
      case measure => simp [intOf]; omega
    · obtain rfl : k = l.length := by omega
      go_wp2_with (fail)
      go_ret
      exact ⟨by rw [List.take_length]; rfl, Hb.out⟩
set_option maxHeartbeats 2000000 in
theorem rsealS_calls (w : World) (t : Bs) (ht : t.length ≤ 1000000) : Calls Tryd.prog 17 #[.string (mk t)] w fun e w' => e = .returned (.string (mk (sealS t))) ∧ Below w.heap.size w w' := by
  have hse := Wire.rseal_calls w (mk t) (by rw [Path.mk_size]; omega)
  rw [Path.mk_size, bs_mk] at hse
  have hpb : sealS t = if t.length ≤ 4000 then sealB t else [] := rfl
  have Hse := Lib.hid hse; have Hpb := Lib.hid hpb
  clear hse hpb
  go_enter Tryd.func17, Tryd.ntmps17
  go_wp2_with (fail)
  refine Hse.out.mono ?_
  rintro e w1 ⟨⟨hle, rfl⟩ | ⟨hle, rfl⟩, hb⟩
  · have hp := Hpb.out
    rw [if_pos hle] at hp
    have Hp := Lib.hid hp
    clear hp
    go_wp2_with (fail)
    go_ret
    exact ⟨by rw [Hp.out]; rfl, hb⟩
  · have hp := Hpb.out
    rw [if_neg hle] at hp
    have Hp := Lib.hid hp
    clear hp
    go_wp2_with (fail)
    go_ret
    exact ⟨by rw [Hp.out]; rfl, hb⟩
def encB (s : Sp) : Bool := spaceB s
set_option maxRecDepth 8000 in
set_option maxHeartbeats 4000000 in
theorem rencode_calls (w : World) (s : Sp) (h : RdSp w s) : Calls Tryd.prog 6 #[.agg (spC s)] w fun e w' => e = .returned (.tuple #[.string (mk (encS s)), .bool (encB s)]) ∧ Below w.heap.size w w' := by
  have hb0 := (Below.refl w.heap.size w).alloc (Nat.le_refl _) (.cells #[.int .i64 s.txid, .int .i64 s.nb, .int .i64 s.ng, .int .i64 s.now, s.vn, s.vl] 25 (0, 0))
  have hk0 := heap_alloc_new w (.cells #[.int .i64 s.txid, .int .i64 s.nb, .int .i64 s.ng, .int .i64 s.now, s.vn, s.vl] 25 (0, 0))
  have hr := Space.rright_calls (w.alloc (.cells #[.int .i64 s.txid, .int .i64 s.nb, .int .i64 s.ng, .int .i64 s.now, s.vn, s.vl] 25 (0, 0))) s (h.below hb0)
  have HR := Lib.hid hr; have Hb0 := Lib.hid hb0; have Hk0 := Lib.hid hk0
  clear hr hb0 hk0
  cases hs : spaceB s with
  | false =>
    have he : encB s = false := hs
    have hS : encS s = [] := by rw [encS, hs]; rfl
    rw [he, hS]
    have hr := HR.out
    rw [hs] at hr
    have HR2 := Lib.hid hr
    clear hr HR he hS h hs
    go_enter Tryd.func6, Tryd.ntmps6
    rw [spC] at *
    go_wp2_with (fail)
    refine HR2.out.mono ?_
    rintro e w1 ⟨rfl, hb1⟩
    go_wp2_with (fail)
    go_ret2
    exact ⟨rfl, Hb0.out.trans (hb1.mono (by simp))⟩
  | true =>
    have he : encB s = true := hs
    have hS : encS s = imageB s := by rw [encS, hs]; rfl
    have hhead := head_ok hs h.nn h.ln
    obtain ⟨-, hrt, hrl⟩ := space_parts hs
    have hN : s.nodes.length ≤ 60 := by obtain ⟨_, h60, _⟩ := Quota.right_node hrt; exact h60
    have hL : s.leases.length ≤ 4 := Lease.right_len hrl
    have hfit := fun x hx => Space.right_fit hrt (x := x) hx
    have hlok := fun x hx => lease_ok hrl (x := x) hx
    have hr := HR.out
    rw [hs] at hr
    have HR2 := Lib.hid hr; have Hfit := Lib.hid hfit; have Hlok := Lib.hid hlok; have Hhead := Lib.hid hhead
    have himg : imageB s = headB s ++ (s.nodes.take s.nodes.length).flatMap nodeB ++ (s.leases.take s.leases.length).flatMap leaseB := by rw [List.take_length, List.take_length]; rfl
    have Himg := Lib.hid himg
    obtain ⟨an, cn, hvn, _, _, hcell⟩ := rd_cellsN h.n.rd
    obtain ⟨al, cl, hvl, _, _, hcelll⟩ := Lease.rd_cells h.l
    have hbl := fun x (hx : x ∈ s.nodes) => rd_cellsB (h.n.bl x hx)
    have hhb := part_len [84] (headI s)
    have hh6 := nums_len hhead
    have Hcell := Lib.hid hcell; have Hcelll := Lib.hid hcelll; have Hbl := Lib.hid hbl; have Hvn := Lib.hid hvn; have Hvl := Lib.hid hvl; have HeS := Lib.hid hS; have HeE := Lib.hid he
    have Hhb := Lib.hid hhb; have Hh6 := Lib.hid hh6
    clear hr HR he hS hs hhead hrt hrl hfit hlok himg hcell hcelll hbl hvn hvl h hhb hh6
    go_enter Tryd.func6, Tryd.ntmps6
    rw [spC] at *
    go_wp2_with (fail)
    refine HR2.out.mono ?_
    rintro e w1 ⟨rfl, hb1⟩
    have k1 := (hb1.block w.heap.size (by simp)).trans Hk0.out
    have hw1 : Below w.heap.size w w1 := Hb0.out.trans (hb1.mono (by simp))
    have hs1 : w.heap.size < w1.heap.size := by have := hb1.size; simp at this; omega
    rw [Hvn.out, Hvl.out] at k1
    have a0 := cell_of_blk (j := 0) k1
    have a1 := cell_of_blk (j := 1) k1
    have a2 := cell_of_blk (j := 2) k1
    have a3 := cell_of_blk (j := 3) k1
    have a4 := cell_of_blk (j := 4) k1
    have a5 := cell_of_blk (j := 5) k1
    simp only [List.getElem?_toArray, List.getElem?_cons_zero, List.getElem?_cons_succ] at a0 a1 a2 a3 a4 a5
    have hA : Below w1.heap.size w1 (w1.alloc (.cells #[.int .i64 s.txid, .int .i64 s.nb, .int .i64 s.ng, .int .i64 s.now, .int .i64 s.nodes.length, .int .i64 s.leases.length] 3 (0, 0))) := (Below.refl _ _).alloc (Nat.le_refl _) _
    have hrd := rd_lit w1 (headI s) #[.int .i64 s.txid, .int .i64 s.nb, .int .i64 s.ng, .int .i64 s.now, .int .i64 s.nodes.length, .int .i64 s.leases.length] w1.heap.size 6 rfl rfl rfl (by omega)
    have hnu := rnums_calls _ _ (headI s) hrd Hhead.out (by show 6 ≤ 1000; omega)
    have hcat : (⟨#[84]⟩ : ByteArray) ++ mk (numsL (headI s)) = mk (84 :: numsL (headI s)) := by have := Wire.mk_app [84] (numsL (headI s)); exact this
    have hz : (mk (numsL (headI s))).size ≤ 60 := by rw [Path.mk_size]; exact Hh6.out
    have hse := fun W => rsealS_calls W (84 :: numsL (headI s)) (by have := Hh6.out; rw [List.length_cons]; have e : (headI s).length = 6 := rfl; omega)
    have hsb : sealS (84 :: numsL (headI s)) = headB s ++ (s.nodes.take 0).flatMap nodeB := by simp [headB, partB]
    have HN := Lib.hid hnu; have HS := Lib.hid hse; have HA := Lib.hid hA; have K1 := Lib.hid k1; have Hw1 := Lib.hid hw1; have Hcat := Lib.hid hcat; have Hsb := Lib.hid hsb
    clear HR2 hb1 k1 hw1 hnu hse hA hcat hrd Hk0 Hb0 hsb
    generalize hM : mk (numsL (headI s)) = M at *
    clear hM
    go_wp2_with (fail)
    refine HN.out.mono ?_
    rintro e w2 ⟨rfl, hb2⟩
    have hx : Below w1.heap.size w1 w2 := HA.out.trans (hb2.mono HA.out.size)
    have Hx := Lib.hid hx
    clear HN hb2 hx HA a0 a1 a2 a3 a4 a5
    go_wp2_with (fail)
    rw [Hcat.out]
    refine (HS.out w2).mono ?_
    rintro e w3 ⟨rfl, hb3⟩
    have hx3 : Below w1.heap.size w1 w3 := Hx.out.trans (hb3.mono Hx.out.size)
    rw [Hsb.out]
    have Hx3 := Lib.hid hx3
    clear HS hb3 hx3 Hx Hcat Hsb
    go_wp2_with (fail)
    go_loopw [5, 6] (fun vs vk wr => ∃ k : Nat, vk = .int .i64 k ∧ k ≤ s.nodes.length ∧ vs = .string (mk (headB s ++ (s.nodes.take k).flatMap nodeB)) ∧ Below w1.heap.size w1 wr) (fun _ vk _ => s.nodes.length - (intOf vk).toNat)
    case atStart => exact ⟨0, rfl, Nat.zero_le _, by simp, Hx3.out⟩
    case round =>
      obtain ⟨k, rfl, hk, rfl, hb⟩ := hrel
      have hacc := acc_len nodeB (fun x => part_len _ _) (headB s) Hhb.out s.nodes k (by omega)
      have hbw : Below w.heap.size w wr := Hw1.out.trans (hb.mono (by omega))
      have k3 := (hb.block w.heap.size hs1).trans K1.out
      have a4 := cell_of_blk (j := 4) k3
      have a5 := cell_of_blk (j := 5) k3
      simp only [List.getElem?_toArray, List.getElem?_cons_zero, List.getElem?_cons_succ] at a4 a5
      have Hb := Lib.hid hb; have Hbw := Lib.hid hbw
      have hszr := hb.size
      have hzA : (mk (headB s ++ (s.nodes.take k).flatMap nodeB)).size ≤ 250000 := by rw [Path.mk_size]; exact hacc
      clear hb hbw k3
      generalize hAcc : mk (headB s ++ (s.nodes.take k).flatMap nodeB) = ACC at *
      have HAcc := Lib.hid hAcc
      clear hAcc
      by_cases hlt : k < s.nodes.length
      · obtain ⟨x, hx⟩ : ∃ x, s.nodes[k]? = some x := ⟨s.nodes[k], by simp [hlt]⟩
        have hxm := List.mem_of_getElem? hx
        obtain ⟨b, off, rfl, _, d0, d1, d2, d3, d4⟩ := Hcell.out wr Hbw.out k x hx
        obtain ⟨ax, cx, hbvx, hcx1, hcx2, hbc⟩ := Hbl.out x hxm
        rw [hbvx] at d3
        have hf := Hfit.out x hxm
        have hnok := node_ok hf
        obtain ⟨-, -, -, -, hb8, hp120, -⟩ := fits_nums hf
        have hnl := nodeI_len hb8
        have hnsz := nums_len hnok
        have htake := flat_take nodeB hx
        rcases x with ⟨xp, xd, xq, xb, xv, xw⟩
        simp only at d0 d1 d2 d3 d4 hbc hb8 hp120 hcx1 hcx2
        have htxt := fun W => Wire.rtext_calls W xp (by rw [Path.bs_len] at hp120; omega)
        have hxs : xp.size ≤ 4000 := by rw [Path.bs_len] at hp120; omega
        have htl := Wire.textB_len (s := bs xp) (by omega)
        obtain ⟨kd, hkd⟩ : ∃ c : Int, c = kindI xd := ⟨_, rfl⟩
        have hqn0 : [kd, xq, xw, (xb.length : Int)] ++ xb.flatMap blkI = nodeI ⟨xp, xd, xq, xb, xv, xw⟩ := by rw [hkd]; rfl
        have hnb : nodeB ⟨xp, xd, xq, xb, xv, xw⟩ = sealS (textB (bs xp) ++ numsL (nodeI ⟨xp, xd, xq, xb, xv, xw⟩)) := rfl
        rw [hnb] at htake
        generalize nodeI ⟨xp, xd, xq, xb, xv, xw⟩ = I at *
        have Hnok := Lib.hid hnok; have Hnl := Lib.hid hnl; have Htake := Lib.hid htake; have Htxt := Lib.hid htxt; have Hbc := Lib.hid hbc; have Htl := Lib.hid htl; have Hnsz := Lib.hid hnsz
        have Hkd := Lib.hid hkd; have Hqn0 := Lib.hid hqn0
        clear hnok hnl htake htxt hbc htl hx hxm hbvx hf hnsz a5 hkd hqn0 hnb
        go_wp2_with (fail)
        refine (Htxt.out _).mono ?_
        rintro e w3 ⟨⟨_, rfl⟩ | ⟨hno, rfl⟩, hb3⟩
        case inr => exact absurd hxs hno
        have n3 := (hb3.block wr.heap.size (by simp)).trans (heap_alloc_new wr (.cells #[.string xp, .bool xd, .int .i64 xq, .slice ax xb.length cx, .int .i64 xw] 51 (0, 0)))
        have h3 : Below wr.heap.size wr w3 := ((Below.refl _ _).alloc (Nat.le_refl _) _).trans (hb3.mono (by simp))
        obtain ⟨g0, g1, g2, g3, g4⟩ := blk5c' n3
        have hlt3 := lt_of_block n3
        have N3 := Lib.hid n3; have H3 := Lib.hid h3
        clear hb3 n3 h3 d0 d1 d2 d3 d4 a4
        obtain ⟨w4, rfl⟩ : ∃ w4 : World, w4 = wr := ⟨_, rfl⟩
        rcases Bool.eq_false_or_eq_true xd with e | e
        all_goals
          subst e
          go_wp2_with (fail)
          clear g0 g1 g2 g3 g4
          go_loopw [11, 12] (fun v11 vj wr => ∃ j : Nat, vj = .int .i64 j ∧ j ≤ xb.length ∧ Lease.OwnI w3 wr v11 ([kd, xq, xw, (xb.length : Int)] ++ (xb.take j).flatMap blkI) ∧ Below w3.heap.size w3 wr) (fun _ vj _ => xb.length - (intOf vj).toNat)
          case atStart =>
            refine ⟨0, rfl, Nat.zero_le _, ⟨?_, ?_⟩, (Below.refl _ _).alloc (Nat.le_refl _) _⟩
            · rw [List.take_zero, List.flatMap_nil, List.append_nil]
              rw [Hkd.out]
              exact own_lit w3 _ _ w3.heap.size 4 rfl rfl rfl (by omega)
            · intro g hg; cases hg; exact Nat.le_refl _
          case round =>
            obtain ⟨j, rfl, hj, hO, hb⟩ := hrel
            have hszi := hb.size
            have hb4 : Below w4.heap.size w4 wr := H3.out.trans (hb.mono H3.out.size)
            have hbw : Below w.heap.size w wr := Hbw.out.trans (hb4.mono Hbw.out.size)
            obtain ⟨-, -, -, g3, -⟩ := blk5c' ((hb.block _ hlt3).trans N3.out)
            by_cases hjl : j < xb.length
            · obtain ⟨y, hy⟩ : ∃ y, xb[j]? = some y := ⟨xb[j], by simp [hjl]⟩
              obtain ⟨b2, off2, rfl, _, d0, d1, d2⟩ := Hbc.out wr hbw j y hy
              have htk := flat_takeI hy
              have hql : ([kd, xq, xw, (xb.length : Int)] ++ (xb.take j).flatMap blkI).length ≤ 28 := by
                rw [List.length_append, blkI_len, List.length_take]; simp only [List.length_cons, List.length_nil]; omega
              generalize hq : [kd, xq, xw, (xb.length : Int)] ++ (xb.take j).flatMap blkI = q at *
              obtain ⟨ai, ci, rfl, hci, hic⟩ := rd_cellsI (Rd.of_own Lease.encI_len hO.own)
              have hnw := news_lit wr.drew (Lease.flatI (blkI y)) #[.int .i64 y.id, .int .i64 y.gen, .int .i64 y.len] wr.heap.size rfl rfl
              have HO := Lib.hid hO; have Hb := Lib.hid hb; have Hb4 := Lib.hid hb4; have Htk := Lib.hid htk; have Hq := Lib.hid hq; have Hnw := Lib.hid hnw
              have hown : (wr.drew.alloc (.cells #[.int .i64 y.id, .int .i64 y.gen, .int .i64 y.len] 3 (0, 0))).ownsRow 0 3 1 (.slice ai q.length ci) q.length (Lease.flatI q) := World.ownsRow.alloc (w := wr.drew) (own_drew hO.own) _
              have hbd : Below w3.heap.size w3 (wr.drew.alloc (.cells #[.int .i64 y.id, .int .i64 y.gen, .int .i64 y.len] 3 (0, 0))) := Below.alloc (w := wr.drew) ⟨hb.os, hb.tape, hb.output, hb.size, hb.block⟩ hszi _
              have hcs : ∀ W, Below w.heap.size w W → W.cell? ⟨b2, off2 + j * 3, none⟩ = some (.int .i64 y.id) ∧ W.cell? ⟨b2, off2 + j * 3 + 1, none⟩ = some (.int .i64 y.gen) ∧ W.cell? ⟨b2, off2 + j * 3 + 2, none⟩ = some (.int .i64 y.len) := fun W hW => by
                obtain ⟨b', o', e, _, e0, e1, e2⟩ := Hbc.out W hW j y hy
                cases e; exact ⟨e0, e1, e2⟩
              have hw3 : Below w.heap.size w w3 := Hbw.out.trans (H3.out.mono Hbw.out.size)
              have Hown := Lib.hid hown; have Hbd := Lib.hid hbd; have Hcs := Lib.hid hcs; have Hw3 := Lib.hid hw3
              clear hO hb hb4 hbw hic htk hq hnw hy hown hbd hcs hw3
              go_wp2_with (fail)
              go_region_held3 (fun w' => w'.cell? ⟨w4.heap.size, 3, none⟩ = some (.slice (some ⟨b2, off2, none⟩) xb.length cx) ∧ w'.cell? ⟨b2, off2 + j * 3, none⟩ = some (.int .i64 y.id) ∧ w'.cell? ⟨b2, off2 + j * 3 + 1, none⟩ = some (.int .i64 y.gen) ∧ w'.cell? ⟨b2, off2 + j * 3 + 2, none⟩ = some (.int .i64 y.len)) (go_keep)
                ((refine Lease.etI.step_app Hown.out (m := 3) (c := 3) (ao := some ⟨wr.heap.size, 0, none⟩) (news := Lease.flatI (blkI y)) rfl (fun h => by cases h) Hnw.out (int_one _) (by omega) (by unfold maxLen; omega) rfl (.tmp 72) (.tmp 91) rfl rfl rfl ?_; intro v8 w8 own8 grow8 at8 nil8; have hb8 := Hbd.out.grown grow8 (by have := Hbd.out.size; simpa using this) (fun q hq => HO.out.new q hq); have hc8 := Hcs.out w8 (Hw3.out.trans (hb8.mono Hw3.out.size)); have hd3 := (blk5c' ((hb8.block _ hlt3).trans N3.out)).2.2.2.1; obtain ⟨hd0, hd1, hd2⟩ := hc8))
              go_wp2_with (fail)
              go_roundw
              case rel =>
                refine ⟨j + 1, by go_num, by omega, ?_, hb8⟩
                rw [Htk.out, ← List.append_assoc, Hq.out]
                refine own_more HO.out Hb.out.size own8 ?_
                rcases at8 with e | e
                · exact .inl e
                · refine .inr (.inr (.inl ?_)); rw [e]; simp
              case measure => simp [intOf]; omega
            · obtain rfl : j = xb.length := by omega
              rw [List.take_length] at hO
              have hqn := Hqn0.out
              have hrd := Rd.of_own Lease.encI_len hO.own
              rw [hqn] at hrd
              obtain ⟨ai, ci, hvi, -, -, -⟩ := rd_cellsI hrd
              subst hvi
              have hp := rnums_calls wr _ _ hrd Hnok.out (by have := Hnl.out; omega)
              have hcat := Wire.mk_app (textB (bs xp)) (numsL (I))
              have hz1 : (mk (textB (bs xp))).size ≤ 4010 := by rw [Path.mk_size]; exact Htl.out
              have hse := fun W => rsealS_calls W (textB (bs xp) ++ numsL (I)) (by have := Hnsz.out; have := Hnl.out; have := Htl.out; rw [List.length_append]; omega)
              have hz2 := Hnsz.out
              rw [← Path.mk_size] at hz2
              have hz2' := Nat.le_trans hz2 (Nat.mul_le_mul_right 10 Hnl.out)
              have hz3 := seal_len (textB (bs xp) ++ numsL (I))
              rw [← Path.mk_size] at hz3
              have HP := Lib.hid hp; have Hb4 := Lib.hid hb4; have Hcat := Lib.hid hcat; have Hse := Lib.hid hse; have hkl := hb4.size
              clear hp hrd hO hqn hb hb4 hcat hse hz2
              have Hfin := Htake
              generalize hS3 : mk (sealS (textB (bs xp) ++ numsL (I))) = S3 at *
              have HS3 := Lib.hid hS3
              clear hS3
              generalize mk (numsL (I)) = S2 at *
              generalize mk (textB (bs xp)) = S1 at *
              go_wp2_with (fail)
              refine HP.out.mono ?_
              rintro e w5 ⟨rfl, hb5⟩
              go_wp2_with (fail)
              rw [Hcat.out]
              refine (Hse.out w5).mono ?_
              rintro e w6 ⟨rfl, hb6⟩
              go_wp2_with (fail)
              go_roundw
              case rel =>
                refine ⟨k + 1, by go_num, by omega, ?_, ?_⟩
                · rw [Htake.out, ← List.append_assoc, ← HAcc.out, ← HS3.out, Wire.mk_app]
                · exact ((Hb.out.trans (Hb4.out.mono hszr)).trans (hb5.mono (by omega))).trans (hb6.mono (by have := hb5.size; omega))
              case measure => simp [intOf]; omega
      · obtain rfl : k = s.nodes.length := by omega
        clear Hfit Hbl Hcell
        obtain ⟨A, hA⟩ : ∃ A, headB s ++ (s.nodes.take s.nodes.length).flatMap nodeB = A := ⟨_, rfl⟩
        rw [hA] at hacc
        have hAc : ACC = mk (A ++ (s.leases.take 0).flatMap leaseB) := by rw [← HAcc.out, hA]; simp
        have himg2 : imageB s = A ++ (s.leases.take s.leases.length).flatMap leaseB := by rw [Himg.out, hA]
        have HAc := Lib.hid hAc; have Himg2 := Lib.hid himg2
        clear hA hAc himg2
        go_wp2_with (fail)
        obtain ⟨w6, rfl⟩ : ∃ w6 : World, w6 = wr := ⟨_, rfl⟩
        go_loopw [5, 13] (fun vs vk wr => ∃ k : Nat, vk = .int .i64 k ∧ k ≤ s.leases.length ∧ vs = .string (mk (A ++ (s.leases.take k).flatMap leaseB)) ∧ Below w1.heap.size w1 wr) (fun _ vk _ => s.leases.length - (intOf vk).toNat)
        case atStart => exact ⟨0, rfl, Nat.zero_le _, by rw [HAc.out], Hb.out⟩
        case round =>
          obtain ⟨k, rfl, hk, rfl, hb⟩ := hrel
          have hacc2 := acc_len2 A hacc s.leases k (by omega)
          have hbw : Below w.heap.size w wr := Hw1.out.trans (hb.mono (by omega))
          have hszr2 := hb.size
          have a5 := cell_of_blk (j := 5) ((hb.block w.heap.size hs1).trans K1.out)
          simp only [List.getElem?_toArray, List.getElem?_cons_zero, List.getElem?_cons_succ] at a5
          have hzA2 : (mk (A ++ (s.leases.take k).flatMap leaseB)).size ≤ 300000 := by rw [Path.mk_size]; exact hacc2
          have Hb' := Lib.hid hb; have Hbw' := Lib.hid hbw
          clear hb hbw
          by_cases hlt : k < s.leases.length
          · obtain ⟨x, hx⟩ : ∃ x, s.leases[k]? = some x := ⟨s.leases[k], by simp [hlt]⟩
            obtain ⟨b, off, rfl, _, d0, d1⟩ := Hcelll.out wr Hbw'.out k x hx
            have htake := flat_take leaseB hx
            have hcs : ∀ W, Below w1.heap.size w1 W → W.cell? ⟨w.heap.size, 5, none⟩ = some (.slice (some ⟨b, off, none⟩) s.leases.length cl) ∧ W.cell? ⟨b, off + k * 2, none⟩ = some (.int .i64 x.c) ∧ W.cell? ⟨b, off + k * 2 + 1, none⟩ = some (.int .i64 x.u) := fun W hW => by
              obtain ⟨b', o', e, _, e0, e1⟩ := Hcelll.out W (Hw1.out.trans (hW.mono (by omega))) k x hx
              cases e
              have a5 := cell_of_blk (j := 5) ((hW.block w.heap.size hs1).trans K1.out)
              simp only [List.getElem?_toArray, List.getElem?_cons_zero, List.getElem?_cons_succ] at a5
              exact ⟨a5, e0, e1⟩
            have hlx := Hlok.out x (List.mem_of_getElem? hx)
            have hnl := nums_len hlx
            have hA2 : Below w1.heap.size w1 (wr.drew.alloc (.cells #[.int .i64 x.c, .int .i64 x.u] 3 (0, 0))) := Below.alloc (w := wr.drew) ⟨Hb'.out.os, Hb'.out.tape, Hb'.out.output, Hb'.out.size, Hb'.out.block⟩ hszr2 _
            have hrd := rd_lit wr.drew [x.c, x.u] #[.int .i64 x.c, .int .i64 x.u] wr.heap.size 2 rfl rfl rfl (by omega)
            have hp := rnums_calls _ _ [x.c, x.u] hrd hlx (by show 2 ≤ 1000; omega)
            have hse := fun W => rsealS_calls W (numsL [x.c, x.u]) (by have e : [x.c, x.u].length = 2 := rfl; omega)
            have hz3 := seal_len (numsL [x.c, x.u])
            rw [← Path.mk_size] at hz3
            have hlb : leaseB x = sealS (numsL [x.c, x.u]) := rfl
            rw [hlb] at htake
            have HP := Lib.hid hp; have Htake := Lib.hid htake; have HA2 := Lib.hid hA2; have Hse := Lib.hid hse; have Hcs := Lib.hid hcs
            clear hp htake hA2 hrd hx hse hcs hlx hnl hlb
            generalize hS3 : mk (sealS (numsL [x.c, x.u])) = S3 at *
            generalize hAC2 : mk (A ++ (s.leases.take k).flatMap leaseB) = AC2 at *
            have HS3 := Lib.hid hS3; have HAC2 := Lib.hid hAC2
            clear hS3 hAC2
            have hadd : ∀ W : World, (Op.stringOp .add AC2 S3).run Tryd.prog W = .ok (.string (AC2 ++ S3)) W := fun W => run_string_add_sum W _ _ (by omega)
            go_wp2_with (fail)
            go_region_held3 (fun w' => w'.cell? ⟨w.heap.size, 5, none⟩ = some (.slice (some ⟨b, off, none⟩) s.leases.length cl) ∧ w'.cell? ⟨b, off + k * 2, none⟩ = some (.int .i64 x.c) ∧ w'.cell? ⟨b, off + k * 2 + 1, none⟩ = some (.int .i64 x.u)) (go_keep)
              (first
                | (go_at_call 18; refine HP.out.mono ?_; rintro e w7 ⟨rfl, hb7⟩; have hb7' := HA2.out.trans (hb7.mono HA2.out.size); obtain ⟨q0, q1, q2⟩ := Hcs.out w7 hb7')
                | (go_at_call 17; refine (Hse.out w7).mono ?_; rintro e w8 ⟨rfl, hb8⟩; have hb8' := hb7'.trans (hb8.mono hb7'.size); obtain ⟨r0, r1, r2⟩ := Hcs.out w8 hb8'))
            go_wp2_with (fail)
            go_roundw
            case rel =>
              refine ⟨k + 1, by go_num, by omega, ?_, hb8'⟩
              rw [Htake.out, ← List.append_assoc, ← HAC2.out, ← HS3.out, Wire.mk_app]
            case measure => simp [intOf]; omega
          · obtain rfl : k = s.leases.length := by omega
            have hfin : mk (A ++ (s.leases.take s.leases.length).flatMap leaseB) = mk (imageB s) := by rw [Himg2.out]
            have Hfin := Lib.hid hfin
            clear hfin
            generalize mk (A ++ (s.leases.take s.leases.length).flatMap leaseB) = AC2 at *
            go_wp2_with (fail)
            go_ret2
            rw [HeS.out, HeE.out, ← Hfin.out]
            exact ⟨rfl, Hbw'.out⟩
end Go.Proofs.YtgpddngbccecfaaDoor.Image
