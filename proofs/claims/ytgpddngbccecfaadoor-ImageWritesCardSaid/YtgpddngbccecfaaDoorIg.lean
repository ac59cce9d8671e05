/- Images: image.Encode, walked. -/
import Derived.Test.YtgpddngbccecfaaDoorIf
import Derived.Test.YtgpddngbccecfaaDoorVd
namespace Go.Proofs.YtgpddngbccecfaaDoor.Image
open Go.RowKit
open Path (Bs bs mk bs_mk mk_bs tl_bs MaxC)
open Tree
open Space (Sp spC RdSp spaceB)
open Wire (numB textB sealB)
set_option linter.unusedSimpArgs false
set_option linter.unusedVariables false
/-- A row of numbers that has just been made. -/
theorem own_lit (w : World) (l : List Int) (cs : Array Value) (g n : Nat) (hcs : cs = (Lease.flatI l).toArray) (hg : w.heap.size = g) (hl : l.length = n) (hn : n ≤ 1000) : (w.alloc (.cells cs 3 (0, 0))).ownsRow 0 3 1 (.slice (some ⟨g, 0, none⟩) n n) n (Lease.flatI l) := by
  subst hcs hg hl
  refine ⟨by rw [Lease.flatI_len, Nat.mul_one], .inr ⟨w.heap.size, l.length, _, rfl, Nat.zero_le _, heap_alloc_new w _, Nat.le_refl _, by unfold maxLen; omega, by simp [Lease.flatI_len], ?_⟩⟩
  simp only [Nat.mul_one]
  rw [← Lease.flatI_len l, List.take_length]
theorem rd_lit (w : World) (l : List Int) (cs : Array Value) (g n : Nat) (hcs : cs = (Lease.flatI l).toArray) (hg : w.heap.size = g) (hl : l.length = n) (hn : n ≤ 1000) : Rd (w.alloc (.cells cs 3 (0, 0))) 1 encI (.slice (some ⟨g, 0, none⟩) n n) l := by
  have h := own_lit w l cs g n hcs hg hl hn
  subst hl
  exact Rd.of_own Lease.encI_len h
theorem acc_len (f : Nd → Bs) (hf : ∀ x, (f x).length ≤ 4014) (h : Bs) (hh : h.length ≤ 4014) (l : List Nd) (k : Nat) (hk : k ≤ 60) : (h ++ (l.take k).flatMap f).length ≤ 250000 := by
  have h1 := flat_len f 4014 hf (l.take k)
  rw [List.length_take] at h1
  have h2 : min k l.length * 4014 ≤ 60 * 4014 := Nat.mul_le_mul_right _ (by omega)
  rw [List.length_append]; omega
theorem acc_len2 (h : Bs) (hh : h.length ≤ 250000) (l : List Lease.Le) (k : Nat) (hk : k ≤ 4) : (h ++ (l.take k).flatMap leaseB).length ≤ 300000 := by
  have h1 := flat_len leaseB 4014 (fun x => part_len _ _) (l.take k)
  rw [List.length_take] at h1
  have h2 : min k l.length * 4014 ≤ 4 * 4014 := Nat.mul_le_mul_right _ (by omega)
  rw [List.length_append]; omega
theorem flatI_app (l m : List Int) : Lease.flatI (l ++ m) = Lease.flatI l ++ Lease.flatI m := by simp [Lease.flatI]
theorem own_kept {w w' w'' : World} {v : Value} {q : List Int} (h : Lease.OwnI w w' v q) (hb : Below w'.heap.size w' w'') : Lease.OwnI w w'' v q :=
  ⟨h.own.kept (row := none) ⟨hb.os, hb.tape, hb.output, hb.size, fun k hk _ => hb.block k hk⟩ (by cases v.ownBlock <;> simp), h.new⟩
/-- What one more block adds. -/
theorem own_more {w w' w8 : World} {v v' : Value} {q r : List Int} (h : Lease.OwnI w w' v q) (hs : w.heap.size ≤ w'.heap.size) (own : w8.ownsRow 0 3 1 v' (q.length + r.length) (Lease.flatI q ++ Lease.flatI r)) (hat : v'.ownBlock = v.ownBlock ∨ v'.ownBlock = some w'.heap.size ∨ v'.ownBlock = some (w'.heap.size + 1) ∨ v'.ownBlock = some (w'.heap.size + 2)) : Lease.OwnI w w8 v' (q ++ r) := by
  refine ⟨by rw [List.length_append, flatI_app]; exact own, fun g hg => ?_⟩
  rcases hat with e | e | e | e
  · exact h.new g (e ▸ hg)
  · rw [e] at hg; cases hg; exact hs
  · rw [e] at hg; cases hg; omega
  · rw [e] at hg; cases hg; omega
theorem blk5c' {w : World} {b : Nat} {v0 v1 v2 v3 v4 : Value} {t : TypeId} (h : w.heap[b]? = some (.cells #[v0, v1, v2, v3, v4] t (0, 0))) : w.cell? ⟨b, 0, none⟩ = some v0 ∧ w.cell? ⟨b, 1, none⟩ = some v1 ∧ w.cell? ⟨b, 2, none⟩ = some v2 ∧ w.cell? ⟨b, 3, none⟩ = some v3 ∧ w.cell? ⟨b, 4, none⟩ = some v4 :=
  ⟨cell_of_blk h, cell_of_blk h, cell_of_blk h, cell_of_blk h, cell_of_blk h⟩
theorem blkI_len (l : List Bl) : (l.flatMap blkI).length = 3 * l.length := by
  induction l with
  | nil => rfl
  | cons b t ih => rw [List.flatMap_cons, List.length_append, ih, List.length_cons, blkI]; simp; omega
theorem news_lit (w : World) (l : List Value) (cs : Array Value) (g : Nat) (hcs : cs = l.toArray) (hg : w.heap.size = g) : ∀ ad, some (⟨g, 0, none⟩ : Addr) = some ad → ∀ j u, l[j]? = some u → (w.alloc (.cells cs 3 (0, 0))).cell? (ad.add j) = some u := by
  subst hcs hg
  rintro _ ⟨⟩ j u hu
  have h := cell_of_blk (j := j) (heap_alloc_new w (.cells l.toArray 3 (0, 0)))
  rw [List.getElem?_toArray, hu] at h
  rw [show (⟨w.heap.size, 0, none⟩ : Addr).add j = ⟨w.heap.size, j, none⟩ by simp [Addr.add_lit]]
  exact h
def kindI (d : Bool) : Int := if d = true then 1 else 0
theorem int_one (l : List Int) : ∀ u ∈ Lease.flatI l, u.oneCell' = true := by
  intro u hu
  obtain ⟨x, _, hx⟩ := List.mem_flatMap.1 hu
  simp only [encI, List.mem_singleton] at hx
  subst hx; rfl
set_option maxRecDepth 8000 in
set_option maxHeartbeats 3200000 in
theorem encode_calls (w : World) (s : Sp) (h : RdSp w s) (hM : MaxC w) : Calls Tryd.prog 5 #[.agg (spC s)] w fun e w' => e = .returned (.tuple #[.string (mk (encS s)), .int .i64 (encE s)]) ∧ Below w.heap.size w w' := by
  have hb0 := (Below.refl w.heap.size w).alloc (Nat.le_refl _) (.cells #[.int .i64 s.txid, .int .i64 s.nb, .int .i64 s.ng, .int .i64 s.now, s.vn, s.vl] 25 (0, 0))
  have hk0 := heap_alloc_new w (.cells #[.int .i64 s.txid, .int .i64 s.nb, .int .i64 s.ng, .int .i64 s.now, s.vn, s.vl] 25 (0, 0))
  have hr := Space.right_calls (w.alloc (.cells #[.int .i64 s.txid, .int .i64 s.nb, .int .i64 s.ng, .int .i64 s.now, s.vn, s.vl] 25 (0, 0))) s (h.below hb0) (hM.below hb0)
  have HR := Lib.hid hr; have Hb0 := Lib.hid hb0; have Hk0 := Lib.hid hk0
  clear hr hb0 hk0 hM
  cases hs : spaceB s with
  | false =>
    have he : encE s = 1 := by rw [encE, hs]; rfl
    have hS : encS s = [] := by rw [encS, hs]; rfl
    rw [he, hS]
    have hr := HR.out
    rw [hs] at hr
    have HR2 := Lib.hid hr
    clear hr HR he hS h hs
    go_enter Tryd.func5, Tryd.ntmps5
    rw [spC] at *
    go_wp2_with (fail)
    refine HR2.out.mono ?_
    rintro e w1 ⟨rfl, hb1⟩
    go_wp2_with (fail)
    go_ret2
    exact ⟨rfl, Hb0.out.trans (hb1.mono (by simp))⟩
  | true =>
    have he : encE s = 0 := by rw [encE, hs]; rfl
    have hS : encS s = imageB s := by rw [encS, hs]; rfl
    have hhead := head_ok hs h.nn h.ln
    obtain ⟨-, hrt, hrl⟩ := space_parts hs
    have hN : s.nodes.length ≤ 60 := by obtain ⟨_, h60, _⟩ := Quota.right_node hrt; exact h60
    have hL : s.leases.length ≤ 4 := Lease.right_len hrl
    have hfit := fun x hx => Space.right_fit hrt (x := x) hx
    have hlok := fun x hx => lease_ok hrl (x := x) hx
    have hr := HR.out
    rw [hs] at hr
    have HR2 := Lib.hid hr; have Hfit := Lib.hid hfit; have Hlok := Lib.hid hlok; have Hhead := Lib.hid hhead
    have himg : imageB s = headB s ++ (s.nodes.take s.nodes.length).flatMap nodeB ++ (s.leases.take s.leases.length).flatMap leaseB := by rw [List.take_length, List.take_length]; rfl
    have Himg := Lib.hid himg
    obtain ⟨an, cn, hvn, _, _, hcell⟩ := rd_cellsN h.n.rd
    obtain ⟨al, cl, hvl, _, _, hcelll⟩ := Lease.rd_cells h.l
    have hbl := fun x (hx : x ∈ s.nodes) => rd_cellsB (h.n.bl x hx)
    have hhb := part_len [84] (headI s)
    have Hcell := Lib.hid hcell; have Hcelll := Lib.hid hcelll; have Hbl := Lib.hid hbl; have Hvn := Lib.hid hvn; have Hvl := Lib.hid hvl; have HeS := Lib.hid hS; have HeE := Lib.hid he
    have Hhb := Lib.hid hhb
    clear hr HR he hS hs hhead hrt hrl hfit hlok himg hcell hcelll hbl hvn hvl h hhb
    go_enter Tryd.func5, Tryd.ntmps5
    rw [spC] at *
    go_wp2_with (fail)
    refine HR2.out.mono ?_
    rintro e w1 ⟨rfl, hb1⟩
    have k1 := (hb1.block w.heap.size (by simp)).trans Hk0.out
    have hw1 : Below w.heap.size w w1 := Hb0.out.trans (hb1.mono (by simp))
    have hs1 : w.heap.size < w1.heap.size := by have := hb1.size; simp at this; omega
    have hm1 := Bld.made w1
    have hb2 : Below w1.heap.size w1 (w1.alloc (.cells #[.pointer none, .slice none 0 0] 39 (0, 0))) := (Below.refl _ _).alloc (Nat.le_refl _) _
    have k2 := (hb2.block w.heap.size hs1).trans k1
    rw [Hvn.out, Hvl.out] at k2
    have a0 := cell_of_blk (j := 0) k2
    have a1 := cell_of_blk (j := 1) k2
    have a2 := cell_of_blk (j := 2) k2
    have a3 := cell_of_blk (j := 3) k2
    have a4 := cell_of_blk (j := 4) k2
    have a5 := cell_of_blk (j := 5) k2
    simp only [List.getElem?_toArray, List.getElem?_cons_zero, List.getElem?_cons_succ] at a0 a1 a2 a3 a4 a5
    have K2 := Lib.hid k2; have Hw1 := Lib.hid hw1; have Hm1 := Lib.hid hm1; have Hb2 := Lib.hid hb2
    clear HR2 hb1 k1 hw1 hm1 hb2 k2 Hk0 Hb0
    go_wp2_with (fail)
    have hA : Below (w1.alloc (.cells #[.pointer none, .slice none 0 0] 39 (0, 0))).heap.size (w1.alloc (.cells #[.pointer none, .slice none 0 0] 39 (0, 0))) ((w1.alloc (.cells #[.pointer none, .slice none 0 0] 39 (0, 0))).alloc (.cells #[.int .i64 s.txid, .int .i64 s.nb, .int .i64 s.ng, .int .i64 s.now, .int .i64 s.nodes.length, .int .i64 s.leases.length] 3 (0, 0))) := (Below.refl _ _).alloc (Nat.le_refl _) _
    have hrd := rd_lit (w1.alloc (.cells #[.pointer none, .slice none 0 0] 39 (0, 0))) (headI s) #[.int .i64 s.txid, .int .i64 s.nb, .int .i64 s.ng, .int .i64 s.now, .int .i64 s.nodes.length, .int .i64 s.leases.length] (w1.heap.size + 1) 6 rfl (by simp) rfl (by omega)
    have hp := part_calls _ w1.heap.size [] ⟨#[84]⟩ _ (headI s) (Hm1.out.below hA) hrd Hhead.out (by show 6 ≤ 1000; omega) (by show 1 ≤ 100000; omega) (by simp)
    have HP := Lib.hid hp
    clear hp hA hrd Hm1 Hhead
    refine HP.out.mono ?_
    rintro e w2 ⟨rfl, hB2, hb2⟩
    have hx : Below w1.heap.size w1 w2 := (Hb2.out.alloc (by simp) _).trans hb2
    have k3 := (hx.block w.heap.size hs1).trans ((Hb2.out.block w.heap.size hs1).symm.trans K2.out)
    have a4 := cell_of_blk (j := 4) k3
    simp only [List.getElem?_toArray, List.getElem?_cons_zero, List.getElem?_cons_succ] at a4
    have hB2' : Bld w2 w1.heap.size (headB s ++ (s.nodes.take 0).flatMap nodeB) := by have e : bs ⟨#[84]⟩ = [84] := rfl; rw [e] at hB2; simpa [headB] using hB2
    have Hx2 := Lib.hid hx; have K3 := Lib.hid k3; have HB2 := Lib.hid hB2'
    clear HP hB2 hb2 hx k3 hB2' Hb2 K2 a0 a1 a2 a3 a5
    go_wp2_with (fail)
    go_loopw [40] (fun vk wr => ∃ k : Nat, vk = .int .i64 k ∧ k ≤ s.nodes.length ∧ Bld wr w1.heap.size (headB s ++ (s.nodes.take k).flatMap nodeB) ∧ Below w1.heap.size w1 wr) (fun vk _ => s.nodes.length - (intOf vk).toNat)
    case atStart => exact ⟨0, rfl, Nat.zero_le _, HB2.out, Hx2.out⟩
    case round =>
      obtain ⟨k, rfl, hk, hB, hb⟩ := hrel
      have hacc := acc_len nodeB (fun x => part_len _ _) (headB s) Hhb.out s.nodes k (by omega)
      have hbw : Below w.heap.size w wr := Hw1.out.trans (hb.mono (by omega))
      have HB := Lib.hid hB; have Hb := Lib.hid hb; have Hbw := Lib.hid hbw
      have hszr := hb.size
      clear hB hb hbw
      by_cases hlt : k < s.nodes.length
      · obtain ⟨x, hx⟩ : ∃ x, s.nodes[k]? = some x := ⟨s.nodes[k], by simp [hlt]⟩
        have hxm := List.mem_of_getElem? hx
        obtain ⟨b, off, rfl, _, d0, d1, d2, d3, d4⟩ := Hcell.out wr Hbw.out k x hx
        obtain ⟨ax, cx, hbvx, hcx1, hcx2, hbc⟩ := Hbl.out x hxm
        rw [hbvx] at d3
        have hf := Hfit.out x hxm
        have hnok := node_ok hf
        obtain ⟨-, -, -, -, hb8, hp120, -⟩ := fits_nums hf
        have hnl := nodeI_len hb8
        have htake := flat_take nodeB hx
        rcases x with ⟨xp, xd, xq, xb, xv, xw⟩
        simp only at d0 d1 d2 d3 d4 hbc hb8 hp120 hcx1 hcx2
        have htxt := fun W => Wire.text_calls W xp (by rw [Path.bs_len] at hp120; omega)
        have hxs : xp.size ≤ 4000 := by rw [Path.bs_len] at hp120; omega
        have htl := Wire.textB_len (s := bs xp) (by omega)
        have Hnok := Lib.hid hnok; have Hnl := Lib.hid hnl; have Htake := Lib.hid htake; have Htxt := Lib.hid htxt; have Hbc := Lib.hid hbc; have Htl := Lib.hid htl
        clear hnok hnl htake htxt hbc htl hx hxm hbvx hf
        go_wp2_with (fail)
        refine (Htxt.out _).mono ?_
        rintro e w3 ⟨⟨_, rfl⟩ | ⟨hno, rfl⟩, hb3⟩
        case inr => exact absurd hxs hno
        have n3 := (hb3.block wr.heap.size (by simp)).trans (heap_alloc_new wr (.cells #[.string xp, .bool xd, .int .i64 xq, .slice ax xb.length cx, .int .i64 xw] 51 (0, 0)))
        have h3 : Below wr.heap.size wr w3 := ((Below.refl _ _).alloc (Nat.le_refl _) _).trans (hb3.mono (by simp))
        obtain ⟨g0, g1, g2, g3, g4⟩ := blk5c' n3
        have hlt3 := lt_of_block n3
        have N3 := Lib.hid n3; have H3 := Lib.hid h3
        clear hb3 n3 h3 d0 d1 d2 d3 d4
        obtain ⟨w4, rfl⟩ : ∃ w4 : World, w4 = wr := ⟨_, rfl⟩
        obtain ⟨kd, hkd⟩ : ∃ c : Int, c = kindI xd := ⟨_, rfl⟩
        have hqn0 : ∀ d, kd = kindI d → [kd, xq, xw, (xb.length : Int)] ++ xb.flatMap blkI = nodeI ⟨xp, d, xq, xb, xv, xw⟩ := fun d e => by rw [e]; rfl
        have Hkd := Lib.hid hkd; have Hqn0 := Lib.hid hqn0
        clear hkd hqn0
        rcases Bool.eq_false_or_eq_true xd with e | e
        all_goals
          subst e
          go_wp2_with (fail)
          clear g0 g1 g2 g4
          go_loopw [11, 64] (fun v11 vj wr => ∃ j : Nat, vj = .int .i64 j ∧ j ≤ xb.length ∧ Lease.OwnI w3 wr v11 ([kd, xq, xw, (xb.length : Int)] ++ (xb.take j).flatMap blkI) ∧ Below w3.heap.size w3 wr) (fun _ vj _ => xb.length - (intOf vj).toNat)
          case atStart =>
            refine ⟨0, rfl, Nat.zero_le _, ⟨?_, ?_⟩, (Below.refl _ _).alloc (Nat.le_refl _) _⟩
            · rw [List.take_zero, List.flatMap_nil, List.append_nil]
              rw [Hkd.out]
              exact own_lit w3 _ _ w3.heap.size 4 rfl rfl rfl (by omega)
            · intro g hg; cases hg; exact Nat.le_refl _
          case round =>
            obtain ⟨j, rfl, hj, hO, hb⟩ := hrel
            have hszi := hb.size
            have hb4 : Below w4.heap.size w4 wr := H3.out.trans (hb.mono H3.out.size)
            have hbw : Below w.heap.size w wr := Hbw.out.trans (hb4.mono Hbw.out.size)
            by_cases hjl : j < xb.length
            · obtain ⟨y, hy⟩ : ∃ y, xb[j]? = some y := ⟨xb[j], by simp [hjl]⟩
              obtain ⟨b2, off2, rfl, _, d0, d1, d2⟩ := Hbc.out wr hbw j y hy
              have htk := flat_takeI hy
              have hql : ([kd, xq, xw, (xb.length : Int)] ++ (xb.take j).flatMap blkI).length ≤ 28 := by
                rw [List.length_append, blkI_len, List.length_take]; simp only [List.length_cons, List.length_nil]; omega
              generalize hq : [kd, xq, xw, (xb.length : Int)] ++ (xb.take j).flatMap blkI = q at *
              obtain ⟨ai, ci, rfl, hci, hic⟩ := rd_cellsI (Rd.of_own Lease.encI_len hO.own)
              have hnw := news_lit (wr.alloc (.cells #[.int .i64 y.id, .int .i64 y.gen, .int .i64 y.len] 53 (0, 0))) (Lease.flatI (blkI y)) #[.int .i64 y.id, .int .i64 y.gen, .int .i64 y.len] (wr.heap.size + 1) rfl (by simp)
              have HO := Lib.hid hO; have Hb := Lib.hid hb; have Hb4 := Lib.hid hb4; have Htk := Lib.hid htk; have Hq := Lib.hid hq; have Hnw := Lib.hid hnw
              clear hO hb hb4 hbw hic htk hq hnw hy
              go_wp2_with (at_builtin; (with_reducible refine Lease.etI.wpList_app ((HO.out.own.alloc _).alloc _) (m := 3) (c := 3) (ao := some ⟨wr.heap.size + 1, 0, none⟩) (news := Lease.flatI (blkI y)) rfl (fun h => by cases h) Hnw.out (int_one _) (by omega) (by unfold maxLen; omega) rfl (.tmp 68) (.tmp 75) rfl rfl rfl ?_); intro v8 w8 own8 grow8 at8 nil8)
              go_roundw
              case rel =>
                refine ⟨j + 1, by go_num, by omega, ?_, ?_⟩
                · rw [Htk.out, ← List.append_assoc, Hq.out]
                  refine own_more HO.out Hb.out.size own8 ?_
                  rcases at8 with e | e
                  · exact .inl e
                  · refine .inr (.inr (.inr ?_)); rw [e]; simp
                · exact ((Hb.out.alloc hszi _).alloc (by simp; omega) _).grown grow8 (by simp; omega) (fun q hq => HO.out.new q hq)
              case measure => simp [intOf]; omega
            · obtain rfl : j = xb.length := by omega
              rw [List.take_length] at hO
              have hqn := Hqn0.out _ Hkd.out
              have hrd := Rd.of_own Lease.encI_len hO.own
              rw [hqn] at hrd
              obtain ⟨ai, ci, hvi, -, -, -⟩ := rd_cellsI hrd
              subst hvi
              have hp := part_calls wr w1.heap.size _ (mk (textB (bs xp))) _ _ (HB.out.below hb4) hrd Hnok.out (by have := Hnl.out; omega) (by rw [Path.mk_size]; have := Htl.out; omega) (by omega)
              have HP := Lib.hid hp; have Hb4 := Lib.hid hb4
              clear hp hrd hO hqn hb hb4
              go_wp2_with (fail)
              refine HP.out.mono ?_
              rintro e w5 ⟨rfl, hB5, hb5⟩
              go_wp2_with (fail)
              go_roundw
              case rel =>
                refine ⟨k + 1, by go_num, by omega, ?_, ?_⟩
                · rw [Htake.out, ← List.append_assoc]
                  rw [bs_mk] at hB5
                  exact hB5
                · exact (Hb.out.trans (Hb4.out.mono hszr)).trans hb5
              case measure => simp [intOf]; omega
      · obtain rfl : k = s.nodes.length := by omega
        have k4 := (Hb.out.block _ hs1).trans ((Hx2.out.block _ hs1).symm.trans K3.out)
        have a5 := cell_of_blk (j := 5) k4
        simp only [List.getElem?_toArray, List.getElem?_cons_zero, List.getElem?_cons_succ] at a5
        have hB' : Bld wr w1.heap.size ((headB s ++ (s.nodes.take s.nodes.length).flatMap nodeB) ++ (s.leases.take 0).flatMap leaseB) := by simpa using HB.out
        have HB0 := Lib.hid hB'
        clear k4 hB' Hfit Hbl Hcell HB
        generalize hA : headB s ++ (s.nodes.take s.nodes.length).flatMap nodeB = A at *
        have HA := Lib.hid hA
        clear hA
        go_wp2_with (fail)
        obtain ⟨w6, rfl⟩ : ∃ w6 : World, w6 = wr := ⟨_, rfl⟩
        go_loopw [86] (fun vk wr => ∃ k : Nat, vk = .int .i64 k ∧ k ≤ s.leases.length ∧ Bld wr w1.heap.size (A ++ (s.leases.take k).flatMap leaseB) ∧ Below w1.heap.size w1 wr) (fun vk _ => s.leases.length - (intOf vk).toNat)
        case atStart => exact ⟨0, rfl, Nat.zero_le _, HB0.out, Hb.out⟩
        case round =>
          obtain ⟨k, rfl, hk, hB, hb⟩ := hrel
          have hacc2 := acc_len2 A hacc s.leases k (by omega)
          have hbw : Below w.heap.size w wr := Hw1.out.trans (hb.mono (by omega))
          have hszr2 := hb.size
          have HB := Lib.hid hB; have Hb' := Lib.hid hb; have Hbw' := Lib.hid hbw
          clear hB hb hbw
          by_cases hlt : k < s.leases.length
          · obtain ⟨x, hx⟩ : ∃ x, s.leases[k]? = some x := ⟨s.leases[k], by simp [hlt]⟩
            obtain ⟨b, off, rfl, _, d0, d1⟩ := Hcelll.out wr Hbw'.out k x hx
            have htake := flat_take leaseB hx
            have hA2 : Below wr.heap.size wr ((wr.alloc (.cells #[.int .i64 x.c, .int .i64 x.u] 55 (0, 0))).alloc (.cells #[.int .i64 x.c, .int .i64 x.u] 3 (0, 0))) := ((Below.refl _ _).alloc (Nat.le_refl _) _).alloc (by simp) _
            have hrd := rd_lit (wr.alloc (.cells #[.int .i64 x.c, .int .i64 x.u] 55 (0, 0))) [x.c, x.u] #[.int .i64 x.c, .int .i64 x.u] (wr.heap.size + 1) 2 rfl (by simp) rfl (by omega)
            have hp := part_calls ((wr.alloc (.cells #[.int .i64 x.c, .int .i64 x.u] 55 (0, 0))).alloc (.cells #[.int .i64 x.c, .int .i64 x.u] 3 (0, 0))) w1.heap.size _ ⟨#[]⟩ _ [x.c, x.u] (HB.out.below hA2) hrd (Hlok.out x (List.mem_of_getElem? hx)) (by show 2 ≤ 1000; omega) (by show 0 ≤ 100000; omega) (by omega)
            have HP := Lib.hid hp; have Htake := Lib.hid htake; have HA2 := Lib.hid hA2
            clear hp htake hA2 hrd hx
            go_wp2_with (fail)
            refine HP.out.mono ?_
            rintro e w7 ⟨rfl, hB7, hb7⟩
            go_wp2_with (fail)
            go_roundw
            case rel =>
              refine ⟨k + 1, by go_num, by omega, ?_, ?_⟩
              · rw [Htake.out, ← List.append_assoc]; exact hB7
              · exact (Hb'.out.trans (HA2.out.mono hszr2)).trans hb7
            case measure => simp [intOf]; omega
          · obtain rfl : k = s.leases.length := by omega
            have hB8 : Bld wr w1.heap.size (imageB s) := by rw [Himg.out]; exact HB.out
            have hstr := bstr_calls wr w1.heap.size (imageB s) hB8
            have Hstr := Lib.hid hstr
            clear hstr hB8
            go_wp2_with (fail)
            refine Hstr.out.mono ?_
            rintro e w8 ⟨rfl, -, hb8⟩
            go_wp2_with (fail)
            go_ret2
            rw [HeS.out, HeE.out]
            exact ⟨rfl, Hw1.out.trans ((Hb'.out.trans hb8).mono (by omega))⟩
end Go.Proofs.YtgpddngbccecfaaDoor.Image
