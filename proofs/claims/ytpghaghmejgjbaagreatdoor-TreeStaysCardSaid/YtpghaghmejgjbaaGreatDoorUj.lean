/- Trees (chapter 7): TreeBack and TreeStays, walked. -/
import Derived.Test.YtpghaghmejgjbaaGreatDoorUi
import Derived.Test.YtpghaghmejgjbaaGreatDoorUd
namespace Go.Proofs.YtpghaghmejgjbaaGreatDoor.Tree
open Go.RowKit
open Path (Bs bs mk bs_mk mk_bs tl_bs splitE splitL MaxC parD parE parN nameL underL)
set_option linter.unusedSimpArgs false
set_option linter.unusedVariables false

theorem same_len {q m : List Nd} (e : q.map pur = m.map pur) : q.length = m.length := by
  have := congrArg List.length e
  simpa using this
set_option maxHeartbeats 8000000 in
theorem law_back (v : Value) (l : List Nd) (p q : ByteArray) (w : World) (hM : MaxC w) (h0 : RdN w v l ∧ (∀ x ∈ l, OkN w x) ∧ l.length ≤ 8796093022208) :
    Calls Tryz.prog 4 #[v, .string p, .string q] w fun e w' => e = .returned (.bool true) ∧ Below w.heap.size w w' := by
  obtain ⟨h, _, hn⟩ := h0
  have hex := ex_calls w hM
  have hfind := fun W (hW : Below w.heap.size w W) => find_calls W v l q (h.below hW) hn
  have hmv := fun W (hW : Below w.heap.size w W) => move_callsT W v l p q (h.below hW) hn (hM.below hW)
  have hmv2 := fun W (hW : Below w.heap.size w W) u (m : List Nd) (hu : RdN W u m) (hm : m.length ≤ 8796093022208) => move_callsT W u m q p hu hm (hM.below hW)
  have hrd := fun W (hW : Below w.heap.size w W) => h.below hW
  have Hfind := Lib.hid hfind; have Hmv := Lib.hid hmv; have Hmv2 := Lib.hid hmv2; have Hrd := Lib.hid hrd
  clear hfind hmv hmv2 hrd h hM
  go_enter Tryz.func4, Tryz.ntmps4
  go_wp2_with (fail)
  refine hex.mono ?_
  rintro e w1 ⟨rfl, b1⟩
  clear hex
  have hm := Hmv.out w1 b1
  generalize hE : mvE l (bs p) (bs q) = E at *
  have HE := Lib.hid hE; clear hE
  go_wp2_with (fail)
  refine hm.mono ?_
  rintro e w2 ⟨⟨v2, q2, rfl, hO2, hq2⟩, b2⟩
  clear hm
  have B2 := b1.trans (b2.mono b1.size)
  by_cases h0 : E = 0
  · subst h0
    rw [if_pos rfl] at hq2
    have hf := Hfind.out w2 B2
    have hback := mv_back HE.out
    have HO2 := Lib.hid hO2; have Hq2 := Lib.hid hq2; have Hback := Lib.hid hback
    clear hO2 hq2 hback
    generalize hg : findI (bs q) l = g at *
    have Hg := Lib.hid hg; clear hg
    by_cases hg0 : 0 ≤ g
    · go_wp2_with (fail)
      refine hf.mono ?_
      rintro e w3 ⟨rfl, b3⟩
      go_wp2_with (fail)
      go_ret
      exact ⟨rfl, B2.trans (b3.mono B2.size)⟩
    · have hb := Hback.out (by omega)
      have R := right_p (mvE_zero HE.out).1
      have hlen : q2.length ≤ 8796093022208 := by
        have h1 := congrArg List.length Hq2.out
        have h2 := (move_less HE.out).1
        have h3 := R.len
        rw [List.length_map] at h1
        omega
      have hq2' : q2.map pur = (sortd (mvD l (bs p) (bs q))).map pur := Hq2.out
      have hE2 : mvE q2 (bs q) (bs p) = 0 := mvE_same hq2' hb.1
      have hL2 : mvL q2 (bs q) (bs p) = l.map pur := (mvL_same hq2' _ _).trans hb.2
      have Hlen := Lib.hid hlen; have HE2 := Lib.hid hE2; have HL2 := Lib.hid hL2; have HR := Lib.hid R
      clear hlen hE2 hL2 R hb hq2'
      go_wp2_with (fail)
      refine hf.mono ?_
      rintro e w3 ⟨rfl, b3⟩
      clear hf
      have B3 := B2.trans (b3.mono B2.size)
      have hm := Hmv2.out w3 B3 v2 q2 (HO2.out.rd.below b3) Hlen.out
      rw [HE2.out, HL2.out] at hm
      go_wp2_with (fail)
      refine hm.mono ?_
      rintro e w4 ⟨⟨v4, q4, rfl, hO4, hq4⟩, b4⟩
      clear hm
      rw [if_pos rfl] at hq4
      have B4 := B3.trans (b4.mono B3.size)
      have hns := nodesT_calls w4 v4 v q4 l hq4 hO4.rd (Hrd.out w4 B4) (by rw [same_len hq4]; exact hn) (fun x hx => by
        have h1 := fits_blocks (fits_same hq4 HR.out.fits x hx)
        omega)
      clear hO4 hq4
      go_wp2_with (fail)
      refine hns.mono ?_
      rintro e w5 ⟨rfl, b5⟩
      go_wp2_with (fail)
      go_ret
      exact ⟨rfl, B4.trans (b5.mono B4.size)⟩
  · have hne : (E != 0) = true := by simpa using h0
    clear h0 hq2 hO2
    go_wp2_with (fail)
    go_ret
    exact ⟨rfl, B2⟩

theorem rem_res {q l : List Nd} {p : Bs} (h : rmE l p = 0) (e : q.map pur = rmL l p) : rightT q = true ∧ q.length < l.length ∧ findI p q < 0 ∧ q.length ≤ 60 := by
  have h1 := rem_less h
  have h2 : q.map pur = (l.filter fun x => !underL p (bs x.path)).map pur := e
  have hl : q.length = (rmL l p).length := by rw [← e, List.length_map]
  have h3 := (right_p (rmE_zero h).1).len
  refine ⟨by rw [right_same h2]; exact p_right (rem_right h), by omega, ?_, by omega⟩
  rw [← find_pur, e]; exact h1.2
theorem mv_res {q l : List Nd} {a b : Bs} (h : mvE l a b = 0) (e : q.map pur = mvL l a b) : rightT q = true ∧ q.length ≤ l.length ∧ findI a q < 0 ∧ 0 ≤ findI b q ∧ q.length ≤ 60 := by
  have h1 := move_less h
  have hl : q.length = (mvL l a b).length := by rw [← e, List.length_map]
  have h3 := (right_p (mvE_zero h).1).len
  refine ⟨by rw [← right_pur, e]; exact h1.2.2.2, by omega, by rw [← find_pur, e]; exact h1.2.1, by rw [← find_pur, e]; exact h1.2.2.1, by omega⟩
theorem add_res {q l : List Nd} {n : Nd} (h : addE l n = 0) (e : q.map pur = addL l n) : rightT q = true ∧ q.length = l.length + 1 ∧ rmE q (bs n.path) = 0 ∧ rmL q (bs n.path) = l.map pur ∧ q.length ≤ 61 ∧ l.length ≤ 60 ∧ ∀ x ∈ l, x.blocks.length ≤ 8 := by
  have h2 : q.map pur = (ins n l).map pur := e
  have hl : q.length = l.length + 1 := by rw [same_len h2, (ins_perm n l).length_eq, List.length_cons]
  have R := right_p (addE_zero h).1
  have h3 := R.len
  have h4 := add_rem h
  exact ⟨by rw [right_same h2]; exact p_right (add_right h), hl, by rw [rmE_same h2]; exact h4.1, by rw [rmL_same h2]; exact h4.2, by omega, h3, fun x hx => fits_blocks (R.fits x hx)⟩
set_option maxRecDepth 4000 in
set_option maxHeartbeats 16000000 in
theorem law_stays (v : Value) (l : List Nd) (n : Nd) (p q : ByteArray) (w : World) (hM : MaxC w) (h0 : RdN w v l ∧ (∀ x ∈ l, OkN w x) ∧ l.length ≤ 8796093022208) (hx : OkN w n) :
    Calls Tryz.prog 8 #[v, .agg #[.string n.path, .bool n.dir, .int .i64 n.quota, n.bv, .int .i64 n.writer], .string p, .string q] w fun e w' => e = .returned (.bool true) ∧ Below w.heap.size w w' := by
  obtain ⟨h, _, hn⟩ := h0
  have hex := fun W (hW : Below w.heap.size w W) => ex_calls W (hM.below hW)
  have hadd := fun W (hW : Below w.heap.size w W) => add_calls W v l n (h.below hW) (hx.bl.below hW (Nat.le_refl _)) hn (hM.below hW)
  have hmv := fun W (hW : Below w.heap.size w W) => move_callsT W v l p q (h.below hW) hn (hM.below hW)
  have hrm := fun W (hW : Below w.heap.size w W) u (m : List Nd) k (hu : RdN W u m) (hm : m.length ≤ 8796093022208) => remove_calls W u m k hu hm (hM.below hW)
  have hri := fun W (hW : Below w.heap.size w W) u (m : List Nd) (hu : RdN W u m) (hm : m.length ≤ 8796093022208) => right_calls W u m hu hm (hM.below hW)
  have hrd := fun W (hW : Below w.heap.size w W) => h.below hW
  obtain ⟨ax, cx, hbv⟩ := bv_slice hx.bl
  obtain ⟨ao, cap, rfl, _, _, _⟩ := rd_cellsN h.rd
  have Hex := Lib.hid hex; have Hadd := Lib.hid hadd; have Hmv := Lib.hid hmv; have Hrm := Lib.hid hrm; have Hri := Lib.hid hri; have Hrd := Lib.hid hrd
  rw [hbv] at *
  clear hex hadd hmv hrm hri hrd h hM hbv hx
  have b0 : Below w.heap.size w (w.alloc (.cells #[.string n.path, .bool n.dir, .int .i64 n.quota, .slice ax n.blocks.length cx, .int .i64 n.writer] 25 (0, 0))) := (Below.refl _ _).alloc (Nat.le_refl _) _
  have n0 := heap_alloc_new w (.cells #[.string n.path, .bool n.dir, .int .i64 n.quota, .slice ax n.blocks.length cx, .int .i64 n.writer] 25 (0, 0))
  go_enter Tryz.func8, Tryz.ntmps8
  go_wp2_with (fail)
  refine (Hex.out _ b0).mono ?_
  rintro e w1 ⟨rfl, b1⟩
  have B1 := b0.trans (b1.mono b0.size)
  have n1 := (b1.block _ (lt_of_block n0)).trans n0
  clear n0 b1 b0
  have c0 := cell_of_blk (j := 0) n1; have c1 := cell_of_blk (j := 1) n1; have c2 := cell_of_blk (j := 2) n1; have c3 := cell_of_blk (j := 3) n1; have c4 := cell_of_blk (j := 4) n1
  simp only [List.getElem?_toArray, List.getElem?_cons_zero, List.getElem?_cons_succ] at c0 c1 c2 c3 c4
  have ha := Hadd.out w1 B1
  generalize hE : addE l n = E at *
  have HE := Lib.hid hE; clear hE
  have N1 := Lib.hid n1; clear n1
  go_wp2_with (fail)
  refine ha.mono ?_
  rintro e w2 ⟨⟨v2, q2, rfl, hO2, hq2⟩, b2⟩
  clear ha c0 c1 c2 c3 c4
  have B2 := B1.trans (b2.mono B1.size)
  by_cases h0 : E = 0
  · subst h0
    rw [if_pos rfl] at hq2
    obtain ⟨f1, f2, f3, f4, f5, f6, f7⟩ := add_res HE.out hq2
    have hr3 := Hrm.out w2 B2 v2 q2 n.path hO2.rd (by omega)
    rw [f3, f4] at hr3
    have hr5 := fun W hb (hW : Below w2.heap.size w2 W) => Hri.out W hb v2 q2 (hO2.rd.below hW) (by omega)
    rw [f1] at hr5
    have Hr5 := Lib.hid hr5; have F7 := Lib.hid f7; have F2 := Lib.hid f2
    have n2 := (b2.block _ (lt_of_block N1.out)).trans N1.out
    have c0 := cell_of_blk (j := 0) n2
    simp only [List.getElem?_toArray, List.getElem?_cons_zero, List.getElem?_cons_succ] at c0
    obtain ⟨a2, k2, rfl, -, -, -⟩ := rd_cellsN hO2.rd.rd
    clear hr5 f1 f2 f3 f4 f7 n2 hq2 hO2
    go_wp2_with (fail)
    refine hr3.mono ?_
    rintro e w3 ⟨⟨v3, q3, rfl, hO3, hq3⟩, b3⟩
    clear hr3 c0
    rw [if_pos rfl] at hq3
    have B3 := B2.trans (b3.mono B2.size)
    have hns := nodesT_calls w3 v3 _ q3 l hq3 hO3.rd (Hrd.out w3 B3) (by rw [same_len hq3]; omega) (fun x hx => by
      have : pur x ∈ l.map pur := by rw [← hq3]; exact List.mem_map_of_mem hx
      obtain ⟨y, hy, hyx⟩ := List.mem_map.1 this
      have h1 := F7.out y hy
      have h2 := (pur_facts hyx).2.2.2.1
      rw [← h2]; omega)
    clear hO3 hq3
    go_wp2_with (fail)
    refine hns.mono ?_
    rintro e w4 ⟨rfl, b4⟩
    clear hns
    have B4 := B3.trans (b4.mono B3.size)
    have D4 := b3.trans (b4.mono b3.size)
    have hln : ((q2.length : Int) != (l.length : Int) + 1) = false := by rw [F2.out]; simp
    go_wp2_with (fail)
    refine (Hr5.out w4 B4 D4).mono ?_
    rintro e w5 ⟨rfl, b5⟩
    have BW := B4.trans (b5.mono B4.size)
    (have r1 := Hrm.out _ BW _ l p (Hrd.out _ BW) hn); (generalize hE1 : rmE l (bs p) = E1 at r1); (have HE1 := Lib.hid hE1); (clear hE1); (go_wp2_with (fail)); (refine r1.mono ?_); (rintro e w6 ⟨⟨v6, q6, rfl, hO6, hq6⟩, b6⟩); (clear r1); (have B6 := BW.trans (b6.mono BW.size)); (have r2 := Hmv.out w6 B6); (generalize hE2 : mvE l (bs p) (bs q) = E2 at r2); (have HE2 := Lib.hid hE2); (clear hE2); (have HO6 := Lib.hid hO6); (have Hq6 := Lib.hid hq6); (clear hO6 hq6); (go_wp2_with (fail)); (refine r2.mono ?_); (rintro e w7 ⟨⟨v7, q7, rfl, hO7, hq7⟩, b7⟩); (clear r2); (have B7 := B6.trans (b7.mono B6.size)); (have R6 := fun W (hW : Below w7.heap.size w7 W) => HO6.out.rd.below (b7.trans (hW.mono b7.size))); (have R7 := fun W (hW : Below w7.heap.size w7 W) => hO7.rd.below hW); (have HR6 := Lib.hid R6); (have HR7 := Lib.hid R7); (obtain ⟨a6, c6, rfl, -, -, -⟩ := rd_cellsN HO6.out.rd.rd); (obtain ⟨a7, c7, rfl, -, -, -⟩ := rd_cellsN hO7.rd.rd); (have Hq7 := Lib.hid hq7); (clear hO7 hq7 R6 R7); (by_cases h1 : E1 = 0); (focus (subst h1; (obtain ⟨f61, f62, f63, f64⟩ := rem_res HE1.out (by have := Hq6.out; rwa [if_pos rfl] at this)); (have r6 := Hri.out w7 B7 _ q6 (HR6.out w7 (Below.refl _ _)) (by omega)); (rw [f61] at r6); (have k6 := fun W (hW : Below w7.heap.size w7 W) => find_calls W _ q6 p (HR6.out W hW) (by omega)); (have hlt6 : decide (q6.length < l.length) = true := decide_eq_true f62); (generalize findI (bs p) q6 = g6 at *); (have hg6 : decide (g6 < 0) = true := decide_eq_true f63); (have K6 := Lib.hid k6); (clear k6 f61); (go_wp2_with (fail)); (refine r6.mono ?_); (rintro e w8 ⟨rfl, b8⟩); (have B8 := B7.trans (b8.mono B7.size)); (have D8 := b8); (clear r6); (go_wp2_with (fail)); (refine (K6.out w8 D8).mono ?_); (rintro e w9 ⟨rfl, b9⟩); (have B9 := B8.trans (b9.mono B8.size)); (have D9 := D8.trans (b9.mono D8.size)); (by_cases h2 : E2 = 0); (focus (subst h2; (obtain ⟨m1, m2, m3, m4, m5⟩ := mv_res HE2.out (by have := Hq7.out; rwa [if_pos rfl] at this)); (have rr := Hri.out _ B9 _ q7 (HR7.out _ D9) (by omega)); (rw [m1] at rr); (have kq := fun W (hW : Below w7.heap.size w7 W) => find_calls W _ q7 q (HR7.out W hW) (by omega)); (have kp := fun W (hW : Below w7.heap.size w7 W) => find_calls W _ q7 p (HR7.out W hW) (by omega)); (have hle7 : decide (q7.length ≤ l.length) = true := decide_eq_true m2); (generalize findI (bs q) q7 = gq at *); (generalize findI (bs p) q7 = gp at *); (have hgq : decide (0 ≤ gq) = true := decide_eq_true m4); (have hgp : decide (gp < 0) = true := decide_eq_true m3); (have Kq := Lib.hid kq); (have Kp := Lib.hid kp); (clear kq kp m1); (go_wp2_with (fail)); (refine rr.mono ?_); (rintro e w10 ⟨rfl, b10⟩); (clear rr); (have B10 := B9.trans (b10.mono B9.size)); (have D10 := D9.trans (b10.mono D9.size)); (go_wp2_with (fail)); (refine (Kq.out _ D10).mono ?_); (rintro e w11 ⟨rfl, b11⟩); (have B11 := B10.trans (b11.mono B10.size)); (have D11 := D10.trans (b11.mono D10.size)); (go_wp2_with (fail)); (refine (Kp.out _ D11).mono ?_); (rintro e w12 ⟨rfl, b12⟩); (go_wp2_with (fail)); go_ret; exact ⟨rfl, B11.trans (b12.mono B11.size)⟩)); (focus ((have hne2 : (E2 != 0) = true := by simpa using h2); (go_wp2_with (fail)); go_ret; exact ⟨rfl, B9⟩)))); (focus ((have hne1 : (E1 != 0) = true := by simpa using h1); (have B9 := B7); (have D9 := Below.refl w7.heap.size w7); (by_cases h2 : E2 = 0); (focus (subst h2; (obtain ⟨m1, m2, m3, m4, m5⟩ := mv_res HE2.out (by have := Hq7.out; rwa [if_pos rfl] at this)); (have rr := Hri.out _ B9 _ q7 (HR7.out _ D9) (by omega)); (rw [m1] at rr); (have kq := fun W (hW : Below w7.heap.size w7 W) => find_calls W _ q7 q (HR7.out W hW) (by omega)); (have kp := fun W (hW : Below w7.heap.size w7 W) => find_calls W _ q7 p (HR7.out W hW) (by omega)); (have hle7 : decide (q7.length ≤ l.length) = true := decide_eq_true m2); (generalize findI (bs q) q7 = gq at *); (generalize findI (bs p) q7 = gp at *); (have hgq : decide (0 ≤ gq) = true := decide_eq_true m4); (have hgp : decide (gp < 0) = true := decide_eq_true m3); (have Kq := Lib.hid kq); (have Kp := Lib.hid kp); (clear kq kp m1); (go_wp2_with (fail)); (refine rr.mono ?_); (rintro e w10 ⟨rfl, b10⟩); (clear rr); (have B10 := B9.trans (b10.mono B9.size)); (have D10 := D9.trans (b10.mono D9.size)); (go_wp2_with (fail)); (refine (Kq.out _ D10).mono ?_); (rintro e w11 ⟨rfl, b11⟩); (have B11 := B10.trans (b11.mono B10.size)); (have D11 := D10.trans (b11.mono D10.size)); (go_wp2_with (fail)); (refine (Kp.out _ D11).mono ?_); (rintro e w12 ⟨rfl, b12⟩); (go_wp2_with (fail)); go_ret; exact ⟨rfl, B11.trans (b12.mono B11.size)⟩)); (focus ((have hne2 : (E2 != 0) = true := by simpa using h2); (go_wp2_with (fail)); go_ret; exact ⟨rfl, B9⟩))))
  · have hne : (E != 0) = true := by simpa using h0
    clear hq2 hO2
    have BW := B2
    (have r1 := Hrm.out _ BW _ l p (Hrd.out _ BW) hn); (generalize hE1 : rmE l (bs p) = E1 at r1); (have HE1 := Lib.hid hE1); (clear hE1); (go_wp2_with (fail)); (refine r1.mono ?_); (rintro e w6 ⟨⟨v6, q6, rfl, hO6, hq6⟩, b6⟩); (clear r1); (have B6 := BW.trans (b6.mono BW.size)); (have r2 := Hmv.out w6 B6); (generalize hE2 : mvE l (bs p) (bs q) = E2 at r2); (have HE2 := Lib.hid hE2); (clear hE2); (have HO6 := Lib.hid hO6); (have Hq6 := Lib.hid hq6); (clear hO6 hq6); (go_wp2_with (fail)); (refine r2.mono ?_); (rintro e w7 ⟨⟨v7, q7, rfl, hO7, hq7⟩, b7⟩); (clear r2); (have B7 := B6.trans (b7.mono B6.size)); (have R6 := fun W (hW : Below w7.heap.size w7 W) => HO6.out.rd.below (b7.trans (hW.mono b7.size))); (have R7 := fun W (hW : Below w7.heap.size w7 W) => hO7.rd.below hW); (have HR6 := Lib.hid R6); (have HR7 := Lib.hid R7); (obtain ⟨a6, c6, rfl, -, -, -⟩ := rd_cellsN HO6.out.rd.rd); (obtain ⟨a7, c7, rfl, -, -, -⟩ := rd_cellsN hO7.rd.rd); (have Hq7 := Lib.hid hq7); (clear hO7 hq7 R6 R7); (by_cases h1 : E1 = 0); (focus (subst h1; (obtain ⟨f61, f62, f63, f64⟩ := rem_res HE1.out (by have := Hq6.out; rwa [if_pos rfl] at this)); (have r6 := Hri.out w7 B7 _ q6 (HR6.out w7 (Below.refl _ _)) (by omega)); (rw [f61] at r6); (have k6 := fun W (hW : Below w7.heap.size w7 W) => find_calls W _ q6 p (HR6.out W hW) (by omega)); (have hlt6 : decide (q6.length < l.length) = true := decide_eq_true f62); (generalize findI (bs p) q6 = g6 at *); (have hg6 : decide (g6 < 0) = true := decide_eq_true f63); (have K6 := Lib.hid k6); (clear k6 f61); (go_wp2_with (fail)); (refine r6.mono ?_); (rintro e w8 ⟨rfl, b8⟩); (have B8 := B7.trans (b8.mono B7.size)); (have D8 := b8); (clear r6); (go_wp2_with (fail)); (refine (K6.out w8 D8).mono ?_); (rintro e w9 ⟨rfl, b9⟩); (have B9 := B8.trans (b9.mono B8.size)); (have D9 := D8.trans (b9.mono D8.size)); (by_cases h2 : E2 = 0); (focus (subst h2; (obtain ⟨m1, m2, m3, m4, m5⟩ := mv_res HE2.out (by have := Hq7.out; rwa [if_pos rfl] at this)); (have rr := Hri.out _ B9 _ q7 (HR7.out _ D9) (by omega)); (rw [m1] at rr); (have kq := fun W (hW : Below w7.heap.size w7 W) => find_calls W _ q7 q (HR7.out W hW) (by omega)); (have kp := fun W (hW : Below w7.heap.size w7 W) => find_calls W _ q7 p (HR7.out W hW) (by omega)); (have hle7 : decide (q7.length ≤ l.length) = true := decide_eq_true m2); (generalize findI (bs q) q7 = gq at *); (generalize findI (bs p) q7 = gp at *); (have hgq : decide (0 ≤ gq) = true := decide_eq_true m4); (have hgp : decide (gp < 0) = true := decide_eq_true m3); (have Kq := Lib.hid kq); (have Kp := Lib.hid kp); (clear kq kp m1); (go_wp2_with (fail)); (refine rr.mono ?_); (rintro e w10 ⟨rfl, b10⟩); (clear rr); (have B10 := B9.trans (b10.mono B9.size)); (have D10 := D9.trans (b10.mono D9.size)); (go_wp2_with (fail)); (refine (Kq.out _ D10).mono ?_); (rintro e w11 ⟨rfl, b11⟩); (have B11 := B10.trans (b11.mono B10.size)); (have D11 := D10.trans (b11.mono D10.size)); (go_wp2_with (fail)); (refine (Kp.out _ D11).mono ?_); (rintro e w12 ⟨rfl, b12⟩); (go_wp2_with (fail)); go_ret; exact ⟨rfl, B11.trans (b12.mono B11.size)⟩)); (focus ((have hne2 : (E2 != 0) = true := by simpa using h2); (go_wp2_with (fail)); go_ret; exact ⟨rfl, B9⟩)))); (focus ((have hne1 : (E1 != 0) = true := by simpa using h1); (have B9 := B7); (have D9 := Below.refl w7.heap.size w7); (by_cases h2 : E2 = 0); (focus (subst h2; (obtain ⟨m1, m2, m3, m4, m5⟩ := mv_res HE2.out (by have := Hq7.out; rwa [if_pos rfl] at this)); (have rr := Hri.out _ B9 _ q7 (HR7.out _ D9) (by omega)); (rw [m1] at rr); (have kq := fun W (hW : Below w7.heap.size w7 W) => find_calls W _ q7 q (HR7.out W hW) (by omega)); (have kp := fun W (hW : Below w7.heap.size w7 W) => find_calls W _ q7 p (HR7.out W hW) (by omega)); (have hle7 : decide (q7.length ≤ l.length) = true := decide_eq_true m2); (generalize findI (bs q) q7 = gq at *); (generalize findI (bs p) q7 = gp at *); (have hgq : decide (0 ≤ gq) = true := decide_eq_true m4); (have hgp : decide (gp < 0) = true := decide_eq_true m3); (have Kq := Lib.hid kq); (have Kp := Lib.hid kp); (clear kq kp m1); (go_wp2_with (fail)); (refine rr.mono ?_); (rintro e w10 ⟨rfl, b10⟩); (clear rr); (have B10 := B9.trans (b10.mono B9.size)); (have D10 := D9.trans (b10.mono D9.size)); (go_wp2_with (fail)); (refine (Kq.out _ D10).mono ?_); (rintro e w11 ⟨rfl, b11⟩); (have B11 := B10.trans (b11.mono B10.size)); (have D11 := D10.trans (b11.mono D10.size)); (go_wp2_with (fail)); (refine (Kp.out _ D11).mono ?_); (rintro e w12 ⟨rfl, b12⟩); (go_wp2_with (fail)); go_ret; exact ⟨rfl, B11.trans (b12.mono B11.size)⟩)); (focus ((have hne2 : (E2 != 0) = true := by simpa using h2); (go_wp2_with (fail)); go_ret; exact ⟨rfl, B9⟩))))
end Go.Proofs.YtpghaghmejgjbaaGreatDoor.Tree
