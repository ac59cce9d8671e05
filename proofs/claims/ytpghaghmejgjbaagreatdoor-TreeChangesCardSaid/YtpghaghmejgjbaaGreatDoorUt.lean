/- Trees (chapter 7): TreeChanges, walked. -/
import Derived.Test.YtpghaghmejgjbaaGreatDoorUq
import Derived.Test.YtpghaghmejgjbaaGreatDoorUr
import Derived.Test.YtpghaghmejgjbaaGreatDoorUs
import Derived.Test.YtpghaghmejgjbaaGreatDoorUa
namespace Go.Proofs.YtpghaghmejgjbaaGreatDoor.Tree
open Go.RowKit
open Path (Bs bs mk bs_mk mk_bs tl_bs splitE splitL MaxC parD parE parN)
set_option linter.unusedSimpArgs false
set_option linter.unusedVariables false

theorem addE_same {q m : List Nd} (e : q.map pur = m.map pur) (n : Nd) : addE q n = addE m n := by
  rw [addE, addE, right_same e, isSome_same e, dirE_keys, dirE_keys, keys_same e, len_pur e]
theorem addL_same {q m : List Nd} (e : q.map pur = m.map pur) (n : Nd) : addL q n = addL m n := ins_same e n
theorem clash_same {q m : List Nd} (e : q.map pur = m.map pur) (b : Bs) {x y : Nd} (hxy : x.dir = y.dir) : clash q b x = clash m b y := by
  have key : ∀ l : List Nd, ∀ z : Nd, clash l b z = match (keys l).find? (fun y => y.1 == b) with
      | none => false
      | some k => z.dir || k.2 := fun l z => by
    rw [clash, keys, List.find?_map]
    have e : ((fun y : Bs × Bool => y.1 == b) ∘ fun x : Nd => (bs x.path, x.dir)) = fun y => bs y.path == b := rfl
    rw [e]
    cases l.find? (fun y => bs y.path == b) <;> rfl
  rw [key, key, keys_same e, hxy]
theorem bad_same {q m : List Nd} (e : q.map pur = m.map pur) (a b : Bs) : q.any (mvBad a b) = m.any (mvBad a b) := by
  have key : ∀ l : List Nd, l.any (mvBad a b) = (l.map pur).any (mvBad a b) := fun l => by rw [List.any_map]; rfl
  rw [key, e, ← key]
theorem mvE_all {q m : List Nd} (e : q.map pur = m.map pur) (a b : Bs) : mvE q a b = mvE m a b := by
  have hf : ∀ l : List Nd, (l.find? fun x => bs x.path == a).map pur = (l.map pur).find? fun x => bs x.path == a := fun l => by
    rw [List.find?_map]; rfl
  have h1 : (q.find? fun x => bs x.path == a).map pur = (m.find? fun x => bs x.path == a).map pur := by rw [hf, hf, e]
  rw [mvE, mvE, right_same e]
  cases hq : q.find? (fun x => bs x.path == a) with
  | none =>
    rw [hq] at h1
    cases hm : m.find? (fun x => bs x.path == a) with
    | none => rfl
    | some y => rw [hm] at h1; cases h1
  | some x =>
    rw [hq] at h1
    cases hm : m.find? (fun x => bs x.path == a) with
    | none => rw [hm] at h1; cases h1
    | some y =>
      rw [hm] at h1
      have hxy : pur x = pur y := by simpa using h1
      have hd : dirE q b = dirE m b := by rw [dirE_keys, dirE_keys, keys_same e]
      simp only [hd, clash_same e b (pur_facts hxy).2.1, bad_same e]
theorem small_res {q L : List Nd} {E : Int} (hR : E = 0 → rightT L = true) (e : q.map pur = if E = 0 then L else []) : q.length ≤ 60 ∧ ∀ x ∈ q, x.blocks.length ≤ 8 := by
  by_cases h : E = 0
  · rw [if_pos h] at e
    have hr : rightT q = true := by rw [← right_pur, e]; exact hR h
    exact ⟨right_len hr, fun x hx => right_blocks hr hx⟩
  · rw [if_neg h] at e
    have : q = [] := List.map_eq_nil_iff.1 e
    subst this
    exact ⟨by simp, fun x hx => by cases hx⟩
theorem add_rt {l : List Nd} {n : Nd} (h : addE l n = 0) : rightT (addL l n) = true := by rw [addL, right_pur]; exact p_right (add_right h)
theorem rem_rt {l : List Nd} {p : Bs} (h : rmE l p = 0) : rightT (rmL l p) = true := by rw [rmL, right_pur]; exact p_right (rem_right h)
theorem mv_rt {l : List Nd} {a b : Bs} (h : mvE l a b = 0) : rightT (mvL l a b) = true := (move_less h).2.2.2

set_option maxRecDepth 8000 in
set_option maxHeartbeats 16000000 in
theorem law_changes (v : Value) (l : List Nd) (n : Nd) (p q : ByteArray) (w : World) (hM : MaxC w) (h0 : RdN w v l ∧ (∀ x ∈ l, OkS w x) ∧ l.length ≤ 2199023255488) (hx : OkS w n) :
    Calls Tryz.prog 7 #[v, .agg #[.string n.path, .bool n.dir, .int .i64 n.quota, n.bv, .int .i64 n.writer], .string p, .string q] w fun e w' => e = .returned (.bool true) ∧ Below w.heap.size w w' := by
  obtain ⟨h, hok, hn⟩ := h0
  have hbl := hx.ok.bl
  have hex := fun W (hW : Below w.heap.size w W) => ex_calls W (hM.below hW)
  have hcop := fun W (hW : Below w.heap.size w W) => copied_calls W v l (h.below hW) hn (fun x hx => by have := (hok x hx).small; omega)
  have hadd := fun W (hW : Below w.heap.size w W) u (m : List Nd) (hu : RdN W u m) (hm : m.length ≤ 8796093022208) => add_calls W u m n hu (hbl.below hW (Nat.le_refl _)) hm (hM.below hW)
  have hrad := fun W (hW : Below w.heap.size w W) => radd_calls W v l n (h.below hW) (hbl.below hW (Nat.le_refl _)) (by omega)
  have hrem := fun W (hW : Below w.heap.size w W) u (m : List Nd) (hu : RdN W u m) (hm : m.length ≤ 8796093022208) => remove_calls W u m p hu hm (hM.below hW)
  have hrrm := fun W (hW : Below w.heap.size w W) => rrem_calls W v l p (h.below hW) (by omega)
  have hmov := fun W (hW : Below w.heap.size w W) u (m : List Nd) (hu : RdN W u m) (hm : m.length ≤ 8796093022208) => move_callsT W u m p q hu hm (hM.below hW)
  have hrmv := fun W (hW : Below w.heap.size w W) => rmove_callsT W v l p q (h.below hW) (by omega)
  have hrd := fun W (hW : Below w.heap.size w W) => h.below hW
  have hsm := fun x hx => (hok x hx).small
  obtain ⟨ax, cx, hbv⟩ := bv_slice hbl
  obtain ⟨ao, cap, rfl, _, _, _⟩ := rd_cellsN h.rd
  rw [hbv]
  simp only [hbv] at hadd hrad
  have b0 : Below w.heap.size w (w.alloc (.cells #[.string n.path, .bool n.dir, .int .i64 n.quota, .slice ax n.blocks.length cx, .int .i64 n.writer] 25 (0, 0))) := (Below.refl _ _).alloc (Nat.le_refl _) _
  have N0 := Lib.hid (heap_alloc_new w (.cells #[.string n.path, .bool n.dir, .int .i64 n.quota, .slice ax n.blocks.length cx, .int .i64 n.writer] 25 (0, 0)))
  have R1 := Lib.hid (fun h => add_rt (l := l) (n := n) h)
  have R2 := Lib.hid (fun h => rem_rt (l := l) (p := bs p) h)
  have R3 := Lib.hid (fun h => mv_rt (l := l) (a := bs p) (b := bs q) h)
  have hadd' := fun W (hW : Below w.heap.size w W) u (m : List Nd) (hu : RdN W u m) (hm : m.length ≤ 8796093022208) (e : m.map pur = l.map pur) => (addE_same e n) ▸ (addL_same e n) ▸ hadd W hW u m hu hm
  have hrem' := fun W (hW : Below w.heap.size w W) u (m : List Nd) (hu : RdN W u m) (hm : m.length ≤ 8796093022208) (e : m.map pur = l.map pur) => (rmE_same e (bs p)) ▸ (rmL_same e (bs p)) ▸ hrem W hW u m hu hm
  have hmov' := fun W (hW : Below w.heap.size w W) u (m : List Nd) (hu : RdN W u m) (hm : m.length ≤ 8796093022208) (e : m.map pur = l.map pur) => (mvE_all e (bs p) (bs q)) ▸ (mvL_same e (bs p) (bs q)) ▸ hmov W hW u m hu hm
  have Hex := Lib.hid hex; have Hcop := Lib.hid hcop; have Hadd := Lib.hid hadd'; have Hrad := Lib.hid hrad; have Hrem := Lib.hid hrem'; have Hrrm := Lib.hid hrrm; have Hmov := Lib.hid hmov'; have Hrmv := Lib.hid hrmv; have Hrd := Lib.hid hrd; have Hsm := Lib.hid hsm
  clear hex hcop hadd hadd' hrad hrem hrem' hrrm hmov hmov' hrmv hrd hsm hbv hbl hx hok h hM
  generalize addE l n = E1 at *
  generalize addL l n = L1 at *
  generalize rmE l (bs p) = E2 at *
  generalize rmL l (bs p) = L2 at *
  generalize mvE l (bs p) (bs q) = E3 at *
  generalize mvL l (bs p) (bs q) = L3 at *
  go_enter Tryz.func7, Tryz.ntmps7
  go_wp2_with (fail)
  refine (Hex.out _ b0).mono ?_
  rintro e w1 ⟨rfl, b1⟩
  have B1 := b0.trans (b1.mono b0.size)
  have n1 := Lib.hid ((b1.block _ (lt_of_block N0.out)).trans N0.out)
  go_wp2_with (fail)
  refine (Hcop.out w1 B1).mono ?_
  rintro e w2 ⟨⟨vo, qo, rfl, hO2, hqo⟩, b2⟩
  have B2 := B1.trans (b2.mono B1.size)
  have n2 := Lib.hid ((b2.block _ (lt_of_block n1.out)).trans n1.out)
  have Hqo := Lib.hid hqo
  have hlo : qo.length ≤ 8796093022208 := by rw [len_pur hqo]; omega
  have hRo := fun W (hW : Below w2.heap.size w2 W) => hO2.rd.below hW
  have HRo := Lib.hid hRo
  clear hO2 hqo hRo
  obtain ⟨c0, c1, c2, c3, c4⟩ := blk5c n2.out
  go_wp2_with (fail)
  refine (Hadd.out w2 B2 vo qo (HRo.out w2 (Below.refl _ _)) hlo Hqo.out).mono ?_
  rintro e w3 ⟨⟨v3, q3, rfl, hO3, hq3⟩, b3⟩
  clear c0 c1 c2 c3 c4
  have B3 := B2.trans (b3.mono B2.size)
  have n3 := (b3.block _ (lt_of_block n2.out)).trans n2.out
  obtain ⟨c0, c1, c2, c3, c4⟩ := blk5c n3
  have HO3 := Lib.hid hO3; have Hq3 := Lib.hid hq3
  clear hO3 hq3 n3
  go_wp2_with (fail)
  refine (Hrad.out w3 B3).mono ?_
  rintro e w4 ⟨⟨v4, q4, rfl, hO4, hq4⟩, b4⟩
  clear c0 c1 c2 c3 c4
  have B4 := B3.trans (b4.mono B3.size)
  obtain ⟨s1, s2⟩ := small_res R1.out Hq3.out
  have hns := nodesT_calls w4 v3 v4 q3 q4 (Hq3.out.trans hq4.symm) (HO3.out.rd.below b4) hO4.rd (by omega) (fun x hx => by have := s2 x hx; omega)
  have Hns := Lib.hid hns; have S2 := Lib.hid s2
  clear hns hO4 hq4 s2
  go_wp2_with (fail)
  refine Hns.out.mono ?_
  rintro e w5 ⟨rfl, b5⟩
  have B5 := B4.trans (b5.mono B4.size)
  have D5 : Below w3.heap.size w3 w5 := b4.trans (b5.mono b4.size)
  have hsp := spoil_calls w2 w5 v3 q3 (HO3.out.below D5) (by omega) (fun x hx => by have := S2.out x hx; omega) (by have := b3.size; have := D5.size; omega)
  have Hsp := Lib.hid hsp
  clear hsp
  go_wp2_with (fail)
  refine Hsp.out.mono ?_
  rintro e w6 ⟨rfl, b6⟩
  have D6 : Below w2.heap.size w2 w6 := (b3.trans (D5.mono b3.size)).trans b6
  have B6 := B2.trans (D6.mono B2.size)
  clear Hns Hsp S2
  go_wp2_with (fail)
  refine (Hrem.out w6 B6 vo qo (HRo.out w6 D6) hlo Hqo.out).mono ?_
  rintro e w7 ⟨⟨v7, q7, rfl, hO7, hq7⟩, b7⟩
  have B7 := B6.trans (b7.mono B6.size)
  have HO7 := Lib.hid hO7; have Hq7 := Lib.hid hq7
  clear hO7 hq7
  go_wp2_with (fail)
  refine (Hrrm.out w7 B7).mono ?_
  rintro e w8 ⟨⟨v8, q8, rfl, hO8, hq8⟩, b8⟩
  have B8 := B7.trans (b8.mono B7.size)
  obtain ⟨s1', s2⟩ := small_res R2.out Hq7.out
  have hns := nodesT_calls w8 v7 v8 q7 q8 (Hq7.out.trans hq8.symm) (HO7.out.rd.below b8) hO8.rd (by omega) (fun x hx => by have := s2 x hx; omega)
  have Hns := Lib.hid hns; have S2 := Lib.hid s2
  clear hns hO8 hq8 s2
  go_wp2_with (fail)
  refine Hns.out.mono ?_
  rintro e w9 ⟨rfl, b9⟩
  have B9 := B8.trans (b9.mono B8.size)
  have D9 : Below w7.heap.size w7 w9 := b8.trans (b9.mono b8.size)
  have hsp := spoil_calls w6 w9 v7 q7 (HO7.out.below D9) (by omega) (fun x hx => by have := S2.out x hx; omega) (by have := b7.size; have := D9.size; omega)
  have Hsp := Lib.hid hsp
  clear hsp
  go_wp2_with (fail)
  refine Hsp.out.mono ?_
  rintro e w10 ⟨rfl, b10⟩
  have D10' : Below w6.heap.size w6 w10 := (b7.trans (D9.mono b7.size)).trans b10
  have D10 : Below w2.heap.size w2 w10 := D6.trans (D10'.mono D6.size)
  have B10 := B2.trans (D10.mono B2.size)
  clear Hns Hsp S2
  go_wp2_with (fail)
  refine (Hmov.out w10 B10 vo qo (HRo.out w10 D10) hlo Hqo.out).mono ?_
  rintro e w11 ⟨⟨v11, q11, rfl, hO11, hq11⟩, b11⟩
  have B11 := B10.trans (b11.mono B10.size)
  have HO11 := Lib.hid hO11; have Hq11 := Lib.hid hq11
  clear hO11 hq11
  go_wp2_with (fail)
  refine (Hrmv.out w11 B11).mono ?_
  rintro e w12 ⟨⟨v12, q12, rfl, hO12, hq12⟩, b12⟩
  have B12 := B11.trans (b12.mono B11.size)
  obtain ⟨s1'', s2⟩ := small_res R3.out Hq11.out
  have hns := nodesT_calls w12 v11 v12 q11 q12 (Hq11.out.trans hq12.symm) (HO11.out.rd.below b12) hO12.rd (by omega) (fun x hx => by have := s2 x hx; omega)
  have Hns := Lib.hid hns; have S2 := Lib.hid s2
  clear hns hO12 hq12 s2
  go_wp2_with (fail)
  refine Hns.out.mono ?_
  rintro e w13 ⟨rfl, b13⟩
  have B13 := B12.trans (b13.mono B12.size)
  have D13 : Below w11.heap.size w11 w13 := b12.trans (b13.mono b12.size)
  have hsp := spoil_calls w10 w13 v11 q11 (HO11.out.below D13) (by omega) (fun x hx => by have := S2.out x hx; omega) (by have := b11.size; have := D13.size; omega)
  have Hsp := Lib.hid hsp
  clear hsp
  go_wp2_with (fail)
  refine Hsp.out.mono ?_
  rintro e w14 ⟨rfl, b14⟩
  have D14' : Below w10.heap.size w10 w14 := (b11.trans (D13.mono b11.size)).trans b14
  have D14 : Below w2.heap.size w2 w14 := D10.trans (D14'.mono D10.size)
  have B14 := B2.trans (D14.mono B2.size)
  have hns2 := nodesT_calls w14 vo _ qo l Hqo.out (HRo.out w14 D14) (Hrd.out w14 B14) hlo (fun x hx => by
    have : pur x ∈ l.map pur := by rw [← Hqo.out]; exact List.mem_map_of_mem hx
    obtain ⟨y, hy, hyx⟩ := List.mem_map.1 this
    have h1 := Hsm.out y hy
    have h2 := (pur_facts hyx).2.2.2.1
    rw [← h2]; omega)
  have Hns2 := Lib.hid hns2
  clear Hns Hsp S2 hns2
  go_wp2_with (fail)
  refine Hns2.out.mono ?_
  rintro e w15 ⟨rfl, b15⟩
  go_wp2_with (fail)
  go_ret
  exact ⟨rfl, B14.trans (b15.mono B14.size)⟩
end Go.Proofs.YtpghaghmejgjbaaGreatDoor.Tree
