/- Trees: tree.Move, walked. -/
import Derived.Test.YtpghaghmejgjbaaGreatDoorTx
namespace Go.Proofs.YtpghaghmejgjbaaGreatDoor.Tree
open Go.RowKit
open Path (Bs bs mk bs_mk mk_bs tl_bs splitE splitL MaxC parD parE parN underL under_calls moveE moveS move_calls)
set_option linter.unusedSimpArgs false
set_option linter.unusedVariables false

/-- The last part: nothing is in the way. -/
theorem mv_some (w w5 : World) (A B : Nat) (v : Value) (l : List Nd) (p q : ByteArray) (h : RdN w v l) (hM : MaxC w) (hB5 : Below w.heap.size w w5) (hA : (w5.alloc (.cells #[.bool false] 4 (0, 0))).heap[A]? = some (.cells #[.string p] 9 (0, 0))) (hB : (w5.alloc (.cells #[.bool false] 4 (0, 0))).heap[B]? = some (.cells #[.string q] 9 (0, 0))) (hAC : A < w5.heap.size) (hBC : B < w5.heap.size)
    (hr : rightT l = true) (hp : bs p ≠ [47]) (hq : bs q ≠ [47]) :
    Calls Tryz.prog 49 #[v, .func (.func 50) #[] #[.pointer (some ⟨A, 0, none⟩), .pointer (some ⟨B, 0, none⟩), .pointer (some ⟨w5.heap.size, 0, none⟩)]] (w5.alloc (.cells #[.bool false] 4 (0, 0))) fun e w' =>
      (∃ v' s, e = .returned v' ∧ OwnX w w' v' s ∧ (mvE l (bs p) (bs q) = 0 → s.map pur = mvL l (bs p) (bs q))) ∧ Below w.heap.size w w' ∧ w'.cell? ⟨w5.heap.size, 0, none⟩ = some (.bool (l.any (mvBad (bs p) (bs q)))) := by
  have hsz := hB5.size
  have hb6 : Below w.heap.size w (w5.alloc (.cells #[.bool false] 4 (0, 0))) := hB5.alloc hsz _
  have hF : ∀ i, i = w5.heap.size → w.heap.size ≤ i := fun i h => by omega
  have hso := some_calls w (w5.alloc (.cells #[.bool false] 4 (0, 0))) (fun i => i = w5.heap.size) 50 #[.pointer (some ⟨A, 0, none⟩), .pointer (some ⟨B, 0, none⟩), .pointer (some ⟨w5.heap.size, 0, none⟩)] v l (mvN (bs p) (bs q)) (mvK (bs p) (bs q)) _
    (mv_choice _ A B w5.heap.size p q l (fun x hx => bv_slice (h.bl x hx)) hA hB (by simp) (by omega) (by omega) (fun W hW => hM.below (hb6.trans (hW.toBelow hF hb6.size)))) h hb6 hF (by have := right_len hr; omega) (fun x hx => by have := right_blocks hr hx; omega) ?_ (heap_alloc_new w5 _)
  · refine hso.mono ?_
    rintro e w' ⟨⟨v', s, rfl, hO, hP, hS⟩, hU, hJ⟩
    rw [List.take_length] at hJ
    refine ⟨⟨v', s, rfl, hO.up hb6.size, fun hE => ?_⟩, hb6.trans (hU.toBelow hF hb6.size), cell_of_blk hJ⟩
    refine perm_rises (hP.trans ?_) hS (mv_rises hE)
    rw [preS, List.take_length]
    exact ((sortd_perm _).symm.map pur)
  · obtain ⟨x, t, hl, hx, _⟩ := right_head hr
    exact ⟨x, by rw [hl]; exact List.mem_cons_self .., by
      rw [mvK, hx, under_root hp]
      simpa using Ne.symm hq⟩

set_option maxRecDepth 4000 in
set_option maxHeartbeats 16000000 in
theorem move_callsT (w : World) (v : Value) (l : List Nd) (p q : ByteArray) (h : RdN w v l) (hn : l.length ≤ 8796093022208) (hM : MaxC w) :
    Calls Tryz.prog 19 #[v, .string p, .string q] w (ResX w (mvE l (bs p) (bs q)) (mvL l (bs p) (bs q))) := by
  have hb0 : Below w.heap.size w ((w.alloc (.cells #[.string p] 9 (0, 0))).alloc (.cells #[.string q] 9 (0, 0))) := ((Below.refl _ _).alloc (Nat.le_refl _) _).alloc (by simp) _
  have hsz0 : ((w.alloc (.cells #[.string p] 9 (0, 0))).alloc (.cells #[.string q] 9 (0, 0))).heap.size = w.heap.size + 2 := by simp
  have n0 : ((w.alloc (.cells #[.string p] 9 (0, 0))).alloc (.cells #[.string q] 9 (0, 0))).heap[w.heap.size]? = some (.cells #[.string p] 9 (0, 0)) := (heap_alloc_old _ _ (by simp)).trans (heap_alloc_new _ _)
  have n1 : ((w.alloc (.cells #[.string p] 9 (0, 0))).alloc (.cells #[.string q] 9 (0, 0))).heap[w.heap.size + 1]? = some (.cells #[.string q] 9 (0, 0)) := by have := heap_alloc_new (w.alloc (.cells #[.string p] 9 (0, 0))) (.cells #[.string q] 9 (0, 0)); simpa using this
  obtain ⟨ao, cap, rfl, _, _, hcell⟩ := rd_cellsN h.rd
  generalize hw0 : (w.alloc (.cells #[.string p] 9 (0, 0))).alloc (.cells #[.string q] 9 (0, 0)) = w0 at *
  have h1 := right_calls w0 _ l (h.below hb0) hn (hM.below hb0)
  have h2 : ∀ r W, Below w0.heap.size w0 W → _ := fun r W hW => good_calls W r ((hM.below hb0).below hW)
  have hat := fun r W (hW : Below w0.heap.size w0 W) hs => at_calls W _ l r ((h.below hb0).below hW) hs hn
  have hdr := fun W (hW : Below w0.heap.size w0 W) hs => dir_calls W _ l q ((h.below hb0).below hW) hs hn ((hM.below hb0).below hW)
  have hun := fun W (hW : Below w0.heap.size w0 W) => under_calls W p q ((hM.below hb0).below hW)
  have hcl : ∀ W, Below w0.heap.size w0 W → _ := fun W hW => hcell W (hb0.trans (hW.mono hb0.size))
  have hri := fun h => right_rises (l := l) h
  have hfi := fun r => has_find r l
  have hcs : ∀ W, Below w0.heap.size w0 W → W.cell? ⟨w.heap.size, 0, none⟩ = some (.string p) ∧ W.cell? ⟨w.heap.size + 1, 0, none⟩ = some (.string q) := fun W hW => ⟨cell_of_blk ((hW.block _ (by omega)).trans n0), cell_of_blk ((hW.block _ (by omega)).trans n1)⟩
  have hsl : ∀ r : ByteArray, (r.toList == [47]) = (bs r == [47]) := fun r => by rw [tl_bs]
  have Hcs := Lib.hid hcs; have H2 := Lib.hid h2; have Hat := Lib.hid hat; have Hdr := Lib.hid hdr; have Hfi := Lib.hid hfi; have Hh := Lib.hid h; have HM := Lib.hid hM; have Hun := Lib.hid hun; have Hri := Lib.hid hri; have Hcl := Lib.hid hcl; have Hsl := Lib.hid hsl; have N0 := Lib.hid n0; have N1 := Lib.hid n1
  clear hcs h2 hat hfi h hM hcell hri hdr hun hcl hsl n0 n1
  go_enter Tryz.func19, Tryz.ntmps19
  go_wp2_with (fail)
  refine h1.mono ?_
  rintro e w1 ⟨rfl, hb1⟩
  clear h1
  have ⟨a1, b1⟩ := Hcs.out w1 hb1
  have hB1w : Below w.heap.size w w1 := hb0.trans (hb1.mono hb0.size)
  cases hr : rightT l
  · have hno : ¬ (rightT l = true ∧ splitE (bs p) = 0 ∧ splitE (bs q) = 0 ∧ bs p ≠ [47] ∧ bs q ≠ [47] ∧ underL (bs p) (bs q) = false) := fun h => by rw [hr] at h; cases h.1
    clear hr
    (have hE : mvE l (bs p) (bs q) = 1 := by rw [mvE, if_neg hno]); go_wp2_with (fail); go_ret2; rw [hE]
    exact ResX.no (E := 1) (by decide) hB1w
  have h2 := H2.out p w1 hb1
  go_wp2_with (fail)
  refine h2.mono ?_
  rintro e w2 ⟨rfl, hb2⟩
  have hB2 := hb1.trans (hb2.mono hb1.size)
  have hB2w : Below w.heap.size w w2 := hb0.trans (hB2.mono hb0.size)
  clear h2 a1 b1
  have ⟨a1, b1⟩ := Hcs.out w2 hB2
  by_cases hs : splitE (bs p) = 0
  rotate_left
  · rw [decide_eq_false hs]
    have hno : ¬ (rightT l = true ∧ splitE (bs p) = 0 ∧ splitE (bs q) = 0 ∧ bs p ≠ [47] ∧ bs q ≠ [47] ∧ underL (bs p) (bs q) = false) := fun h => hs h.2.1
    clear hr hs
    (have hE : mvE l (bs p) (bs q) = 1 := by rw [mvE, if_neg hno]); go_wp2_with (fail); go_ret2; rw [hE]
    exact ResX.no (E := 1) (by decide) hB2w
  rw [decide_eq_true hs]
  have h2 := H2.out q w2 hB2
  go_wp2_with (fail)
  refine h2.mono ?_
  rintro e w3 ⟨rfl, hb3⟩
  have hB3 := hB2.trans (hb3.mono hB2.size)
  have hB3w : Below w.heap.size w w3 := hb0.trans (hB3.mono hb0.size)
  clear h2 a1 b1
  have ⟨a1, b1⟩ := Hcs.out w3 hB3
  by_cases hq : splitE (bs q) = 0
  rotate_left
  · rw [decide_eq_false hq]
    have hno : ¬ (rightT l = true ∧ splitE (bs p) = 0 ∧ splitE (bs q) = 0 ∧ bs p ≠ [47] ∧ bs q ≠ [47] ∧ underL (bs p) (bs q) = false) := fun h => hq h.2.2.1
    clear hr hs hq
    (have hE : mvE l (bs p) (bs q) = 1 := by rw [mvE, if_neg hno]); go_wp2_with (fail); go_ret2; rw [hE]
    exact ResX.no (E := 1) (by decide) hB3w
  rw [decide_eq_true hq]
  cases hpe : (p.toList == [47])
  rotate_left
  · have hno : ¬ (rightT l = true ∧ splitE (bs p) = 0 ∧ splitE (bs q) = 0 ∧ bs p ≠ [47] ∧ bs q ≠ [47] ∧ underL (bs p) (bs q) = false) := fun h => h.2.2.2.1 (by rw [Hsl.out] at hpe; simpa using hpe)
    clear hr hs hq
    (have hE : mvE l (bs p) (bs q) = 1 := by rw [mvE, if_neg hno]); go_wp2_with (fail); go_ret2; rw [hE]
    exact ResX.no (E := 1) (by decide) hB3w
  have hp : bs p ≠ [47] := fun e => by rw [Hsl.out, e] at hpe; simp at hpe
  cases hqe : (q.toList == [47])
  rotate_left
  · have hno : ¬ (rightT l = true ∧ splitE (bs p) = 0 ∧ splitE (bs q) = 0 ∧ bs p ≠ [47] ∧ bs q ≠ [47] ∧ underL (bs p) (bs q) = false) := fun h => h.2.2.2.2.1 (by rw [Hsl.out] at hqe; simpa using hqe)
    clear hr hs hq hp
    (have hE : mvE l (bs p) (bs q) = 1 := by rw [mvE, if_neg hno]); go_wp2_with (fail); go_ret2; rw [hE]
    exact ResX.no (E := 1) (by decide) hB3w
  have hqn : bs q ≠ [47] := fun e => by rw [Hsl.out, e] at hqe; simp at hqe
  have h2 := Hun.out w3 hB3
  have Hr := Lib.hid hr; have Hp := Lib.hid hp; have Hq := Lib.hid hqn; have Hs := Lib.hid hs; have Hsq := Lib.hid hq
  clear hr hp hqn hs hq
  go_wp2_with (fail)
  refine h2.mono ?_
  rintro e w4 ⟨rfl, hb4⟩
  have hB4 := hB3.trans (hb4.mono hB3.size)
  have hB4w : Below w.heap.size w w4 := hb0.trans (hB4.mono hb0.size)
  clear h2 a1 b1
  have ⟨a1, b1⟩ := Hcs.out w4 hB4
  cases hu : underL (bs p) (bs q)
  rotate_left
  · have hno : ¬ (rightT l = true ∧ splitE (bs p) = 0 ∧ splitE (bs q) = 0 ∧ bs p ≠ [47] ∧ bs q ≠ [47] ∧ underL (bs p) (bs q) = false) := fun h => by rw [hu] at h; cases h.2.2.2.2.2
    clear hu
    (have hE : mvE l (bs p) (bs q) = 1 := by rw [mvE, if_neg hno]); go_wp2_with (fail); go_ret2; rw [hE]
    exact ResX.no (E := 1) (by decide) hB4w
  have hE : mvE l (bs p) (bs q) = match l.find? fun x => bs x.path == bs p with
      | none => 5
      | some x => if dirE l (bs q) ≠ 0 then dirE l (bs q) else if clash l (bs q) x = true then 6 else if l.any (mvBad (bs p) (bs q)) = true then 4 else 0 := by
    rw [mvE, if_pos ⟨Hr.out, Hs.out, Hsq.out, Hp.out, Hq.out, hu⟩]
    cases l.find? fun x => bs x.path == bs p <;> rfl
  have ha := Hat.out p w4 hB4 (Hri.out Hr.out)
  rw [Hfi.out] at ha
  have HE := Lib.hid hE; have Hu := Lib.hid hu
  clear hE hu
  go_wp2_with (fail)
  refine ha.mono ?_
  rintro e w5 ⟨rfl, hb5⟩
  have hB5 := hB4.trans (hb5.mono hB4.size)
  have hB5w : Below w.heap.size w w5 := hb0.trans (hB5.mono hb0.size)
  clear ha a1 b1
  have ⟨a1, b1⟩ := Hcs.out w5 hB5
  cases hf : l.find? fun x => bs x.path == bs p with
  | none =>
    have hE : mvE l (bs p) (bs q) = 5 := by rw [HE.out, hf]
    simp only [Option.isSome_none]
    clear hf
    go_wp2_with (fail)
    go_ret2
    rw [hE]
    exact ResX.no (E := 5) (by decide) hB5w
  | some x =>
    simp only [Option.isSome_some]
    have hx := idx_has (key := p) (x := x) (right_rises Hr.out) hf
    have hxl := (List.getElem?_eq_some_iff.1 hx).1
    generalize idxN p l = i at *
    have hd := Hdr.out w5 hB5 (Hri.out Hr.out)
    have Hf := Lib.hid hf; have Hx := Lib.hid hx
    clear hf hx
    go_wp2_with (fail)
    refine hd.mono ?_
    rintro e w6 ⟨rfl, hb6⟩
    have hB6 := hB5.trans (hb6.mono hB5.size)
    have hB6w : Below w.heap.size w w6 := hb0.trans (hB6.mono hb0.size)
    clear hd a1 b1
    have ⟨a1, b1⟩ := Hcs.out w6 hB6
    by_cases hde : dirE l (bs q) = 0
    rotate_left
    · have hdb : (dirE l (bs q) == 0) = false := by simpa using hde
      have hE : mvE l (bs p) (bs q) = dirE l (bs q) := by rw [HE.out, Hf.out]; exact if_pos hde
      go_wp2_with (fail)
      go_ret2
      rw [hE]
      exact ResX.no hde hB6w
    rw [hde]
    have ha := Hat.out q w6 hB6 (Hri.out Hr.out)
    rw [Hfi.out] at ha
    have Hde := Lib.hid hde; clear hde
    go_wp2_with (fail)
    refine ha.mono ?_
    rintro e w7 ⟨rfl, hb7⟩
    have hB7 := hB6.trans (hb7.mono hB6.size)
    have hB7w : Below w.heap.size w w7 := hb0.trans (hB7.mono hb0.size)
    clear ha a1 b1
    have ⟨a1, b1⟩ := Hcs.out w7 hB7
    obtain ⟨b, off, rfl, hbb, c0, c1, c2, c3, c4⟩ := Hcl.out w7 hB7 i x Hx.out
    have hA7 : (w7.alloc (.cells #[.bool false] 4 (0, 0))).heap[w.heap.size]? = some (.cells #[.string p] 9 (0, 0)) := (heap_alloc_old _ _ (by have := hB7.size; omega)).trans ((hB7.block _ (by omega)).trans N0.out)
    have hB7' : (w7.alloc (.cells #[.bool false] 4 (0, 0))).heap[w.heap.size + 1]? = some (.cells #[.string q] 9 (0, 0)) := (heap_alloc_old _ _ (by have := hB7.size; omega)).trans ((hB7.block _ (by omega)).trans N1.out)
    have hso := mv_some w w7 w.heap.size (w.heap.size + 1) _ l p q Hh.out HM.out hB7w hA7 hB7' (by have := hB7.size; omega) (by have := hB7.size; omega) Hr.out Hp.out Hq.out
    have Hso := Lib.hid hso
    clear hA7 hB7' hso
    have hE : mvE l (bs p) (bs q) = if clash l (bs q) x = true then 6 else if l.any (mvBad (bs p) (bs q)) = true then 4 else 0 := by
      rw [HE.out, Hf.out]; exact if_neg (by simpa using Hde.out)
    have HE2 := Lib.hid hE
    clear hE
    cases hg : l.find? fun x => bs x.path == bs q with
    | none =>
      simp only [Option.isSome_none]
      have hcl : clash l (bs q) x = false := by rw [clash, hg]
      have Hcl' := Lib.hid hcl
      clear hg hcl
      (go_wp2_with (fail)); (refine Hso.out.mono ?_); (rintro e w8 ⟨⟨v', s, rfl, hO, hs⟩, hb8, hc8⟩); (cases hbad : l.any (mvBad (bs p) (bs q))); (rw [hbad] at hc8; go_wp2_with (fail); go_ret2; (have h0 : mvE l (bs p) (bs q) = 0 := by rw [HE2.out, Hcl'.out, hbad]; rfl); (rw [h0]; exact ⟨⟨v', s, rfl, hO, by rw [if_pos rfl]; exact hs h0⟩, hb8⟩)); (rw [hbad] at hc8; go_wp2_with (fail); go_ret2; (have h0 : mvE l (bs p) (bs q) = 4 := by rw [HE2.out, Hcl'.out, hbad]; rfl); (rw [h0]; exact ResX.no (E := 4) (by decide) hb8))
    | some y =>
      simp only [Option.isSome_some]
      have hy := idx_has (key := q) (x := y) (right_rises Hr.out) hg
      have hyl := (List.getElem?_eq_some_iff.1 hy).1
      generalize idxN q l = k at *
      have hcl : clash l (bs q) x = (x.dir || y.dir) := by rw [clash, hg]
      cases hxd : x.dir
      rotate_left
      · rw [hxd] at c1 hcl
        have Hcl' := Lib.hid hcl
        clear hg hcl hy hxd
        go_wp2_with (fail)
        go_ret2
        rw [HE2.out, Hcl'.out]
        exact ResX.no (E := 6) (by decide) hB7w
      obtain ⟨b', off', he, _, d0, d1, d2, d3, d4⟩ := Hcl.out w7 hB7 k y hy
      simp only [Option.some.injEq, Addr.mk.injEq, and_true] at he
      obtain ⟨rfl, rfl⟩ := he
      rw [hxd] at c1 hcl
      cases hyd : y.dir
      · rw [hyd] at d1 hcl
        have Hcl' := Lib.hid hcl
        clear hg hcl hy hyd hxd
        (go_wp2_with (fail)); (refine Hso.out.mono ?_); (rintro e w8 ⟨⟨v', s, rfl, hO, hs⟩, hb8, hc8⟩); (cases hbad : l.any (mvBad (bs p) (bs q))); (rw [hbad] at hc8; go_wp2_with (fail); go_ret2; (have h0 : mvE l (bs p) (bs q) = 0 := by rw [HE2.out, Hcl'.out, hbad]; rfl); (rw [h0]; exact ⟨⟨v', s, rfl, hO, by rw [if_pos rfl]; exact hs h0⟩, hb8⟩)); (rw [hbad] at hc8; go_wp2_with (fail); go_ret2; (have h0 : mvE l (bs p) (bs q) = 4 := by rw [HE2.out, Hcl'.out, hbad]; rfl); (rw [h0]; exact ResX.no (E := 4) (by decide) hb8))
      · rw [hyd] at d1 hcl
        have Hcl' := Lib.hid hcl
        clear hg hcl hy hyd hxd
        go_wp2_with (fail)
        go_ret2
        rw [HE2.out, Hcl'.out]
        exact ResX.no (E := 6) (by decide) hB7w
end Go.Proofs.YtpghaghmejgjbaaGreatDoor.Tree
