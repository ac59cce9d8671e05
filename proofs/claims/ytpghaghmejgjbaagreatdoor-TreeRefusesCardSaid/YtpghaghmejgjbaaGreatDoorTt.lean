/- Trees: tree.Remove. -/
import Derived.Test.YtpghaghmejgjbaaGreatDoorTs
import Derived.Deep.RegionHeld3
namespace Go.Proofs.YtpghaghmejgjbaaGreatDoor.Tree
open Go.RowKit
open Path (Bs bs mk bs_mk mk_bs tl_bs splitE splitL MaxC parD parE parN underL under_calls)
set_option linter.unusedSimpArgs false
set_option linter.unusedVariables false

set_option maxHeartbeats 4000000 in
theorem rem1_calls (w : World) (B : Nat) (p : ByteArray) (x : Nd) (hx : ∃ ax cx, x.bv = .slice ax x.blocks.length cx) (hc : w.heap[B]? = some (.cells #[.string p] 9 (0, 0))) (hM : MaxC w) :
    Calls Tryz.prog 59 #[.agg #[.string x.path, .bool x.dir, .int .i64 x.quota, x.bv, .int .i64 x.writer], .pointer (some ⟨B, 0, none⟩)] w fun e w' => e = .returned (.tuple #[.agg #[.string x.path, .bool x.dir, .int .i64 x.quota, x.bv, .int .i64 x.writer], .bool (!underL (bs p) (bs x.path))]) ∧ Below w.heap.size w w' := by
  obtain ⟨ax, cx, hv⟩ := hx
  rw [hv]
  have hB := lt_of_block hc
  have hU := fun W (hW : Below w.heap.size w W) => under_calls W p x.path (hM.below hW)
  have hcB : w.cell? ⟨B, 0, none⟩ = _ := cell_of_blk hc
  simp only [List.getElem?_toArray, List.getElem?_cons_zero] at hcB
  generalize underL (bs p) (bs x.path) = u at *
  have HU := Lib.hid hU
  clear hU hv hM hc
  go_enter Tryz.func59, Tryz.ntmps59
  go_wp2_with (fail)
  have hb2 : Below w.heap.size w ((w.alloc (.cells #[.string x.path, .bool x.dir, .int .i64 x.quota, .slice ax x.blocks.length cx, .int .i64 x.writer] 25 (0, 0))).alloc (.cells #[.string ⟨#[]⟩, .bool false, .int .i64 0, .slice none 0 0, .int .i64 0] 25 (0, 0))) := ((Below.refl _ _).alloc (Nat.le_refl _) _).alloc (by simp) _
  have c2 := (hb2.cell (p := ⟨B, 0, none⟩) hB).trans hcB
  have n0 : ((w.alloc (.cells #[.string x.path, .bool x.dir, .int .i64 x.quota, .slice ax x.blocks.length cx, .int .i64 x.writer] 25 (0, 0))).alloc (.cells #[.string ⟨#[]⟩, .bool false, .int .i64 0, .slice none 0 0, .int .i64 0] 25 (0, 0))).heap[w.heap.size]? = some (.cells #[.string x.path, .bool x.dir, .int .i64 x.quota, .slice ax x.blocks.length cx, .int .i64 x.writer] 25 (0, 0)) := (heap_alloc_old _ _ (by simp)).trans (heap_alloc_new _ _)
  have n1 : ((w.alloc (.cells #[.string x.path, .bool x.dir, .int .i64 x.quota, .slice ax x.blocks.length cx, .int .i64 x.writer] 25 (0, 0))).alloc (.cells #[.string ⟨#[]⟩, .bool false, .int .i64 0, .slice none 0 0, .int .i64 0] 25 (0, 0))).heap[w.heap.size + 1]? = some (.cells #[.string ⟨#[]⟩, .bool false, .int .i64 0, .slice none 0 0, .int .i64 0] 25 (0, 0)) := by have := heap_alloc_new (w.alloc (.cells #[.string x.path, .bool x.dir, .int .i64 x.quota, .slice ax x.blocks.length cx, .int .i64 x.writer] 25 (0, 0))) (.cells #[.string ⟨#[]⟩, .bool false, .int .i64 0, .slice none 0 0, .int .i64 0] 25 (0, 0)); simpa using this
  generalize hw2 : (w.alloc (.cells #[.string x.path, .bool x.dir, .int .i64 x.quota, .slice ax x.blocks.length cx, .int .i64 x.writer] 25 (0, 0))).alloc (.cells #[.string ⟨#[]⟩, .bool false, .int .i64 0, .slice none 0 0, .int .i64 0] 25 (0, 0)) = w2 at *
  have hn := lt_of_block n1
  have hS : ∀ W, Below w2.heap.size w2 W → (W.cell? ⟨B, 0, none⟩ = some (.string p) ∧ W.cell? ⟨w.heap.size, 0, none⟩ = some (.string x.path) ∧ W.cell? ⟨w.heap.size, 1, none⟩ = some (.bool x.dir) ∧ W.cell? ⟨w.heap.size, 2, none⟩ = some (.int .i64 x.quota) ∧ W.cell? ⟨w.heap.size, 3, none⟩ = some (.slice ax x.blocks.length cx) ∧ W.cell? ⟨w.heap.size, 4, none⟩ = some (.int .i64 x.writer)) ∧
      (W.cell? ⟨w.heap.size + 1, 0, none⟩ = some (.string ⟨#[]⟩) ∧ W.cell? ⟨w.heap.size + 1, 1, none⟩ = some (.bool false) ∧ W.cell? ⟨w.heap.size + 1, 2, none⟩ = some (.int .i64 0) ∧ W.cell? ⟨w.heap.size + 1, 3, none⟩ = some (.slice none 0 0) ∧ W.cell? ⟨w.heap.size + 1, 4, none⟩ = some (.int .i64 0)) ∧
      (∀ j, W.frozen? ⟨w.heap.size + 1, j, none⟩ = false) ∧ W.heap[w.heap.size + 1]? = some (.cells #[.string ⟨#[]⟩, .bool false, .int .i64 0, .slice none 0 0, .int .i64 0] 25 (0, 0)) := fun W hW => by
    have e0 : W.heap[w.heap.size]? = some (.cells #[.string x.path, .bool x.dir, .int .i64 x.quota, .slice ax x.blocks.length cx, .int .i64 x.writer] 25 (0, 0)) := (hW.block _ (by omega)).trans n0
    have e1 : W.heap[w.heap.size + 1]? = some (.cells #[.string ⟨#[]⟩, .bool false, .int .i64 0, .slice none 0 0, .int .i64 0] 25 (0, 0)) := (hW.block _ hn).trans n1
    exact ⟨⟨(hW.cell (p := ⟨B, 0, none⟩) (by show B < _; omega)).trans c2, cell_of_blk e0, cell_of_blk e0, cell_of_blk e0, cell_of_blk e0, cell_of_blk e0⟩, ⟨cell_of_blk e1, cell_of_blk e1, cell_of_blk e1, cell_of_blk e1, cell_of_blk e1⟩, fun j => free_of_blk e1, e1⟩
  obtain ⟨⟨k0, k1, k2, k3, k4, k5⟩, ⟨y0, y1, y2, y3, y4⟩, fz, _⟩ := hS w2 (Below.refl _ _)
  have HS := Lib.hid hS
  clear hS hw2 n0 n1 c2 hcB
  have f0 := fz 0; have f1 := fz 1; have f2 := fz 2; have f3 := fz 3; have f4 := fz 4
  clear fz
  have hne1 : ¬ B = w.heap.size + 1 := by omega
  have hne2 : B ≠ w.heap.size + 1 := hne1
  have hne3 : w.heap.size + 1 ≠ B := by omega
  go_region_held3 (fun w' => w'.cell? ⟨B, 0, none⟩ = some (.string p) ∧ w'.cell? ⟨w.heap.size, 0, none⟩ = some (.string x.path) ∧ w'.cell? ⟨w.heap.size, 1, none⟩ = some (.bool x.dir) ∧ w'.cell? ⟨w.heap.size, 2, none⟩ = some (.int .i64 x.quota) ∧ w'.cell? ⟨w.heap.size, 3, none⟩ = some (.slice ax x.blocks.length cx) ∧ w'.cell? ⟨w.heap.size, 4, none⟩ = some (.int .i64 x.writer)) (go_keep)
    (first | (go_at_call 48; refine (HU.out _ ?_).mono ?_; (exact ⟨hb2.os, hb2.tape, hb2.output, hb2.size, hb2.block⟩); rintro e w' ⟨rfl, hb'⟩; obtain ⟨⟨l0, l1, l2, l3, l4, l5⟩, ⟨z0, z1, z2, z3, z4⟩, fz', e1'⟩ := HS.out w' ⟨hb'.os, hb'.tape, hb'.output, hb'.size, hb'.block⟩; have f5 := fz' 0; have f6 := fz' 1; have f7 := fz' 2; have f8 := fz' 3; have f9 := fz' 4; have E1 := Lib.hid e1'; clear e1' fz'))
  go_wp2_with (fail)
  have hr := heap_setCell_same _ _ 4 _ _ (.int .i64 x.writer) (heap_setCell_same _ _ 3 _ _ (.slice ax x.blocks.length cx) (heap_setCell_same _ _ 2 _ _ (.int .i64 x.quota) (heap_setCell_same _ _ 1 _ _ (.bool x.dir) (heap_setCell_same _ _ 0 _ _ (.string x.path) E1.out))))
  refine bodyPost_ret (results_cell_tmp rfl _ _ (w.heap.size + 1) _ _ _ rfl hr Tryz.underlying25 rfl (by kernel_rfl)) rfl ⟨rfl, ?_⟩
  have hw' : Below w.heap.size w w' := hb2.trans (Below.mono ⟨hb'.os, hb'.tape, hb'.output, hb'.size, hb'.block⟩ hb2.size)
  exact ((((hw'.setCell (by simp) _).setCell (by simp) _).setCell (by simp) _).setCell (by simp) _).setCell (by simp) _

/-- What Remove tells. -/
def rmE (l : List Nd) (p : Bs) : Int := if rightT l = true ∧ splitE p = 0 ∧ p ≠ [47] then (if (l.find? fun x => bs x.path == p).isSome = true then 0 else 5) else 1
def rmL (l : List Nd) (p : Bs) : List Nd := (l.filter fun x => !underL p (bs x.path)).map pur
def ResX (w : World) (E : Int) (L : List Nd) (e : Ending) (w' : World) : Prop := (∃ v' q, e = .returned (.tuple #[v', .int .i64 E]) ∧ OwnX w w' v' q ∧ q.map pur = (if E = 0 then L else [])) ∧ Below w.heap.size w w'
theorem ResX.no {w w' : World} {E : Int} {L : List Nd} (hE : E ≠ 0) (hb : Below w.heap.size w w') : ResX w E L (.returned (.tuple #[.slice none 0 0, .int .i64 E])) w' :=
  ⟨⟨_, [], rfl, OwnX.nil _ _, by rw [if_neg hE]; rfl⟩, hb⟩
theorem rem_choice (w : World) (B : Nat) (p : ByteArray) (l : List Nd) (hl : ∀ x ∈ l, ∃ ax cx, x.bv = .slice ax x.blocks.length cx) (hc : w.heap[B]? = some (.cells #[.string p] 9 (0, 0))) (hM : MaxC w) :
    Choice w (fun _ => False) 59 #[.pointer (some ⟨B, 0, none⟩)] l id (fun x => !underL (bs p) (bs x.path)) (fun _ _ => True) where
  calls W hW k x hx _ := by
    have hbw : Below w.heap.size w W := hW.toBelow (fun _ h => h.elim) (Nat.le_refl _)
    refine (rem1_calls W B p x (hl x (List.mem_of_getElem? hx)) ((hbw.block _ (lt_of_block hc)).trans hc) (hM.below hbw)).mono ?_
    rintro e w' ⟨he, hb⟩
    exact ⟨he, Upd.of_below hb _, trivial⟩
  keep _ _ _ _ _ := trivial
  bl _ _ := rfl
  old _ h := h.elim
  enters := enters Tryz.func59 (by rfl) (by rfl)
theorem perm_rises {q p : List Nd} (h : (q.map pur).Perm p) (hs : Sorted q) (hr : Rises p) : q.map pur = p := by
  have hs' : (q.map pur).Pairwise fun x y => ltB (bs y.path) (bs x.path) = false := List.pairwise_map.2 (hs.imp fun {a b} h => h)
  refine List.Perm.eq_of_pairwise (le := fun x y => ltB (bs y.path) (bs x.path) = false) (fun x y hx hy h1 h2 => ?_) hs' (hr.imp fun {a b} hab => lt_asym hab) h
  have hx' := h.mem_iff.1 hx
  obtain ⟨i, hi, rfl⟩ := List.mem_iff_getElem.1 hx'
  obtain ⟨j, hj, rfl⟩ := List.mem_iff_getElem.1 hy
  have e : bs p[i].path = bs p[j].path := by
    rcases lt_tri (bs p[i].path) (bs p[j].path) with h3 | h3 | h3
    · rw [h2] at h3; cases h3
    · exact h3
    · rw [h1] at h3; cases h3
  have := rises_inj hr (i := i) (j := j) (List.getElem?_eq_getElem hi) (List.getElem?_eq_getElem hj) e
  subst this; rfl
theorem rises_filter {l : List Nd} (h : Rises l) (b : Nd → Bool) : Rises ((l.filter b).map pur) := List.pairwise_map.2 ((h.filter b).imp fun {a b} h => h)
theorem right_len {l : List Nd} (h : rightT l = true) : l.length ≤ 60 := by
  simp only [rightT, rightA, Bool.and_eq_true] at h
  have h1 := h.1.1
  cases l with
  | nil => simp
  | cons x t =>
    simp only [headOk, Bool.and_eq_true] at h1
    simpa using h1.1.1
theorem fits_blocks {x : Nd} (h : fitsN x = true) : x.blocks.length ≤ 8 := by
  simp only [fitsN, Bool.and_eq_true] at h
  have := h.2
  split at this
  · simp at this; simp [this]
  · simp at this; omega
theorem right_fits {l : List Nd} (h : rightT l = true) {x : Nd} (hx : x ∈ l) : fitsN x = true := by
  obtain ⟨i, hi, rfl⟩ := List.mem_iff_getElem.1 hx
  simp only [rightT, rightA, Bool.and_eq_true] at h
  exact (rightA_at (l := l) (fun j hj => List.all_eq_true.1 h.1.2 j (List.mem_range.2 hj)) (List.getElem?_eq_getElem hi)).1
theorem right_blocks {l : List Nd} (h : rightT l = true) {x : Nd} (hx : x ∈ l) : x.blocks.length ≤ 8 := fits_blocks (right_fits h hx)
theorem under_root {p : Bs} (hp : p ≠ [47]) : underL p [47] = false := by
  cases h : underL p [47]
  · rfl
  · obtain ⟨h1, h2, h3⟩ := Path.under_iff.1 h
    have h4 : splitL [47] = [] := by decide
    rw [h4, List.prefix_nil] at h3
    have := (Path.split_ok h1).2
    rw [h3, Path.join_nil] at this
    exact absurd this.symm hp
theorem rem_keeps {l : List Nd} (h : rightT l = true) {p : Bs} (hp : p ≠ [47]) : ∃ x ∈ l, (!underL p (bs x.path)) = true := by
  obtain ⟨x, t, rfl, hx, _⟩ := right_head h
  exact ⟨x, List.mem_cons_self .., by rw [hx, under_root hp]; rfl⟩
theorem right_nonempty {l : List Nd} (h : rightT l = true) : ∃ x ∈ l, bs x.path = [47] := by
  obtain ⟨x, t, rfl, hx, _⟩ := right_head h
  exact ⟨x, List.mem_cons_self .., hx⟩

set_option maxRecDepth 4000 in
set_option maxHeartbeats 8000000 in
theorem remove_calls (w : World) (v : Value) (l : List Nd) (p : ByteArray) (h : RdN w v l) (hn : l.length ≤ 8796093022208) (hM : MaxC w) :
    Calls Tryz.prog 28 #[v, .string p] w (ResX w (rmE l (bs p)) (rmL l (bs p))) := by
  have hb0 : Below w.heap.size w (w.alloc (.cells #[.string p] 9 (0, 0))) := (Below.refl _ _).alloc (Nat.le_refl _) _
  have hsz0 : (w.alloc (.cells #[.string p] 9 (0, 0))).heap.size = w.heap.size + 1 := by simp
  have n0 : (w.alloc (.cells #[.string p] 9 (0, 0))).heap[w.heap.size]? = some (.cells #[.string p] 9 (0, 0)) := heap_alloc_new _ _
  obtain ⟨ao, cap, rfl, _, _, hcell⟩ := rd_cellsN h.rd
  have hbvs := fun x hx => bv_slice (h.bl x hx)
  generalize hw0 : w.alloc (.cells #[.string p] 9 (0, 0)) = w0 at *
  have h1 := right_calls w0 _ l (h.below hb0) hn (hM.below hb0)
  have h2 : ∀ W, Below w0.heap.size w0 W → _ := fun W hW => good_calls W p ((hM.below hb0).below hW)
  have hat := fun W (hW : Below w0.heap.size w0 W) hs => at_calls W _ l p ((h.below hb0).below hW) hs hn
  have hri := fun h => right_rises (l := l) h
  have hfi := has_find p l
  have hcs := fun W (hW : Below w0.heap.size w0 W) => (cell_of_blk (j := 0) ((hW.block _ (by omega)).trans n0) : W.cell? ⟨w.heap.size, 0, none⟩ = some (.string p))
  have Hcs := Lib.hid hcs; have H2 := Lib.hid h2; have Hat := Lib.hid hat; have Hfi := Lib.hid hfi; have Hh := Lib.hid h; have HM := Lib.hid hM; have Hbvs := Lib.hid hbvs; have Hri := Lib.hid hri
  have c0 := hcs w0 (Below.refl _ _)
  clear hcs h2 hat hfi h hM hbvs hcell hri
  have hsl : (p.toList == [47]) = (bs p == [47]) := by rw [tl_bs]
  have Hsl := Lib.hid hsl; clear hsl
  go_enter Tryz.func28, Tryz.ntmps28
  go_wp2_with (fail)
  refine h1.mono ?_
  rintro e w1 ⟨rfl, hb1⟩
  clear h1
  have c1 := Hcs.out w1 hb1
  cases hr : rightT l
  · have hE : rmE l (bs p) = 1 := by rw [rmE, hr]; simp
    clear hr
    go_wp2_with (fail)
    go_ret2
    rw [hE]
    exact ResX.no (E := 1) (by decide) (hb0.trans (hb1.mono hb0.size))
  · have h2 := H2.out w1 hb1
    go_wp2_with (fail)
    refine h2.mono ?_
    rintro e w2 ⟨rfl, hb2⟩
    have hB2 := hb1.trans (hb2.mono hb1.size)
    clear h2
    by_cases hs : splitE (bs p) = 0
    · rw [decide_eq_true hs]
      have c2 := Hcs.out w2 hB2
      have hB2w : Below w.heap.size w w2 := hb0.trans (hB2.mono hb0.size)
      cases hpe : (p.toList == [47])
      · have hp : bs p ≠ [47] := fun e => by rw [Hsl.out, e] at hpe; simp at hpe
        have ha := Hat.out w2 hB2 (Hri.out hr)
        rw [Hfi.out] at ha
        go_wp2_with (fail)
        refine ha.mono ?_
        rintro e w3 ⟨rfl, hb3⟩
        clear ha
        have hB3 := hB2.trans (hb3.mono hB2.size)
        have hB3w : Below w.heap.size w w3 := hb0.trans (hB3.mono hb0.size)
        have hE : rmE l (bs p) = if (l.find? fun x => bs x.path == bs p).isSome = true then 0 else 5 := by rw [rmE, if_pos ⟨hr, hs, hp⟩]
        cases hf : (l.find? fun x => bs x.path == bs p).isSome
        · rw [hf, if_neg (by simp)] at hE
          go_wp2_with (fail)
          go_ret2
          rw [hE]
          exact ResX.no (E := 5) (by decide) hB3w
        · rw [hf, if_pos rfl] at hE
          have hso := some_calls w w3 (fun _ => False) 59 #[.pointer (some ⟨w.heap.size, 0, none⟩)] _ l id (fun x => !underL (bs p) (bs x.path)) (fun _ _ => True) (rem_choice w3 w.heap.size p l Hbvs.out ((hB3.block _ (by omega)).trans n0) (HM.out.below hB3w)) Hh.out hB3w (fun _ h => h.elim) (by have := right_len hr; omega) (fun x hx => by have := right_blocks hr hx; omega) (rem_keeps hr hp) trivial
          have Hso := Lib.hid hso
          have Hr := Lib.hid (right_rises hr)
          clear hso hr hs hf hpe
          go_wp2_with (fail)
          refine Hso.out.mono ?_
          rintro e w4 ⟨⟨v', q, rfl, hO, hP, hS⟩, hU, -⟩
          go_wp2_with (fail)
          go_ret2
          rw [hE]
          refine ⟨⟨v', q, rfl, hO.up hB3w.size, ?_⟩, hB3w.trans (hU.toBelow (fun _ h => h.elim) hB3w.size)⟩
          rw [if_pos rfl, rmL]
          have e1 : preS l id (fun x => !underL (bs p) (bs x.path)) l.length = (l.filter fun x => !underL (bs p) (bs x.path)).map pur := by rw [preS, List.take_length, List.map_id]
          rw [e1] at hP
          exact perm_rises hP hS (rises_filter Hr.out _)
      · have hE : rmE l (bs p) = 1 := by rw [rmE, if_neg (fun h => h.2.2 (by rw [Hsl.out] at hpe; simpa using hpe))]
        go_wp2_with (fail)
        go_ret2
        rw [hE]
        exact ResX.no (E := 1) (by decide) hB2w
    · have hE : rmE l (bs p) = 1 := by rw [rmE, if_neg (fun h => hs h.2.1)]
      rw [decide_eq_false hs]
      clear hr hs
      go_wp2_with (fail)
      go_ret2
      rw [hE]
      exact ResX.no (E := 1) (by decide) (hb0.trans (hB2.mono hb0.size))
end Go.Proofs.YtpghaghmejgjbaaGreatDoor.Tree
