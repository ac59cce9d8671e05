/- Parts of the proof, one behind the other: Ad, Bb, Be, Bf, Bg. -/
import Derived.Test.YtdfckkadmgmcaaaGreatDoorAc
import Derived.Test.YtdfckkadmgmcaaaGreatDoorGm
import Derived.Test.YtdfckkadmgmcaaaGreatDoorAb
import Derived.Test.YtdfckkadmgmcaaaGreatDoorGl
/- Edits of spaces: space.Apply. -/
namespace Go.Proofs.YtdfckkadmgmcaaaGreatDoor.Space
open Go.RowKit
open Path (Bs bs mk bs_mk mk_bs tl_bs MaxC splitE splitL parD)
open Tree
set_option linter.unusedSimpArgs false
set_option linter.unusedVariables false
theorem apply_calls (w : World) (s : Sp) (e : Ed) (h : RdSp w s) (hl : Rd w 1 encI e.lv e.lens) (hn : e.lens.length ≤ 17592186044416) (hM : MaxC w) :
    Calls Tryz.prog 18 #[.agg (spC s), .agg (edC e)] w (ApplyP w (applyE s e)) := by
  by_cases h1 : spaceB s = true
  · by_cases h2 : editB e = true
    · have ht := ((right_iff s).1 h1).nums
      by_cases h3 : s.txid < 300
      · exact apply_try w s e h hl hn hM h1 h2 h3
      · exact apply_bad w s e h hl hn hM (.inr (.inr ⟨h1, h2, by omega⟩))
    · exact apply_bad w s e h hl hn hM (.inr (.inl ⟨h1, by simpa using h2⟩))
  · exact apply_bad w s e h hl hn hM (.inl (by simpa using h1))
/-- What an edit tells, as the statements use it: a space that can be read, the same as the plain one; a node whose blocks can be read. -/
structure Made (w w' : World) (A : Ans) (t : Sp) (x : Nd) : Prop where
  same : SameS t A.s
  node : pur x = pur A.n
  rd : RdSp w' t
  own : OwnX w w' t.vn t.nodes
  le : Lease.OwnL w w' t.vl t.leases
  bl : OwnB w w' x.bv x.blocks
theorem Made.right {w w' : World} {s : Sp} {e : Ed} {t : Sp} {x : Nd} (h : Made w w' (applyE s e) t x) (h0 : (applyE s e).err = 0) : RightS t := right_sameS h.same.symm (apply_right h0).1
/-- What is told of an edit that can't be made. -/
theorem apply_no {s : Sp} {e : Ed} (h : (applyE s e).err ≠ 0) : applyE s e = noAns (applyE s e).err := by
  rw [applyE] at h ⊢
  by_cases h1 : spaceB s = false ∨ editB e = false
  · rw [if_pos h1]; rfl
  rw [if_neg h1] at h ⊢
  by_cases h2 : s.txid = 300
  · rw [if_pos h2]; rfl
  rw [if_neg h2] at h ⊢
  by_cases h3 : (doE s e).err ≠ 0
  · rw [if_pos h3]; rfl
  · rw [if_neg h3] at h; exact absurd rfl h
theorem made_calls (w : World) (s : Sp) (e : Ed) (h : RdSp w s) (hl : Rd w 1 encI e.lv e.lens) (hn : e.lens.length ≤ 17592186044416) (hM : MaxC w) :
    Calls Tryz.prog 18 #[.agg (spC s), .agg (edC e)] w fun e' w' => (∃ t x, Made w w' (applyE s e) t x ∧ e' = .returned (.tuple #[.agg (spC t), .agg (ansC { applyE s e with n := x })])) ∧ Below w.heap.size w w' := by
  refine (apply_calls w s e h hl hn hM).mono fun e' w' hp => ?_
  obtain ⟨⟨t, x, h1, h2, h3, h4, h5, h6⟩, hb⟩ := hp
  have hlen : t.nodes.length ≤ 8796093022208 ∧ t.leases.length ≤ 8796093022208 := by
    by_cases h0 : (applyE s e).err = 0
    · have hr := right_sameS h1.symm (apply_right h0).1
      have h7 := hr.tree.len
      have h8 := Lease.right_len hr.lease
      omega
    · rw [apply_no h0] at h1
      have h7 := len_same h1.nodes
      have h8 := congrArg List.length h1.leases
      have e1 : (noAns (applyE s e).err).s.nodes.length = 0 := rfl
      have e2 : (noAns (applyE s e).err).s.leases.length = 0 := rfl
      omega
  exact ⟨⟨t, x, ⟨h1, h2, ⟨h4.rd, Rd.of_own Lease.encL_len h5.own, hlen.1, hlen.2⟩, h4, h5, h6⟩, h3⟩, hb⟩
end Go.Proofs.YtdfckkadmgmcaaaGreatDoor.Space

/- Edits of spaces: space.New. -/
namespace Go.Proofs.YtdfckkadmgmcaaaGreatDoor.Space
open Go.RowKit
open Path (Bs bs mk bs_mk mk_bs tl_bs MaxC)
open Tree
set_option linter.unusedSimpArgs false
set_option linter.unusedVariables false
set_option maxHeartbeats 2000000 in
theorem new_calls (w : World) : Calls Tryz.prog 16 #[] w fun e w' => (∃ v, e = .returned (.agg (spC (newS v))) ∧ RdSp w' (newS v) ∧ OwnX w w' v [rootN]) ∧ Below w.heap.size w w' := by
  have h0 := heap_alloc_new w (.cells #[.int .i64 0, .int .i64 1, .int .i64 1, .int .i64 0, .slice (some ⟨w.heap.size + 1, 0, none⟩) 1 1, .slice none 0 0] 27 (0, 0))
  have h1 : ((w.alloc (.cells #[.int .i64 0, .int .i64 1, .int .i64 1, .int .i64 0, .slice (some ⟨w.heap.size + 1, 0, none⟩) 1 1, .slice none 0 0] 27 (0, 0))).alloc (.cells #[.string ⟨#[47]⟩, .bool true, .int .i64 (-1), .slice none 0 0, .int .i64 (-1)] 35 (0, 0))).heap[w.heap.size]? = some (.cells #[.int .i64 0, .int .i64 1, .int .i64 1, .int .i64 0, .slice (some ⟨w.heap.size + 1, 0, none⟩) 1 1, .slice none 0 0] 27 (0, 0)) := (((Below.refl _ _).alloc (Nat.le_refl _) _).block _ (by simp)).trans h0
  have h2 : ((w.alloc (.cells #[.int .i64 0, .int .i64 1, .int .i64 1, .int .i64 0, .slice (some ⟨w.heap.size + 1, 0, none⟩) 1 1, .slice none 0 0] 27 (0, 0))).alloc (.cells #[.string ⟨#[47]⟩, .bool true, .int .i64 (-1), .slice none 0 0, .int .i64 (-1)] 35 (0, 0))).heap[w.heap.size + 1]? = some (.cells #[.string ⟨#[47]⟩, .bool true, .int .i64 (-1), .slice none 0 0, .int .i64 (-1)] 35 (0, 0)) := by have := heap_alloc_new (w.alloc (.cells #[.int .i64 0, .int .i64 1, .int .i64 1, .int .i64 0, .slice (some ⟨w.heap.size + 1, 0, none⟩) 1 1, .slice none 0 0] 27 (0, 0))) (.cells #[.string ⟨#[47]⟩, .bool true, .int .i64 (-1), .slice none 0 0, .int .i64 (-1)] 35 (0, 0)); simpa using this
  have hb : Below w.heap.size w ((w.alloc (.cells #[.int .i64 0, .int .i64 1, .int .i64 1, .int .i64 0, .slice (some ⟨w.heap.size + 1, 0, none⟩) 1 1, .slice none 0 0] 27 (0, 0))).alloc (.cells #[.string ⟨#[47]⟩, .bool true, .int .i64 (-1), .slice none 0 0, .int .i64 (-1)] 35 (0, 0))) := ((Below.refl _ _).alloc (Nat.le_refl _) _).alloc (by simp) _
  have hrd : RdSp ((w.alloc (.cells #[.int .i64 0, .int .i64 1, .int .i64 1, .int .i64 0, .slice (some ⟨w.heap.size + 1, 0, none⟩) 1 1, .slice none 0 0] 27 (0, 0))).alloc (.cells #[.string ⟨#[47]⟩, .bool true, .int .i64 (-1), .slice none 0 0, .int .i64 (-1)] 35 (0, 0))) (newS (.slice (some ⟨w.heap.size + 1, 0, none⟩) 1 1)) := by
    refine ⟨⟨⟨_, _, rfl, Nat.le_refl _, by unfold maxLen; decide, fun i x hx => ?_⟩, fun x hx => ?_⟩, ⟨_, _, rfl, Nat.le_refl _, Nat.zero_le _, fun i x hx => by cases hx⟩, by show 1 ≤ 8796093022208; omega, by show 0 ≤ 8796093022208; omega⟩
    · cases i with
      | zero =>
        cases hx
        refine ⟨_, _, rfl, lt_of_block h2, fun j u hu => ?_⟩
        rw [show 0 + 0 * 5 + j = j by omega, cell_of_blk h2]
        rw [show (#[.string ⟨#[47]⟩, .bool true, .int .i64 (-1), .slice none 0 0, .int .i64 (-1)] : Array Value) = (encN rootN).toArray from rfl, List.getElem?_toArray]
        exact hu
      | succ i => cases hx
    · have : x = rootN := by simpa [newS] using hx
      subst this
      exact ⟨_, _, rfl, Nat.le_refl _, Nat.zero_le _, fun i x hx => by cases hx⟩
  have hox : OwnX w ((w.alloc (.cells #[.int .i64 0, .int .i64 1, .int .i64 1, .int .i64 0, .slice (some ⟨w.heap.size + 1, 0, none⟩) 1 1, .slice none 0 0] 27 (0, 0))).alloc (.cells #[.string ⟨#[47]⟩, .bool true, .int .i64 (-1), .slice none 0 0, .int .i64 (-1)] 35 (0, 0))) (.slice (some ⟨w.heap.size + 1, 0, none⟩) 1 1) [rootN] := by
    refine ⟨⟨rfl, .inr ⟨w.heap.size + 1, 1, _, rfl, Nat.zero_le _, h2, Nat.le_refl _, by decide, rfl, rfl⟩⟩, fun g hg => ?_, fun x hx => ?_⟩
    · have e : w.heap.size + 1 = g := by simpa [Value.ownBlock] using hg
      omega
    · have : x = rootN := by simpa using hx
      subst this
      exact OwnB.nil _ _
  have HO := Lib.hid hox
  clear hox
  have H1 := Lib.hid h1; have HB := Lib.hid hb; have HR := Lib.hid hrd
  clear h0 h1 h2 hb hrd
  go_enter Tryz.func16, Tryz.ntmps16
  go_wp2_with (fail)
  refine bodyPost_ret (results_cell_row rfl _ _ w.heap.size _ _ _ _ rfl H1.out Tryz.underlying27 rfl (by kernel_rfl)) rfl ⟨⟨_, rfl, HR.out, HO.out⟩, HB.out⟩
end Go.Proofs.YtdfckkadmgmcaaaGreatDoor.Space

/- Edits of spaces: space.Stat. -/
namespace Go.Proofs.YtdfckkadmgmcaaaGreatDoor.Space
open Go.RowKit
open Path (Bs bs mk bs_mk mk_bs tl_bs MaxC splitE splitL parD)
open Tree
set_option linter.unusedSimpArgs false
set_option linter.unusedVariables false
def StatP (w : World) (s : Sp) (p : Bs) (e : Ending) (w' : World) : Prop :=
  (∃ x : Nd, pur x = pur (statN s p) ∧ e = .returned (.agg (ansC ⟨statE s p, zeroS, noBl, x⟩)) ∧ OwnB w w' x.bv x.blocks) ∧ Below w.heap.size w w'
theorem ans_set {w : World} {N : Nat} {v0 v1 v2 v3 v4 v5 v6 v7 v8 v9 v10 : Value} (h : w.heap[N]? = some (.cells #[v0, v1, v2, v3, v4, v5, v6, v7, v8, v9, v10] 37 (0, 0))) (u0 u1 u2 u3 u4 u5 u6 u7 u8 u9 u10 : Value) :
    (setL N 0 [u0, u1, u2, u3, u4, u5, u6, u7, u8, u9, u10] w).heap[N]? = some (.cells #[u0, u1, u2, u3, u4, u5, u6, u7, u8, u9, u10] 37 (0, 0)) := by
  have h1 := setL_blk [u0, u1, u2, u3, u4, u5, u6, u7, u8, u9, u10] 0 _ _ h
  simpa only [putL, Nat.reduceAdd, Nat.zero_add, List.setIfInBounds_toArray, List.set_cons_zero, List.set_cons_succ] using h1
theorem setL_below {w0 : World} {N : Nat} (h0 : w0.heap.size ≤ N) : ∀ (vs : List Value) (j : Nat) (w : World), Below w0.heap.size w0 w → Below w0.heap.size w0 (setL N j vs w)
  | [], _, _, h => h
  | v :: r, j, w, h => setL_below h0 r (j + 1) _ (h.setCell (p := ⟨N, j, none⟩) h0 v)
set_option maxRecDepth 100000 in
set_option maxHeartbeats 4000000 in
theorem stat_calls (w : World) (s : Sp) (p : ByteArray) (h : RdSp w s) (hM : MaxC w) : Calls Tryz.prog 31 #[.agg (spC s), .string p] w (StatP w s (bs p)) := by
  obtain ⟨an, cn, hvn, -⟩ := rd_cellsN h.n.rd
  obtain ⟨avl, cvl, hvl, -⟩ := Lease.rd_cells h.l
  have hb0 := two_new w (.cells #[.int .i64 s.txid, .int .i64 s.nb, .int .i64 s.ng, .int .i64 s.now, .slice an s.nodes.length cn, .slice avl s.leases.length cvl] 27 (0, 0)) (.cells #[.int .i64 0, .int .i64 0, .int .i64 0, .int .i64 0, .slice none 0 0, .string ⟨#[]⟩, .bool false, .int .i64 0, .slice none 0 0, .int .i64 0, .int .i64 0] 37 (0, 0))
  have hz0 : ((w.alloc (.cells #[.int .i64 s.txid, .int .i64 s.nb, .int .i64 s.ng, .int .i64 s.now, .slice an s.nodes.length cn, .slice avl s.leases.length cvl] 27 (0, 0))).alloc (.cells #[.int .i64 0, .int .i64 0, .int .i64 0, .int .i64 0, .slice none 0 0, .string ⟨#[]⟩, .bool false, .int .i64 0, .slice none 0 0, .int .i64 0, .int .i64 0] 37 (0, 0))).heap.size = w.heap.size + 2 := by simp
  go_enter Tryz.func31, Tryz.ntmps31
  rw [spC, hvn, hvl]
  go_upto_region 1 with (fail)
  generalize (w.alloc (.cells #[.int .i64 s.txid, .int .i64 s.nb, .int .i64 s.ng, .int .i64 s.now, .slice an s.nodes.length cn, .slice avl s.leases.length cvl] 27 (0, 0))).alloc (.cells #[.int .i64 0, .int .i64 0, .int .i64 0, .int .i64 0, .slice none 0 0, .string ⟨#[]⟩, .bool false, .int .i64 0, .slice none 0 0, .int .i64 0, .int .i64 0] 37 (0, 0)) = w0 at *
  obtain ⟨hb0, k0, k1⟩ := hb0
  have hsp := fun W (hW : Below w0.heap.size w0 W) => Path.split_calls W p ((hM.below hb0).below hW)
  have hr := fun W (hW : Below w0.heap.size w0 W) => right_calls W s ((h.below hb0).below hW) ((hM.below hb0).below hW)
  have hfd := fun W (hW : Below w0.heap.size w0 W) => find_calls W s.vn s.nodes p ((h.below hb0).below hW).n h.nn
  simp only [spC] at hr
  rw [hvn, hvl] at hr
  rw [hvn] at hfd
  have hf := fun W (hW : Below w0.heap.size w0 W) => (show (W.cell? ⟨w.heap.size, 0, none⟩ = some (.int .i64 s.txid) ∧ W.cell? ⟨w.heap.size, 1, none⟩ = some (.int .i64 s.nb) ∧ W.cell? ⟨w.heap.size, 2, none⟩ = some (.int .i64 s.ng) ∧ W.cell? ⟨w.heap.size, 3, none⟩ = some (.int .i64 s.now) ∧ W.cell? ⟨w.heap.size, 4, none⟩ = some (.slice an s.nodes.length cn) ∧ W.cell? ⟨w.heap.size, 5, none⟩ = some (.slice avl s.leases.length cvl)) ∧
      W.frozen? ⟨w.heap.size + 1, 0, none⟩ = false ∧ W.frozen? ⟨w.heap.size + 1, 1, none⟩ = false ∧ W.frozen? ⟨w.heap.size + 1, 2, none⟩ = false ∧ W.frozen? ⟨w.heap.size + 1, 3, none⟩ = false ∧ W.frozen? ⟨w.heap.size + 1, 4, none⟩ = false ∧ W.frozen? ⟨w.heap.size + 1, 5, none⟩ = false ∧ W.frozen? ⟨w.heap.size + 1, 6, none⟩ = false ∧ W.frozen? ⟨w.heap.size + 1, 7, none⟩ = false ∧ W.frozen? ⟨w.heap.size + 1, 8, none⟩ = false ∧ W.frozen? ⟨w.heap.size + 1, 9, none⟩ = false ∧ W.frozen? ⟨w.heap.size + 1, 10, none⟩ = false from by
    have e0 := (hW.block _ (by omega)).trans k0
    have e1 := (hW.block _ (by omega)).trans k1
    exact ⟨sp_cells6 e0, free_of_blk e1, free_of_blk e1, free_of_blk e1, free_of_blk e1, free_of_blk e1, free_of_blk e1, free_of_blk e1, free_of_blk e1, free_of_blk e1, free_of_blk e1, free_of_blk e1⟩)
  have hend := fun W (hW : Below w0.heap.size w0 W) => (hW.block _ (by omega : w.heap.size + 1 < w0.heap.size)).trans k1
  have Hsp := Lib.hid hsp; have Hr := Lib.hid hr; have Hfd := Lib.hid hfd; have HF := Lib.hid hf; have Hend := Lib.hid hend; have Hb0 := Lib.hid hb0; have Hh := Lib.hid h; have Hvn := Lib.hid hvn
  clear hsp hr hfd hf hend hM hvl
  have hzz := hb0.size
  have nilr : ∀ W, OwnB w W zeroN.bv zeroN.blocks := fun W => OwnB.nil _ _
  have Nilr := Lib.hid nilr
  clear nilr hb0 k0 k1 h hvn
  obtain ⟨E, hE⟩ : ∃ E, E = splitE (bs p) := ⟨_, rfl⟩
  obtain ⟨B, hB⟩ : ∃ B, B = spaceB s := ⟨_, rfl⟩
  rw [← hE] at Hsp
  rw [← hB] at Hr
  by_cases hE0 : E = 0
  · cases B
    case false =>
      have hst : statE s (bs p) = 1 ∧ statN s (bs p) = zeroN := by
        have h1 : statE s (bs p) = 1 := by rw [statE, if_neg (by rw [← hB]; simp)]
        exact ⟨h1, by rw [statN, if_neg (by rw [h1]; decide)]⟩
      have Hst := Lib.hid hst
      clear hst hB hE Hfd Hh
      subst hE0
      go_wp2_with (first
        | (go_at_call 72; (with_reducible refine (Hsp.out _ (Below.refl _ _)).mono ?_); unfold Path.SplPost; rintro e1 w1 ⟨v1, rfl, ho1, hb1⟩; obtain ⟨a1, c1, rfl, -⟩ := own_slice ho1.own; have Hb1 := Lib.hid (show Below w0.heap.size w0 w1 from hb1); clear hb1 ho1; obtain ⟨⟨s0, s1, s2, s3, s4, s5⟩, y0, y1, y2, y3, y4, y5, y6, y7, y8, y9, y10⟩ := HF.out w1 Hb1.out; obtain ⟨a0, a1, a2, a3, a4, a5, a6, a7, a8, a9, a10⟩ := ans_cells (Hend.out w1 Hb1.out))
        | (go_at_call 22; (with_reducible refine (Hr.out _ Hb1.out).mono ?_); rintro e3 w3 ⟨rfl, hb3⟩; have Hb3 := Lib.hid (Hb1.out.trans (hb3.mono Hb1.out.size)); clear hb3; obtain ⟨⟨s0, s1, s2, s3, s4, s5⟩, y0, y1, y2, y3, y4, y5, y6, y7, y8, y9, y10⟩ := HF.out w3 Hb3.out; obtain ⟨a0, a1, a2, a3, a4, a5, a6, a7, a8, a9, a10⟩ := ans_cells (Hend.out w3 Hb3.out)))
      have hkE := ans_set (Hend.out _ Hb3.out) (.int .i64 1) (.int .i64 0) (.int .i64 0) (.int .i64 0) (.slice none 0 0) (.string ⟨#[]⟩) (.bool false) (.int .i64 0) (.slice none 0 0) (.int .i64 0) (.int .i64 0)
      have hbE := setL_below (N := w.heap.size + 1) (by omega : w.heap.size ≤ w.heap.size + 1) [.int .i64 1, .int .i64 0, .int .i64 0, .int .i64 0, .slice none 0 0, .string ⟨#[]⟩, .bool false, .int .i64 0, .slice none 0 0, .int .i64 0, .int .i64 0] 0 _ (Hb0.out.trans (Hb3.out.mono hzz))
      simp only [setL, Nat.reduceAdd, Nat.zero_add] at hkE hbE
      refine bodyPost_ret (results_cell_row rfl _ _ (w.heap.size + 1) _ _ _ _ rfl hkE Tryz.underlying37 rfl (by kernel_rfl)) rfl ?_
      exact ⟨⟨zeroN, by rw [Hst.out.2], by rw [Hst.out.1]; rfl, Nilr.out _⟩, hbE⟩
    case true =>
      have hR := (right_iff s).1 hB.symm
      have hss : ∀ q, (statE s (bs p) = q ↔ (if (s.nodes.find? fun x => bs x.path == bs p).isSome = true then 0 else 5) = q) := fun q => by rw [statE, if_pos ⟨by rw [← hE]; exact hE0, hB.symm⟩]
      rcases fi_ways s.nodes (bs p) with ⟨hI, hno⟩ | ⟨k, x, hI, hx, hp⟩
      · have hst : statE s (bs p) = 5 ∧ statN s (bs p) = zeroN := stat_none hR (by rw [← hE]; exact hE0) (by omega)
        have Hst := Lib.hid hst
        rw [hI] at Hfd
        clear hst hB hE hss hR hno hI Hh
        subst hE0
        go_wp2_with (first
          | (go_at_call 72; (with_reducible refine (Hsp.out _ (Below.refl _ _)).mono ?_); unfold Path.SplPost; rintro e1 w1 ⟨v1, rfl, ho1, hb1⟩; obtain ⟨a1, c1, rfl, -⟩ := own_slice ho1.own; have Hb1 := Lib.hid (show Below w0.heap.size w0 w1 from hb1); clear hb1 ho1; obtain ⟨⟨s0, s1, s2, s3, s4, s5⟩, y0, y1, y2, y3, y4, y5, y6, y7, y8, y9, y10⟩ := HF.out w1 Hb1.out; obtain ⟨a0, a1, a2, a3, a4, a5, a6, a7, a8, a9, a10⟩ := ans_cells (Hend.out w1 Hb1.out))
          | (go_at_call 22; (with_reducible refine (Hr.out _ Hb1.out).mono ?_); rintro e3 w3 ⟨rfl, hb3⟩; have Hb3 := Lib.hid (Hb1.out.trans (hb3.mono Hb1.out.size)); clear hb3; obtain ⟨⟨s0, s1, s2, s3, s4, s5⟩, y0, y1, y2, y3, y4, y5, y6, y7, y8, y9, y10⟩ := HF.out w3 Hb3.out; obtain ⟨a0, a1, a2, a3, a4, a5, a6, a7, a8, a9, a10⟩ := ans_cells (Hend.out w3 Hb3.out))
          | (go_at_call 27; (with_reducible refine (Hfd.out _ Hb3.out).mono ?_); rintro e5 w5 ⟨rfl, hb5⟩; have Hb5 := Lib.hid (Hb3.out.trans (hb5.mono Hb3.out.size)); clear hb5; obtain ⟨⟨s0, s1, s2, s3, s4, s5⟩, y0, y1, y2, y3, y4, y5, y6, y7, y8, y9, y10⟩ := HF.out w5 Hb5.out; obtain ⟨a0, a1, a2, a3, a4, a5, a6, a7, a8, a9, a10⟩ := ans_cells (Hend.out w5 Hb5.out)))
        have hkE := ans_set (Hend.out _ Hb5.out) (.int .i64 5) (.int .i64 0) (.int .i64 0) (.int .i64 0) (.slice none 0 0) (.string ⟨#[]⟩) (.bool false) (.int .i64 0) (.slice none 0 0) (.int .i64 0) (.int .i64 0)
        have hbE := setL_below (N := w.heap.size + 1) (by omega : w.heap.size ≤ w.heap.size + 1) [.int .i64 5, .int .i64 0, .int .i64 0, .int .i64 0, .slice none 0 0, .string ⟨#[]⟩, .bool false, .int .i64 0, .slice none 0 0, .int .i64 0, .int .i64 0] 0 _ (Hb0.out.trans (Hb5.out.mono hzz))
        simp only [setL, Nat.reduceAdd, Nat.zero_add] at hkE hbE
        refine bodyPost_ret (results_cell_row rfl _ _ (w.heap.size + 1) _ _ _ _ rfl hkE Tryz.underlying37 rfl (by kernel_rfl)) rfl ?_
        exact ⟨⟨zeroN, by rw [Hst.out.2], by rw [Hst.out.1]; rfl, Nilr.out _⟩, hbE⟩
      · have hxm := List.mem_of_getElem? hx
        have hklt := (List.getElem?_eq_some_iff.1 hx).1
        have hst : statE s (bs p) = 0 ∧ statN s (bs p) = x := stat_at hR hxm hp
        have hbl8 := fits_blocks (hR.tree.fits x hxm)
        obtain ⟨an', cn', hv', -, -, hcell⟩ := rd_cellsN Hh.out.n.rd
        rw [Hvn.out] at hv'
        simp only [Value.slice.injEq, true_and] at hv'
        obtain ⟨rfl, rfl⟩ := hv'
        have hrb := Hh.out.n.bl x hxm
        obtain ⟨ax, cx, hbv⟩ := bv_slice hrb
        obtain ⟨bn, on, rfl, -, -⟩ := hcell w (Below.refl _ _) k x hx
        have hcx := fun W (hW : Below w0.heap.size w0 W) => (show W.cell? ⟨bn, on + k * 5, none⟩ = some (.string x.path) ∧ W.cell? ⟨bn, on + k * 5 + 1, none⟩ = some (.bool x.dir) ∧ W.cell? ⟨bn, on + k * 5 + 2, none⟩ = some (.int .i64 x.quota) ∧ W.cell? ⟨bn, on + k * 5 + 3, none⟩ = some (.slice ax x.blocks.length cx) ∧ W.cell? ⟨bn, on + k * 5 + 4, none⟩ = some (.int .i64 x.writer) from by
          obtain ⟨b', o', e, -, l⟩ := hcell W (Hb0.out.trans (hW.mono hzz)) k x hx
          simp only [Option.some.injEq, Addr.mk.injEq, and_true] at e
          obtain ⟨rfl, rfl⟩ := e
          rw [hbv] at l
          exact l)
        have hcb := fun W (hW : Below w0.heap.size w0 W) => cloneB_calls W x.bv x.blocks (hrb.below (Hb0.out.trans (hW.mono hzz)) (Nat.le_refl _)) (by omega)
        rw [hbv] at hcb
        rw [hI] at Hfd
        have Hst := Lib.hid hst; have Hcx := Lib.hid hcx; have Hcb := Lib.hid hcb; have Hbv := Lib.hid hbv
        have hz1 : w.heap.size + 1 < w0.heap.size := by omega
        clear hst hcx hcb hbv hB hE hss hR hI Hh hrb hcell hx hp hxm hbl8
        subst hE0
        go_wp2_with (first
          | (go_at_call 72; (with_reducible refine (Hsp.out _ (Below.refl _ _)).mono ?_); unfold Path.SplPost; rintro e1 w1 ⟨v1, rfl, ho1, hb1⟩; obtain ⟨a1, c1, rfl, -⟩ := own_slice ho1.own; have Hb1 := Lib.hid (show Below w0.heap.size w0 w1 from hb1); clear hb1 ho1; obtain ⟨⟨s0, s1, s2, s3, s4, s5⟩, y0, y1, y2, y3, y4, y5, y6, y7, y8, y9, y10⟩ := HF.out w1 Hb1.out; obtain ⟨a0, a1, a2, a3, a4, a5, a6, a7, a8, a9, a10⟩ := ans_cells (Hend.out w1 Hb1.out))
          | (go_at_call 22; (with_reducible refine (Hr.out _ Hb1.out).mono ?_); rintro e3 w3 ⟨rfl, hb3⟩; have Hb3 := Lib.hid (Hb1.out.trans (hb3.mono Hb1.out.size)); clear hb3; obtain ⟨⟨s0, s1, s2, s3, s4, s5⟩, y0, y1, y2, y3, y4, y5, y6, y7, y8, y9, y10⟩ := HF.out w3 Hb3.out; obtain ⟨a0, a1, a2, a3, a4, a5, a6, a7, a8, a9, a10⟩ := ans_cells (Hend.out w3 Hb3.out))
          | (go_at_call 27; (with_reducible refine (Hfd.out _ Hb3.out).mono ?_); rintro e5 w5 ⟨rfl, hb5⟩; have Hb5 := Lib.hid (Hb3.out.trans (hb5.mono Hb3.out.size)); clear hb5; obtain ⟨⟨s0, s1, s2, s3, s4, s5⟩, y0, y1, y2, y3, y4, y5, y6, y7, y8, y9, y10⟩ := HF.out w5 Hb5.out; obtain ⟨l0, l1, l2, l3, l4⟩ := Hcx.out w5 Hb5.out)
          | (go_at_call 50; (with_reducible refine (Hcb.out _ (Hb5.out.alloc Hb5.out.size _)).mono ?_); rintro e7 w7 ⟨v7, rfl, ho7, hb7⟩; obtain ⟨a7', c7', rfl, -⟩ := own_slice ho7.own; have hB7 := (Hb5.out.alloc Hb5.out.size (.cells #[.string x.path, .bool x.dir, .int .i64 x.quota, .slice ax x.blocks.length cx, .int .i64 x.writer] 35 (0, 0))).trans (hb7.mono (Nat.le_trans Hb5.out.size (by simp))); have kn := (hb7.block w5.heap.size (by simp)).trans (heap_alloc_new w5 _); have hlt5 := Hb5.out.size; have r1 : w.heap.size + 1 ≠ w5.heap.size := (by omega); have r2 := Ne.symm r1; obtain ⟨n0, n1, n2, n3, n4⟩ := blk5c kn; obtain ⟨m0, m1, m2, m3, m4⟩ := blk5z kn; obtain ⟨⟨s0, s1, s2, s3, s4, s5⟩, y0, y1, y2, y3, y4, y5, y6, y7, y8, y9, y10⟩ := HF.out w7 hB7; obtain ⟨a0, a1, a2, a3, a4, a5, a6, a7, a8, a9, a10⟩ := ans_cells (Hend.out w7 hB7); have HB7 := Lib.hid hB7; have Kn := Lib.hid kn; have Ho7 := Lib.hid ho7; clear hb7 hB7 kn ho7))
        have hkE := ans_set ((heap_setCell_other w7 ⟨w5.heap.size, 3, none⟩ _ (.slice a7' x.blocks.length c7') r1).trans (Hend.out _ HB7.out)) (.int .i64 0) (.int .i64 0) (.int .i64 0) (.int .i64 0) (.slice none 0 0) (.string x.path) (.bool x.dir) (.int .i64 x.quota) (.slice a7' x.blocks.length c7') (.int .i64 x.writer) (.int .i64 0)
        have hle7 : w.heap.size ≤ w5.heap.size := Nat.le_trans (by omega) hlt5
        have hbE := setL_below (N := w.heap.size + 1) (by omega : w.heap.size ≤ w.heap.size + 1) [.int .i64 0, .int .i64 0, .int .i64 0, .int .i64 0, .slice none 0 0, .string x.path, .bool x.dir, .int .i64 x.quota, .slice a7' x.blocks.length c7', .int .i64 x.writer, .int .i64 0] 0 _ ((Hb0.out.trans (HB7.out.mono hzz)).setCell (p := ⟨w5.heap.size, 3, none⟩) hle7 (.slice a7' x.blocks.length c7'))
        have hoE := OwnB.setL (w' := w7) (own_ne_blk (OwnB.poke (g := w5.heap.size) (j := 3) (u := .slice a7' x.blocks.length c7') Ho7.out (own_ne_blk Ho7.out.own Kn.out (by decide))).own ((heap_setCell_other w7 ⟨w5.heap.size, 3, none⟩ (w.heap.size + 1) (.slice a7' x.blocks.length c7') r1).trans (Hend.out _ HB7.out)) (by decide)) [.int .i64 0, .int .i64 0, .int .i64 0, .int .i64 0, .slice none 0 0, .string x.path, .bool x.dir, .int .i64 x.quota, .slice a7' x.blocks.length c7', .int .i64 x.writer, .int .i64 0] 0 _ (OwnB.poke (g := w5.heap.size) (j := 3) (u := .slice a7' x.blocks.length c7') Ho7.out (own_ne_blk Ho7.out.own Kn.out (by decide)))
        simp only [setL, Nat.reduceAdd, Nat.zero_add] at hkE hbE hoE
        refine bodyPost_ret (results_cell_row rfl _ _ (w.heap.size + 1) _ _ _ _ rfl hkE Tryz.underlying37 rfl (by kernel_rfl)) rfl ?_
        exact ⟨⟨{ x with bv := .slice a7' x.blocks.length c7' }, by rw [Hst.out.2]; rfl, by rw [Hst.out.1]; rfl, hoE.up (by simp; omega)⟩, hbE⟩
  · have hst : statE s (bs p) = 1 ∧ statN s (bs p) = zeroN := by
      have h1 : statE s (bs p) = 1 := by rw [statE, if_neg (by rw [← hE]; simp [hE0])]
      exact ⟨h1, by rw [statN, if_neg (by rw [h1]; decide)]⟩
    have Hst := Lib.hid hst
    have q1 : (E != 0) = true := by simpa using hE0
    clear hst hB hE Hfd Hh hE0 Hr
    go_wp2_with (first
      | (go_at_call 72; (with_reducible refine (Hsp.out _ (Below.refl _ _)).mono ?_); unfold Path.SplPost; rintro e1 w1 ⟨v1, rfl, ho1, hb1⟩; obtain ⟨a1, c1, rfl, -⟩ := own_slice ho1.own; have Hb1 := Lib.hid (show Below w0.heap.size w0 w1 from hb1); clear hb1 ho1; obtain ⟨⟨s0, s1, s2, s3, s4, s5⟩, y0, y1, y2, y3, y4, y5, y6, y7, y8, y9, y10⟩ := HF.out w1 Hb1.out; obtain ⟨a0, a1, a2, a3, a4, a5, a6, a7, a8, a9, a10⟩ := ans_cells (Hend.out w1 Hb1.out)))
    have hkE := ans_set (Hend.out _ Hb1.out) (.int .i64 1) (.int .i64 0) (.int .i64 0) (.int .i64 0) (.slice none 0 0) (.string ⟨#[]⟩) (.bool false) (.int .i64 0) (.slice none 0 0) (.int .i64 0) (.int .i64 0)
    have hbE := setL_below (N := w.heap.size + 1) (by omega : w.heap.size ≤ w.heap.size + 1) [.int .i64 1, .int .i64 0, .int .i64 0, .int .i64 0, .slice none 0 0, .string ⟨#[]⟩, .bool false, .int .i64 0, .slice none 0 0, .int .i64 0, .int .i64 0] 0 _ (Hb0.out.trans (Hb1.out.mono hzz))
    simp only [setL, Nat.reduceAdd, Nat.zero_add] at hkE hbE
    refine bodyPost_ret (results_cell_row rfl _ _ (w.heap.size + 1) _ _ _ _ rfl hkE Tryz.underlying37 rfl (by kernel_rfl)) rfl ?_
    exact ⟨⟨zeroN, by rw [Hst.out.2], by rw [Hst.out.1]; rfl, Nilr.out _⟩, hbE⟩
end Go.Proofs.YtdfckkadmgmcaaaGreatDoor.Space

/- Edits of spaces: the calls of New and Apply as the statements make them; the chapter's examples. -/
namespace Go.Proofs.YtdfckkadmgmcaaaGreatDoor.Space
open Go.RowKit
open Path (Bs bs mk bs_mk mk_bs tl_bs MaxC splitE splitL parD)
open Tree
set_option linter.unusedSimpArgs false
set_option linter.unusedVariables false
theorem new2_calls (w : World) : Calls Tryz.prog 16 #[] w fun e w' => (∃ an cn, e = .returned (.agg #[.int .i64 0, .int .i64 1, .int .i64 1, .int .i64 0, .slice an 1 cn, .slice none 0 0]) ∧ RdSp w' (newS (.slice an 1 cn)) ∧ OwnX w w' (.slice an 1 cn) [rootN]) ∧ Below w.heap.size w w' := by
  refine (new_calls w).mono ?_
  rintro e w' ⟨⟨v, rfl, hR, hO⟩, hb⟩
  obtain ⟨an, cn, hvn, -⟩ := rd_cellsN hR.n.rd
  have hv : v = .slice an 1 cn := hvn
  subst hv
  exact ⟨⟨an, cn, rfl, hR, hO⟩, hb⟩
/-- What a call of Apply tells, its rows as slices. -/
structure AppT (w w' : World) (A : Ans) (t : Sp) (x : Nd) (an : Option Addr) (cn : Nat) (avl : Option Addr) (cvl : Nat) (ax : Option Addr) (cx : Nat) : Prop where
  vn : t.vn = .slice an t.nodes.length cn
  vl : t.vl = .slice avl t.leases.length cvl
  bv : x.bv = .slice ax x.blocks.length cx
  made : Made w w' A t x
def AppP (w : World) (A : Ans) (e' : Ending) (w' : World) : Prop :=
  (∃ t x an cn avl cvl ax cx, AppT w w' A t x an cn avl cvl ax cx ∧ e' = .returned (.tuple #[.agg #[.int .i64 t.txid, .int .i64 t.nb, .int .i64 t.ng, .int .i64 t.now, .slice an t.nodes.length cn, .slice avl t.leases.length cvl], .agg #[.int .i64 A.err, .int .i64 A.b.id, .int .i64 A.b.gen, .int .i64 A.b.len, .slice none 0 0, .string x.path, .bool x.dir, .int .i64 x.quota, .slice ax x.blocks.length cx, .int .i64 x.writer, .int .i64 0]])) ∧ Below w.heap.size w w'
theorem AppP.to {w w' : World} {A A' : Ans} {e' : Ending} (h : SameA A A') (hp : AppP w A e' w') : AppP w A' e' w' := by
  obtain ⟨⟨t, x, an, cn, avl, cvl, ax, cx, h1, h2⟩, hb⟩ := hp
  refine ⟨⟨t, x, an, cn, avl, cvl, ax, cx, ⟨h1.vn, h1.vl, h1.bv, ⟨h1.made.same.trans h.s, h1.made.node.trans h.n, h1.made.rd, h1.made.own, h1.made.le, h1.made.bl⟩⟩, ?_⟩, hb⟩
  rw [h2, h.err, h.b]
theorem app_calls (w : World) (s : Sp) (e : Ed) {an avl al : Option Addr} {cn cvl cl : Nat} (hvn : s.vn = .slice an s.nodes.length cn) (hvl : s.vl = .slice avl s.leases.length cvl) (hlv : e.lv = .slice al e.lens.length cl) (h : RdSp w s) (hl : Rd w 1 encI e.lv e.lens) (hn : e.lens.length ≤ 17592186044416) (hM : MaxC w) :
    Calls Tryz.prog 18 #[.agg #[.int .i64 s.txid, .int .i64 s.nb, .int .i64 s.ng, .int .i64 s.now, .slice an s.nodes.length cn, .slice avl s.leases.length cvl], .agg #[.int .i64 e.kind, .string e.path, .string e.dst, .int .i64 e.client, .int .i64 e.call, .int .i64 e.n, .slice al e.lens.length cl]] w (AppP w (applyE s e)) := by
  have hm := made_calls w s e h hl hn hM
  rw [spC, edC, hvn, hvl, hlv] at hm
  refine hm.mono ?_
  rintro e' w' ⟨⟨t, x, hm, rfl⟩, hb⟩
  obtain ⟨an', cn', hvn', -⟩ := rd_cellsN hm.rd.n.rd
  obtain ⟨avl', cvl', hvl', -⟩ := Lease.rd_cells hm.rd.l
  obtain ⟨ax, cx, hbv⟩ := bv_slice hm.bl.rd
  refine ⟨⟨t, x, an', cn', avl', cvl', ax, cx, ⟨hvn', hvl', hbv, hm⟩, ?_⟩, hb⟩
  rw [spC, ansC, hvn', hvl', hbv]
theorem rdI_nil (w : World) : Rd w 1 encI (.slice none 0 0) [] := ⟨_, _, rfl, Nat.le_refl _, Nat.zero_le _, fun i x hx => by cases hx⟩
theorem one_rd {w : World} {g : Nat} {t : TypeId} {n : Int} (h : w.heap[g]? = some (.cells #[.int .i64 n] t (0, 0))) : Rd w 1 encI (.slice (some ⟨g, 0, none⟩) 1 1) [n] := by
  refine ⟨_, _, rfl, Nat.le_refl _, by decide, fun i x hx => ⟨g, 0, rfl, lt_of_block h, fun j u hu => ?_⟩⟩
  rw [cell_of_blk h]
  rcases i with _ | i
  · simp only [List.getElem?_cons_zero, Option.some.injEq] at hx
    subst hx
    rcases j with _ | j
    · simpa [encI] using hu
    · simp [encI] at hu
  · simp at hx
theorem below_alloc {w w' : World} {o : Obj} (h : Below (w.alloc o).heap.size (w.alloc o) w') : Below w.heap.size w w' := ((Below.refl w.heap.size w).alloc (Nat.le_refl _) o).trans (h.mono (by simp))
theorem stat2_calls (w : World) (s : Sp) (p : ByteArray) {an avl : Option Addr} {cn cvl : Nat} (hvn : s.vn = .slice an s.nodes.length cn) (hvl : s.vl = .slice avl s.leases.length cvl) (h : RdSp w s) (hM : MaxC w) :
    Calls Tryz.prog 31 #[.agg #[.int .i64 s.txid, .int .i64 s.nb, .int .i64 s.ng, .int .i64 s.now, .slice an s.nodes.length cn, .slice avl s.leases.length cvl], .string p] w fun e w' => (∃ (x : Nd) (ax : Option Addr) (cx : Nat), pur x = pur (statN s (bs p)) ∧ x.bv = .slice ax x.blocks.length cx ∧
      e = .returned (.agg #[.int .i64 (statE s (bs p)), .int .i64 0, .int .i64 0, .int .i64 0, .slice none 0 0, .string x.path, .bool x.dir, .int .i64 x.quota, .slice ax x.blocks.length cx, .int .i64 x.writer, .int .i64 0]) ∧ OwnB w w' x.bv x.blocks) ∧ Below w.heap.size w w' := by
  have hm := stat_calls w s p h hM
  rw [spC, hvn, hvl] at hm
  refine hm.mono ?_
  rintro e w' ⟨⟨x, hx, rfl, ho⟩, hb⟩
  obtain ⟨ax, cx, hbv⟩ := bv_slice ho.rd
  refine ⟨⟨x, ax, cx, hx, hbv, ?_, ho⟩, hb⟩
  rw [ansC, hbv]; rfl
set_option maxRecDepth 100000 in
set_option maxHeartbeats 8000000 in
theorem exs_calls (w : World) (hM : MaxC w) : Calls Tryz.prog 15 #[] w fun e w' => e = .returned (.bool true) ∧ Below w.heap.size w w' := by
  obtain ⟨x1, x2, x3, x4, x5, x6, x7, x8, x9⟩ := ex_facts
  have X := Lib.hid (And.intro x1 (And.intro x2 (And.intro x3 (And.intro x4 (And.intro x5 (And.intro x6 (And.intro x7 (And.intro x8 x9))))))))
  clear x1 x2 x3 x4 x5 x6 x7 x8 x9
  have HM := Lib.hid hM
  clear hM
  go_enter Tryz.func15, Tryz.ntmps15
  go_upto_region 2 with (first
    | (go_at_call 16; (with_reducible refine (new2_calls _).mono ?_); rintro e0 w0 ⟨⟨an, cn, rfl, hR, -⟩, hb0⟩; have hA := (app_calls w0 (newS (.slice an 1 cn)) (exE 2 1 [] nilV) (al := none) (cl := 0) rfl rfl rfl hR (rdI_nil _) (Nat.zero_le _) (HM.out.below hb0)).mono (fun e w' hp => AppP.to (A' := exA) (apply_same (new_same _ _) _) hp); have HA := Lib.hid hA; have Hb0 := Lib.hid hb0; clear hA hb0 hR)
    | (go_at_call 18; (refine HA.out.mono ?_); rintro e1 w1 hp; unfold AppP at hp; obtain ⟨⟨t1, x1, an1, cn1, avl1, cvl1, ax1, cx1, hT, rfl⟩, hb⟩ := hp; have HT1 := Lib.hid hT; have Hc1 := Lib.hid hb; clear hb hT))
  have Hb1 := Lib.hid (Hb0.out.trans (Hc1.out.mono Hb0.out.size))
  clear HA
  obtain ⟨hn, k1, k2⟩ := two_new w1 (.cells #[.int .i64 t1.txid, .int .i64 t1.nb, .int .i64 t1.ng, .int .i64 t1.now, .slice an1 t1.nodes.length cn1, .slice avl1 t1.leases.length cvl1] 27 (0, 0)) (.cells #[.int .i64 exA.err, .int .i64 exA.b.id, .int .i64 exA.b.gen, .int .i64 exA.b.len, .slice none 0 0, .string x1.path, .bool x1.dir, .int .i64 x1.quota, .slice ax1 x1.blocks.length cx1, .int .i64 x1.writer, .int .i64 0] 37 (0, 0))
  generalize (w1.alloc (.cells #[.int .i64 t1.txid, .int .i64 t1.nb, .int .i64 t1.ng, .int .i64 t1.now, .slice an1 t1.nodes.length cn1, .slice avl1 t1.leases.length cvl1] 27 (0, 0))).alloc (.cells #[.int .i64 exA.err, .int .i64 exA.b.id, .int .i64 exA.b.gen, .int .i64 exA.b.len, .slice none 0 0, .string x1.path, .bool x1.dir, .int .i64 x1.quota, .slice ax1 x1.blocks.length cx1, .int .i64 x1.writer, .int .i64 0] 37 (0, 0)) = W1 at *
  have B1 := Lib.hid (Hb1.out.trans (hn.mono Hb1.out.size)); have N1 := Lib.hid hn; have KS1 := Lib.hid k1; have KA1 := Lib.hid k2
  clear hn k1 k2
  have up2 : Below W1.heap.size W1 W1 := Below.refl _ _
  have ks2 := (up2.block _ (lt_of_block KS1.out)).trans KS1.out
  obtain ⟨s0, s1, s2, s3, s4, s5⟩ := sp_cells6 ks2
  have hrd := (HT1.out.made.rd.below (N1.out)).below up2
  have hA := (app_calls W1 t1 (exE 5 1 [] nilV) (al := none) (cl := 0) HT1.out.vn HT1.out.vl rfl hrd (rdI_nil _) (Nat.zero_le _) (HM.out.below B1.out)).mono (fun e w' hp => AppP.to (A' := exB) (apply_same HT1.out.made.same _) hp)
  have HA := Lib.hid hA
  clear hA hrd ks2 up2
  go_upto_region 3 with (first
    | (go_at_call 18; (refine HA.out.mono ?_); rintro e2 w2 hp; unfold AppP at hp; obtain ⟨⟨t2, x2, an2, cn2, avl2, cvl2, ax2, cx2, hT, rfl⟩, hb⟩ := hp; have HT2 := Lib.hid hT; have Hc2 := Lib.hid hb; clear hb hT))
  have Hb2 := Lib.hid (B1.out.trans (Hc2.out.mono B1.out.size))
  clear HA s0 s1 s2 s3 s4 s5
  obtain ⟨hn, k1, k2⟩ := two_new w2 (.cells #[.int .i64 t2.txid, .int .i64 t2.nb, .int .i64 t2.ng, .int .i64 t2.now, .slice an2 t2.nodes.length cn2, .slice avl2 t2.leases.length cvl2] 27 (0, 0)) (.cells #[.int .i64 exB.err, .int .i64 exB.b.id, .int .i64 exB.b.gen, .int .i64 exB.b.len, .slice none 0 0, .string x2.path, .bool x2.dir, .int .i64 x2.quota, .slice ax2 x2.blocks.length cx2, .int .i64 x2.writer, .int .i64 0] 37 (0, 0))
  generalize (w2.alloc (.cells #[.int .i64 t2.txid, .int .i64 t2.nb, .int .i64 t2.ng, .int .i64 t2.now, .slice an2 t2.nodes.length cn2, .slice avl2 t2.leases.length cvl2] 27 (0, 0))).alloc (.cells #[.int .i64 exB.err, .int .i64 exB.b.id, .int .i64 exB.b.gen, .int .i64 exB.b.len, .slice none 0 0, .string x2.path, .bool x2.dir, .int .i64 x2.quota, .slice ax2 x2.blocks.length cx2, .int .i64 x2.writer, .int .i64 0] 37 (0, 0)) = W2 at *
  have B2 := Lib.hid (Hb2.out.trans (hn.mono Hb2.out.size)); have N2 := Lib.hid hn; have KS2 := Lib.hid k1; have KA2 := Lib.hid k2
  clear hn k1 k2
  have ST2 := Lib.hid (Hc2.out.trans (N2.out.mono Hc2.out.size))
  have up3 : Below W1.heap.size W1 W2 := ST2.out
  have ks3 := (up3.block _ (lt_of_block KS1.out)).trans KS1.out
  obtain ⟨s0, s1, s2, s3, s4, s5⟩ := sp_cells6 ks3
  have hrd := (HT1.out.made.rd.below (N1.out)).below up3
  have hA := (app_calls W2 t1 (exE 5 2 [] nilV) (al := none) (cl := 0) HT1.out.vn HT1.out.vl rfl hrd (rdI_nil _) (Nat.zero_le _) (HM.out.below B2.out)).mono (fun e w' hp => AppP.to (A' := exC) (apply_same HT1.out.made.same _) hp)
  have HA := Lib.hid hA
  clear hA hrd ks3 up3
  go_upto_region 4 with (first
    | (go_at_call 18; (refine HA.out.mono ?_); rintro e3 w3 hp; unfold AppP at hp; obtain ⟨⟨t3, x3, an3, cn3, avl3, cvl3, ax3, cx3, hT, rfl⟩, hb⟩ := hp; have HT3 := Lib.hid hT; have Hc3 := Lib.hid hb; clear hb hT))
  have Hb3 := Lib.hid (B2.out.trans (Hc3.out.mono B2.out.size))
  clear HA s0 s1 s2 s3 s4 s5
  obtain ⟨hn, k1, k2⟩ := two_new w3 (.cells #[.int .i64 t3.txid, .int .i64 t3.nb, .int .i64 t3.ng, .int .i64 t3.now, .slice an3 t3.nodes.length cn3, .slice avl3 t3.leases.length cvl3] 27 (0, 0)) (.cells #[.int .i64 exC.err, .int .i64 exC.b.id, .int .i64 exC.b.gen, .int .i64 exC.b.len, .slice none 0 0, .string x3.path, .bool x3.dir, .int .i64 x3.quota, .slice ax3 x3.blocks.length cx3, .int .i64 x3.writer, .int .i64 0] 37 (0, 0))
  generalize (w3.alloc (.cells #[.int .i64 t3.txid, .int .i64 t3.nb, .int .i64 t3.ng, .int .i64 t3.now, .slice an3 t3.nodes.length cn3, .slice avl3 t3.leases.length cvl3] 27 (0, 0))).alloc (.cells #[.int .i64 exC.err, .int .i64 exC.b.id, .int .i64 exC.b.gen, .int .i64 exC.b.len, .slice none 0 0, .string x3.path, .bool x3.dir, .int .i64 x3.quota, .slice ax3 x3.blocks.length cx3, .int .i64 x3.writer, .int .i64 0] 37 (0, 0)) = W3 at *
  have B3 := Lib.hid (Hb3.out.trans (hn.mono Hb3.out.size)); have N3 := Lib.hid hn; have KS3 := Lib.hid k1; have KA3 := Lib.hid k2
  clear hn k1 k2
  have ST3 := Lib.hid (Hc3.out.trans (N3.out.mono Hc3.out.size))
  have up4 : Below W2.heap.size W2 W3 := ST3.out
  have ks4 := (up4.block _ (lt_of_block KS2.out)).trans KS2.out
  obtain ⟨s0, s1, s2, s3, s4, s5⟩ := sp_cells6 ks4
  have hrd := (HT2.out.made.rd.below (N2.out)).below up4
  have hal : Below W3.heap.size W3 (W3.alloc (.cells #[.int .i64 5] 3 (0, 0))) := (Below.refl _ _).alloc (Nat.le_refl _) _
  have hlr : Rd (W3.alloc (.cells #[.int .i64 5] 3 (0, 0))) 1 encI (.slice (some ⟨W3.heap.size, 0, none⟩) 1 1) [5] := one_rd (heap_alloc_new W3 _)
  have hA := (app_calls (W3.alloc (.cells #[.int .i64 5] 3 (0, 0))) t2 (exE 6 1 [5] (.slice (some ⟨W3.heap.size, 0, none⟩) 1 1)) (al := some ⟨W3.heap.size, 0, none⟩) (cl := 1) HT2.out.vn HT2.out.vl rfl (hrd.below hal) hlr (show 1 ≤ 17592186044416 by decide) (HM.out.below (B3.out.trans (hal.mono B3.out.size)))).mono (fun e w' hp => AppP.to (A' := exD) (by have h1 := apply_same HT2.out.made.same (exE 6 1 [5] (.slice (some ⟨W3.heap.size, 0, none⟩) 1 1)); rw [show applyE exB.s (exE 6 1 [5] (.slice (some ⟨W3.heap.size, 0, none⟩) 1 1)) = exD from apply_lv _ _ _ _ _ _ _ _ _ _] at h1; exact h1) hp)
  clear hal hlr
  have HA := Lib.hid hA
  clear hA hrd ks4 up4
  go_upto_region 5 with (first
    | (go_at_call 18; (refine HA.out.mono ?_); rintro e4 w4 hp; unfold AppP at hp; obtain ⟨⟨t4, x4, an4, cn4, avl4, cvl4, ax4, cx4, hT, rfl⟩, hb⟩ := hp; have HT4 := Lib.hid hT; have Hc4 := Lib.hid hb; clear hb hT))
  have Hc4 := Lib.hid (below_alloc Hc4.out)
  have Hb4 := Lib.hid (B3.out.trans (Hc4.out.mono B3.out.size))
  clear HA s0 s1 s2 s3 s4 s5
  obtain ⟨hn, k1, k2⟩ := two_new w4 (.cells #[.int .i64 t4.txid, .int .i64 t4.nb, .int .i64 t4.ng, .int .i64 t4.now, .slice an4 t4.nodes.length cn4, .slice avl4 t4.leases.length cvl4] 27 (0, 0)) (.cells #[.int .i64 exD.err, .int .i64 exD.b.id, .int .i64 exD.b.gen, .int .i64 exD.b.len, .slice none 0 0, .string x4.path, .bool x4.dir, .int .i64 x4.quota, .slice ax4 x4.blocks.length cx4, .int .i64 x4.writer, .int .i64 0] 37 (0, 0))
  generalize (w4.alloc (.cells #[.int .i64 t4.txid, .int .i64 t4.nb, .int .i64 t4.ng, .int .i64 t4.now, .slice an4 t4.nodes.length cn4, .slice avl4 t4.leases.length cvl4] 27 (0, 0))).alloc (.cells #[.int .i64 exD.err, .int .i64 exD.b.id, .int .i64 exD.b.gen, .int .i64 exD.b.len, .slice none 0 0, .string x4.path, .bool x4.dir, .int .i64 x4.quota, .slice ax4 x4.blocks.length cx4, .int .i64 x4.writer, .int .i64 0] 37 (0, 0)) = W4 at *
  have B4 := Lib.hid (Hb4.out.trans (hn.mono Hb4.out.size)); have N4 := Lib.hid hn; have KS4 := Lib.hid k1; have KA4 := Lib.hid k2
  clear hn k1 k2
  have ST4 := Lib.hid (Hc4.out.trans (N4.out.mono Hc4.out.size))
  have up5 : Below W4.heap.size W4 W4 := Below.refl _ _
  have ks5 := (up5.block _ (lt_of_block KS4.out)).trans KS4.out
  obtain ⟨s0, s1, s2, s3, s4, s5⟩ := sp_cells6 ks5
  have hrd := (HT4.out.made.rd.below (N4.out)).below up5
  have hA := (app_calls W4 t4 (exE 10 2 [] nilV) (al := none) (cl := 0) HT4.out.vn HT4.out.vl rfl hrd (rdI_nil _) (Nat.zero_le _) (HM.out.below B4.out)).mono (fun e w' hp => AppP.to (A' := exF) (apply_same HT4.out.made.same _) hp)
  have HA := Lib.hid hA
  clear hA hrd ks5 up5
  go_upto_region 6 with (first
    | (go_at_call 18; (refine HA.out.mono ?_); rintro e5 w5 hp; unfold AppP at hp; obtain ⟨⟨t5, x5, an5, cn5, avl5, cvl5, ax5, cx5, hT, rfl⟩, hb⟩ := hp; have HT5 := Lib.hid hT; have Hc5 := Lib.hid hb; clear hb hT))
  have Hb5 := Lib.hid (B4.out.trans (Hc5.out.mono B4.out.size))
  clear HA s0 s1 s2 s3 s4 s5
  obtain ⟨hn, k1, k2⟩ := two_new w5 (.cells #[.int .i64 t5.txid, .int .i64 t5.nb, .int .i64 t5.ng, .int .i64 t5.now, .slice an5 t5.nodes.length cn5, .slice avl5 t5.leases.length cvl5] 27 (0, 0)) (.cells #[.int .i64 exF.err, .int .i64 exF.b.id, .int .i64 exF.b.gen, .int .i64 exF.b.len, .slice none 0 0, .string x5.path, .bool x5.dir, .int .i64 x5.quota, .slice ax5 x5.blocks.length cx5, .int .i64 x5.writer, .int .i64 0] 37 (0, 0))
  generalize (w5.alloc (.cells #[.int .i64 t5.txid, .int .i64 t5.nb, .int .i64 t5.ng, .int .i64 t5.now, .slice an5 t5.nodes.length cn5, .slice avl5 t5.leases.length cvl5] 27 (0, 0))).alloc (.cells #[.int .i64 exF.err, .int .i64 exF.b.id, .int .i64 exF.b.gen, .int .i64 exF.b.len, .slice none 0 0, .string x5.path, .bool x5.dir, .int .i64 x5.quota, .slice ax5 x5.blocks.length cx5, .int .i64 x5.writer, .int .i64 0] 37 (0, 0)) = W5 at *
  have B5 := Lib.hid (Hb5.out.trans (hn.mono Hb5.out.size)); have N5 := Lib.hid hn; have KS5 := Lib.hid k1; have KA5 := Lib.hid k2
  clear hn k1 k2
  have ST5 := Lib.hid (Hc5.out.trans (N5.out.mono Hc5.out.size))
  obtain ⟨s0, s1, s2, s3, s4, s5⟩ := sp_cells6 KS5.out
  have hst := stat2_calls W5 t5 fP HT5.out.vn HT5.out.vl (HT5.out.made.rd.below N5.out) (HM.out.below B5.out)
  have HS := Lib.hid hst
  clear hst
  go_upto_region 7 with (first
    | (go_at_call 31; (refine HS.out.mono ?_); rintro e6 w6 ⟨⟨x6, ax6, cx6, hx, hbv, rfl, ho⟩, hb⟩; have HX6 := Lib.hid hx; have Hbv6 := Lib.hid hbv; have Ho6 := Lib.hid ho; have Hc6 := Lib.hid hb; clear hx hbv ho hb))
  have k6 := heap_alloc_new w6 (.cells #[.int .i64 (statE t5 (bs fP)), .int .i64 0, .int .i64 0, .int .i64 0, .slice none 0 0, .string x6.path, .bool x6.dir, .int .i64 x6.quota, .slice ax6 x6.blocks.length cx6, .int .i64 x6.writer, .int .i64 0] 37 (0, 0))
  have b6 : Below w6.heap.size w6 (w6.alloc (.cells #[.int .i64 (statE t5 (bs fP)), .int .i64 0, .int .i64 0, .int .i64 0, .slice none 0 0, .string x6.path, .bool x6.dir, .int .i64 x6.quota, .slice ax6 x6.blocks.length cx6, .int .i64 x6.writer, .int .i64 0] 37 (0, 0))) := (Below.refl _ _).alloc (Nat.le_refl _) _
  generalize w6.alloc (.cells #[.int .i64 (statE t5 (bs fP)), .int .i64 0, .int .i64 0, .int .i64 0, .slice none 0 0, .string x6.path, .bool x6.dir, .int .i64 x6.quota, .slice ax6 x6.blocks.length cx6, .int .i64 x6.writer, .int .i64 0] 37 (0, 0)) = W6 at *
  have u6 : Below W5.heap.size W5 W6 := Hc6.out.trans (b6.mono Hc6.out.size)
  have u5 := ST5.out.trans (u6.mono ST5.out.size)
  have u4 := ST4.out.trans (u5.mono ST4.out.size)
  have u3 := ST3.out.trans (u4.mono ST3.out.size)
  have u2 := ST2.out.trans (u3.mono ST2.out.size)
  have hBF := B1.out.trans (u2.mono B1.out.size)
  obtain ⟨x1, x2, x3, x4, x5, x7, x8, x9, x10⟩ := X.out
  have c1 : W6.cell? ⟨w1.heap.size + 1, 0, none⟩ = some (.int .i64 0) := by rw [← x1]; exact cell_of_blk ((u2.block _ (lt_of_block KA1.out)).trans KA1.out)
  have e2 := (u3.block _ (lt_of_block KA2.out)).trans KA2.out
  rw [x3] at e2
  have c2 : W6.cell? ⟨w2.heap.size + 1, 1, none⟩ = some (.int .i64 1) := cell_of_blk e2
  have c3 : W6.cell? ⟨w2.heap.size + 1, 2, none⟩ = some (.int .i64 1) := cell_of_blk e2
  have c4 : W6.cell? ⟨w2.heap.size + 1, 3, none⟩ = some (.int .i64 0) := cell_of_blk e2
  have c5 : W6.cell? ⟨w3.heap.size + 1, 0, none⟩ = some (.int .i64 9) := by rw [← x4]; exact cell_of_blk ((u4.block _ (lt_of_block KA3.out)).trans KA3.out)
  have c6 : W6.cell? ⟨w4.heap.size + 1, 0, none⟩ = some (.int .i64 0) := by rw [← x5]; exact cell_of_blk ((u5.block _ (lt_of_block KA4.out)).trans KA4.out)
  have c7 : W6.cell? ⟨w5.heap.size + 1, 0, none⟩ = some (.int .i64 0) := by rw [← x7]; exact cell_of_blk ((u6.block _ (lt_of_block KA5.out)).trans KA5.out)
  have hxx : pur x6 = pur (statN exF.s (bs fP)) := HX6.out.trans (stat_same HT5.out.made.same (bs fP)).2
  obtain ⟨-, -, -, hxb, hxw⟩ := pur_same hxx
  rw [x9] at hxw
  rw [x10] at hxb
  rw [hxb, hxw] at k6
  have c8 : W6.cell? ⟨w6.heap.size, 9, none⟩ = some (.int .i64 2) := cell_of_blk k6
  have c9 : W6.cell? ⟨w6.heap.size, 8, none⟩ = some (.slice ax6 1 cx6) := cell_of_blk k6
  have hrb := Ho6.out.rd
  rw [Hbv6.out, hxb] at hrb
  obtain ⟨ao, cp, hv, -, -, hcell⟩ := rd_cellsB hrb
  simp only [Value.slice.injEq] at hv
  obtain ⟨rfl, -, rfl⟩ := hv
  obtain ⟨bb, bo, rfl, -, -, -, c10⟩ := hcell W6 b6 0 ⟨1, 1, 5⟩ rfl
  simp only [Nat.zero_mul, Nat.add_zero] at c10
  have HBF := Lib.hid hBF
  clear hBF u6 u5 u4 u3 u2 k6 b6 e2 hxx hxb hxw hrb hcell x1 x2 x3 x4 x5 x7 x8 x9 x10 s0 s1 s2 s3 s4 s5
  go_wp2_with (fail)
  go_ret
  exact ⟨rfl, HBF.out⟩
end Go.Proofs.YtdfckkadmgmcaaaGreatDoor.Space

/- Edits of spaces: a space that a statement's loop holds; the edits that came in. -/
namespace Go.Proofs.YtdfckkadmgmcaaaGreatDoor.Space
open Go.RowKit
open Path (Bs bs mk bs_mk mk_bs tl_bs MaxC splitE splitL parD)
open Tree
set_option linter.unusedSimpArgs false
set_option linter.unusedVariables false
/-- A space in a variable of the statement's, its rows of the statement's own. -/
structure Cur (w wr : World) (g : Nat) (t : Sp) (an : Option Addr) (cn : Nat) (avl : Option Addr) (cvl : Nat) : Prop where
  blk : wr.heap[g]? = some (.cells #[.int .i64 t.txid, .int .i64 t.nb, .int .i64 t.ng, .int .i64 t.now, .slice an t.nodes.length cn, .slice avl t.leases.length cvl] 27 (0, 0))
  vn : t.vn = .slice an t.nodes.length cn
  vl : t.vl = .slice avl t.leases.length cvl
  own : OwnX w wr t.vn t.nodes
  le : Lease.OwnL w wr t.vl t.leases
  right : RightS t
  base : Below w.heap.size w wr
  new : w.heap.size ≤ g
theorem Cur.below {w wr wr' : World} {g : Nat} {t : Sp} {an avl : Option Addr} {cn cvl : Nat} (h : Cur w wr g t an cn avl cvl) (hb : Below wr.heap.size wr wr') : Cur w wr' g t an cn avl cvl :=
  ⟨(hb.block _ (lt_of_block h.blk)).trans h.blk, h.vn, h.vl, h.own.below hb, OwnL.below h.le hb, h.right, h.base.trans (hb.mono h.base.size), h.new⟩
theorem Cur.rd {w wr : World} {g : Nat} {t : Sp} {an avl : Option Addr} {cn cvl : Nat} (h : Cur w wr g t an cn avl cvl) : RdSp wr t :=
  ⟨h.own.rd, Rd.of_own Lease.encL_len h.le.own, by have := h.right.tree.len; omega, by have := Lease.right_len h.right.lease; omega⟩
theorem RightS.lens {t : Sp} (h : RightS t) : t.nodes.length ≤ 8796093022208 ∧ t.leases.length ≤ 8796093022208 := ⟨by have := h.tree.len; omega, by have := Lease.right_len h.lease; omega⟩
/-- The space that an edit made, stored into the variable. -/
theorem Cur.store {w wr w1 W : World} {g : Nat} {s t : Sp} {A : Ans} {x : Nd} {an avl an' avl' ax : Option Addr} {cn cvl cn' cvl' cx : Nat} (h : Cur w wr g s an cn avl cvl) (hT : AppT wr w1 A t x an' cn' avl' cvl' ax cx) (hr : RightS t) (hb1 : Below wr.heap.size wr w1) (hb : Below w1.heap.size w1 W) :
    Cur w (setL g 0 [.int .i64 t.txid, .int .i64 t.nb, .int .i64 t.ng, .int .i64 t.now, .slice an' t.nodes.length cn', .slice avl' t.leases.length cvl'] W) g t an' cn' avl' cvl' := by
  have k1 := (hb.block _ (lt_of_block ((hb1.block _ (lt_of_block h.blk)).trans h.blk))).trans ((hb1.block _ (lt_of_block h.blk)).trans h.blk)
  have hO := hT.made.own.below hb
  have hL := OwnL.below hT.made.le hb
  have key : ∀ (vs : List Value) (j : Nat) (W' : World), OwnX w W' t.vn t.nodes → Lease.OwnL w W' t.vl t.leases → Below w.heap.size w W' →
      t.vn.ownBlock ≠ some g → t.vl.ownBlock ≠ some g → (∀ x ∈ t.nodes, x.bv.ownBlock ≠ some g) → OwnX w (setL g j vs W') t.vn t.nodes ∧ Lease.OwnL w (setL g j vs W') t.vl t.leases ∧ Below w.heap.size w (setL g j vs W') := by
    intro vs
    induction vs with
    | nil => intro j W' h1 h2 h3 _ _ _; exact ⟨h1, h2, h3⟩
    | cons v r ih => intro j W' h1 h2 h3 n1 n2 n3; exact ih (j + 1) _ (OwnX.poke h1 n1 n3) (OwnL.poke h2 n2) (h3.setCell h.new v) n1 n2 n3
  obtain ⟨q1, q2, q3⟩ := key [.int .i64 t.txid, .int .i64 t.nb, .int .i64 t.ng, .int .i64 t.now, .slice an' t.nodes.length cn', .slice avl' t.leases.length cvl'] 0 W (hO.up h.base.size) ⟨hL.own, fun g hg => Nat.le_trans h.base.size (hL.new g hg)⟩ (h.base.trans ((hb1.mono h.base.size).trans (hb.mono (Nat.le_trans h.base.size hb1.size)))) (own_ne_blk hO.own k1 (by decide)) (own_ne_blk hL.own k1 (by decide)) (fun y hy => own_ne_blk (hO.bl y hy).own k1 (by decide))
  refine ⟨?_, hT.vn, hT.vl, q1, q2, hr, q3, h.new⟩
  have k2 := setL_blk [.int .i64 t.txid, .int .i64 t.nb, .int .i64 t.ng, .int .i64 t.now, .slice an' t.nodes.length cn', .slice avl' t.leases.length cvl'] 0 _ _ k1
  simpa only [putL, Nat.reduceAdd, Nat.zero_add, List.setIfInBounds_toArray, List.set_cons_zero, List.set_cons_succ] using k2
/-- The edits that came in. -/
theorem rd_cellsEd {w : World} {v : Value} {l : List Ed} (h : Rd w 7 encEd v l) : ∃ ao cap, v = .slice ao l.length cap ∧ l.length ≤ cap ∧ cap ≤ maxLen ∧ ∀ W, Below w.heap.size w W → ∀ k e, l[k]? = some e →
    ∃ b off, ao = some ⟨b, off, none⟩ ∧ b < w.heap.size ∧ W.cell? ⟨b, off + k * 7, none⟩ = some (.int .i64 e.kind) ∧ W.cell? ⟨b, off + k * 7 + 1, none⟩ = some (.string e.path) ∧ W.cell? ⟨b, off + k * 7 + 2, none⟩ = some (.string e.dst) ∧ W.cell? ⟨b, off + k * 7 + 3, none⟩ = some (.int .i64 e.client) ∧ W.cell? ⟨b, off + k * 7 + 4, none⟩ = some (.int .i64 e.call) ∧ W.cell? ⟨b, off + k * 7 + 5, none⟩ = some (.int .i64 e.n) ∧ W.cell? ⟨b, off + k * 7 + 6, none⟩ = some e.lv := by
  obtain ⟨ao, cap, hv, hc, hcm, hcell⟩ := h
  refine ⟨ao, cap, hv, hc, hcm, fun W hW k x hx => ?_⟩
  obtain ⟨b, off, hb, hlt, hcl⟩ := hcell k x hx
  refine ⟨b, off, hb, hlt, ?_, ?_, ?_, ?_, ?_, ?_, ?_⟩
  · rw [hW.cell (p := ⟨b, off + k * 7, none⟩) hlt]; exact hcl 0 _ rfl
  · rw [hW.cell (p := ⟨b, off + k * 7 + 1, none⟩) hlt]; exact hcl 1 _ rfl
  · rw [hW.cell (p := ⟨b, off + k * 7 + 2, none⟩) hlt]; exact hcl 2 _ rfl
  · rw [hW.cell (p := ⟨b, off + k * 7 + 3, none⟩) hlt]; exact hcl 3 _ rfl
  · rw [hW.cell (p := ⟨b, off + k * 7 + 4, none⟩) hlt]; exact hcl 4 _ rfl
  · rw [hW.cell (p := ⟨b, off + k * 7 + 5, none⟩) hlt]; exact hcl 5 _ rfl
  · rw [hW.cell (p := ⟨b, off + k * 7 + 6, none⟩) hlt]; exact hcl 6 _ rfl
theorem setL_below' {w0 : World} {N : Nat} (h0 : w0.heap.size ≤ N) : ∀ (vs : List Value) (j : Nat) (w : World), Below w0.heap.size w0 w → Below w0.heap.size w0 (setL N j vs w) := setL_below h0
theorem AppT.up {wr W w3 : World} {A : Ans} {t : Sp} {x : Nd} {an avl ax : Option Addr} {cn cvl cx : Nat} (h : AppT W w3 A t x an cn avl cvl ax cx) (hs : wr.heap.size ≤ W.heap.size) : AppT wr w3 A t x an cn avl cvl ax cx :=
  ⟨h.vn, h.vl, h.bv, ⟨h.made.same, h.made.node, h.made.rd, h.made.own.up hs, ⟨h.made.le.own, fun g hg => Nat.le_trans hs (h.made.le.new g hg)⟩, h.made.bl.up hs⟩⟩
theorem AppT.below {wr w3 w4 : World} {A : Ans} {t : Sp} {x : Nd} {an avl ax : Option Addr} {cn cvl cx : Nat} (h : AppT wr w3 A t x an cn avl cvl ax cx) (hb : Below w3.heap.size w3 w4) : AppT wr w4 A t x an cn avl cvl ax cx :=
  ⟨h.vn, h.vl, h.bv, ⟨h.made.same, h.made.node, h.made.rd.below hb, h.made.own.below hb, OwnL.below h.made.le hb, h.made.bl.below hb⟩⟩
theorem OwnX.setL {w : World} {N : Nat} {v : Value} {q : List Nd} (hn : v.ownBlock ≠ some N) (hb : ∀ x ∈ q, x.bv.ownBlock ≠ some N) : ∀ (vs : List Value) (j : Nat) (w' : World), OwnX w w' v q → OwnX w (Space.setL N j vs w') v q
  | [], _, _, h => h
  | u :: r, j, w', h => OwnX.setL hn hb r (j + 1) _ (OwnX.poke h hn hb)
theorem OwnL.setL {w : World} {N : Nat} {v : Value} {q : List Lease.Le} (hn : v.ownBlock ≠ some N) : ∀ (vs : List Value) (j : Nat) (w' : World), Lease.OwnL w w' v q → Lease.OwnL w (Space.setL N j vs w') v q
  | [], _, _, h => h
  | u :: r, j, w', h => OwnL.setL hn r (j + 1) _ (OwnL.poke h hn)
theorem AppT.set {wr w3 : World} {A : Ans} {t : Sp} {x : Nd} {an avl ax : Option Addr} {cn cvl cx g j : Nat} {cs : Array Value} {ty : TypeId} {vs : List Value} (h : AppT wr w3 A t x an cn avl cvl ax cx) (hg : w3.heap[g]? = some (.cells cs ty (0, 0))) (hty : 35 ≠ ty ∧ 49 ≠ ty ∧ 31 ≠ ty) : AppT wr (setL g j vs w3) A t x an cn avl cvl ax cx := by
  have hO := OwnX.setL (own_ne_blk h.made.own.own hg hty.1) (fun y hy => own_ne_blk (h.made.own.bl y hy).own hg hty.2.2) vs j w3 h.made.own
  have hL := OwnL.setL (own_ne_blk h.made.le.own hg hty.2.1) vs j w3 h.made.le
  have hB := OwnB.setL (w' := w3) (own_ne_blk h.made.bl.own hg hty.2.2) vs j w3 h.made.bl
  exact ⟨h.vn, h.vl, h.bv, ⟨h.made.same, h.made.node, ⟨hO.rd, Rd.of_own Lease.encL_len hL.own, h.made.rd.nn, h.made.rd.ln⟩, hO, hL, hB⟩⟩
/-- What a call of Apply leaves in the statement's two variables. -/
structure Told (wr wx : World) (A : Ans) (gt ga : Nat) (t : Sp) (x : Nd) (an : Option Addr) (cn : Nat) (avl : Option Addr) (cvl : Nat) (ax : Option Addr) (cx : Nat) : Prop where
  app : AppT wr wx A t x an cn avl cvl ax cx
  kt : wx.heap[gt]? = some (.cells #[.int .i64 t.txid, .int .i64 t.nb, .int .i64 t.ng, .int .i64 t.now, .slice an t.nodes.length cn, .slice avl t.leases.length cvl] 27 (0, 0))
  ka : wx.heap[ga]? = some (.cells #[.int .i64 A.err, .int .i64 A.b.id, .int .i64 A.b.gen, .int .i64 A.b.len, .slice none 0 0, .string x.path, .bool x.dir, .int .i64 x.quota, .slice ax x.blocks.length cx, .int .i64 x.writer, .int .i64 0] 37 (0, 0))
  base : Below wr.heap.size wr wx
  nt : wr.heap.size ≤ gt
  na : wr.heap.size ≤ ga
section
variable {wr w3 : World} {A : Ans} {t : Sp} {x : Nd} {an avl ax : Option Addr} {cn cvl cx : Nat}
theorem set6_is {w : World} {g : Nat} {u0 u1 u2 u3 u4 u5 : Value} (h : w.heap[g]? = some (.cells #[u0, u1, u2, u3, u4, u5] 27 (0, 0))) (v0 v1 v2 v3 v4 v5 : Value) : (setL g 0 [v0, v1, v2, v3, v4, v5] w).heap[g]? = some (.cells #[v0, v1, v2, v3, v4, v5] 27 (0, 0)) := by
  have h1 := setL_blk [v0, v1, v2, v3, v4, v5] 0 _ _ h
  simpa only [putL, Nat.reduceAdd, Nat.zero_add, List.setIfInBounds_toArray, List.set_cons_zero, List.set_cons_succ] using h1
theorem told_sa {gt ga : Nat} {u0 u1 u2 u3 u4 u5 v0 v1 v2 v3 v4 v5 v6 v7 v8 v9 v10 : Value} (hT : AppT wr w3 A t x an cn avl cvl ax cx) (hB : Below wr.heap.size wr w3) (kt : w3.heap[gt]? = some (.cells #[u0, u1, u2, u3, u4, u5] 27 (0, 0))) (ka : w3.heap[ga]? = some (.cells #[v0, v1, v2, v3, v4, v5, v6, v7, v8, v9, v10] 37 (0, 0)))
    (nt : wr.heap.size ≤ gt) (na : wr.heap.size ≤ ga) (hne : gt ≠ ga) : Told wr (setL ga 0 [.int .i64 A.err, .int .i64 A.b.id, .int .i64 A.b.gen, .int .i64 A.b.len, .slice none 0 0, .string x.path, .bool x.dir, .int .i64 x.quota, .slice ax x.blocks.length cx, .int .i64 x.writer, .int .i64 0] (setL gt 0 [.int .i64 t.txid, .int .i64 t.nb, .int .i64 t.ng, .int .i64 t.now, .slice an t.nodes.length cn, .slice avl t.leases.length cvl] w3)) A gt ga t x an cn avl cvl ax cx := by
  have h1 := hT.set (vs := [.int .i64 t.txid, .int .i64 t.nb, .int .i64 t.ng, .int .i64 t.now, .slice an t.nodes.length cn, .slice avl t.leases.length cvl]) (j := 0) kt (by decide)
  have k2 : (setL gt 0 [.int .i64 t.txid, .int .i64 t.nb, .int .i64 t.ng, .int .i64 t.now, .slice an t.nodes.length cn, .slice avl t.leases.length cvl] w3).heap[ga]? = _ := (setL_other (Ne.symm hne) _ _ _).trans ka
  exact ⟨h1.set k2 (by decide), (setL_other hne _ _ _).trans (set6_is kt _ _ _ _ _ _), ans_set k2 _ _ _ _ _ _ _ _ _ _ _, setL_below' na _ _ _ (setL_below' nt _ _ _ hB), nt, na⟩
theorem told_a {gt ga : Nat} {v0 v1 v2 v3 v4 v5 v6 v7 v8 v9 v10 : Value} (hT : AppT wr w3 A t x an cn avl cvl ax cx) (hB : Below wr.heap.size wr w3) (kt : w3.heap[gt]? = some (.cells #[.int .i64 t.txid, .int .i64 t.nb, .int .i64 t.ng, .int .i64 t.now, .slice an t.nodes.length cn, .slice avl t.leases.length cvl] 27 (0, 0))) (ka : w3.heap[ga]? = some (.cells #[v0, v1, v2, v3, v4, v5, v6, v7, v8, v9, v10] 37 (0, 0)))
    (nt : wr.heap.size ≤ gt) (na : wr.heap.size ≤ ga) (hne : gt ≠ ga) : Told wr (setL ga 0 [.int .i64 A.err, .int .i64 A.b.id, .int .i64 A.b.gen, .int .i64 A.b.len, .slice none 0 0, .string x.path, .bool x.dir, .int .i64 x.quota, .slice ax x.blocks.length cx, .int .i64 x.writer, .int .i64 0] w3) A gt ga t x an cn avl cvl ax cx :=
  ⟨hT.set ka (by decide), (setL_other hne _ _ _).trans kt, ans_set ka _ _ _ _ _ _ _ _ _ _ _, setL_below' na _ _ _ hB, nt, na⟩
/-- The orders in which the two variables may be made, beside the call. -/
theorem told1 (hT : AppT wr.drew w3 A t x an cn avl cvl ax cx) (hB : Below wr.heap.size wr w3) : Told wr ((w3.alloc (.cells #[.int .i64 t.txid, .int .i64 t.nb, .int .i64 t.ng, .int .i64 t.now, .slice an t.nodes.length cn, .slice avl t.leases.length cvl] 27 (0, 0))).alloc (.cells #[.int .i64 A.err, .int .i64 A.b.id, .int .i64 A.b.gen, .int .i64 A.b.len, .slice none 0 0, .string x.path, .bool x.dir, .int .i64 x.quota, .slice ax x.blocks.length cx, .int .i64 x.writer, .int .i64 0] 37 (0, 0))) A w3.heap.size (w3.heap.size + 1) t x an cn avl cvl ax cx := by
  obtain ⟨b, k1, k2⟩ := two_new w3 (.cells #[.int .i64 t.txid, .int .i64 t.nb, .int .i64 t.ng, .int .i64 t.now, .slice an t.nodes.length cn, .slice avl t.leases.length cvl] 27 (0, 0)) (.cells #[.int .i64 A.err, .int .i64 A.b.id, .int .i64 A.b.gen, .int .i64 A.b.len, .slice none 0 0, .string x.path, .bool x.dir, .int .i64 x.quota, .slice ax x.blocks.length cx, .int .i64 x.writer, .int .i64 0] 37 (0, 0))
  exact ⟨(AppT.up (wr := wr) hT (by simp)).below b, k1, k2, hB.trans (b.mono hB.size), hB.size, Nat.le_succ_of_le hB.size⟩
theorem told2 (hT : AppT wr.drew w3 A t x an cn avl cvl ax cx) (hB : Below wr.heap.size wr w3) : Told wr ((w3.alloc (.cells #[.int .i64 A.err, .int .i64 A.b.id, .int .i64 A.b.gen, .int .i64 A.b.len, .slice none 0 0, .string x.path, .bool x.dir, .int .i64 x.quota, .slice ax x.blocks.length cx, .int .i64 x.writer, .int .i64 0] 37 (0, 0))).alloc (.cells #[.int .i64 t.txid, .int .i64 t.nb, .int .i64 t.ng, .int .i64 t.now, .slice an t.nodes.length cn, .slice avl t.leases.length cvl] 27 (0, 0))) A (w3.heap.size + 1) w3.heap.size t x an cn avl cvl ax cx := by
  obtain ⟨b, k1, k2⟩ := two_new w3 (.cells #[.int .i64 A.err, .int .i64 A.b.id, .int .i64 A.b.gen, .int .i64 A.b.len, .slice none 0 0, .string x.path, .bool x.dir, .int .i64 x.quota, .slice ax x.blocks.length cx, .int .i64 x.writer, .int .i64 0] 37 (0, 0)) (.cells #[.int .i64 t.txid, .int .i64 t.nb, .int .i64 t.ng, .int .i64 t.now, .slice an t.nodes.length cn, .slice avl t.leases.length cvl] 27 (0, 0))
  exact ⟨(AppT.up (wr := wr) hT (by simp)).below b, k2, k1, hB.trans (b.mono hB.size), Nat.le_succ_of_le hB.size, hB.size⟩
theorem told3 {o : Obj} {u0 u1 u2 u3 u4 u5 v0 v1 v2 v3 v4 v5 v6 v7 v8 v9 v10 : Value} (hT : AppT (wr.alloc o).drew w3 A t x an cn avl cvl ax cx) (hB : Below wr.heap.size wr w3) (f : w3.heap[wr.heap.size]? = some (.cells #[u0, u1, u2, u3, u4, u5] 27 (0, 0))) :
    Told wr (setL w3.heap.size 0 [.int .i64 A.err, .int .i64 A.b.id, .int .i64 A.b.gen, .int .i64 A.b.len, .slice none 0 0, .string x.path, .bool x.dir, .int .i64 x.quota, .slice ax x.blocks.length cx, .int .i64 x.writer, .int .i64 0] (setL wr.heap.size 0 [.int .i64 t.txid, .int .i64 t.nb, .int .i64 t.ng, .int .i64 t.now, .slice an t.nodes.length cn, .slice avl t.leases.length cvl] (w3.alloc (.cells #[v0, v1, v2, v3, v4, v5, v6, v7, v8, v9, v10] 37 (0, 0))))) A wr.heap.size w3.heap.size t x an cn avl cvl ax cx := by
  have hl := lt_of_block f
  have b : Below w3.heap.size w3 (w3.alloc (.cells #[v0, v1, v2, v3, v4, v5, v6, v7, v8, v9, v10] 37 (0, 0))) := (Below.refl _ _).alloc (Nat.le_refl _) _
  exact told_sa ((hT.up (by simp)).below b) (hB.trans (b.mono hB.size)) ((heap_alloc_old _ _ hl).trans f) (heap_alloc_new _ _) (Nat.le_refl _) hB.size (Nat.ne_of_lt hl)
theorem told4 {o o' : Obj} {u0 u1 u2 u3 u4 u5 v0 v1 v2 v3 v4 v5 v6 v7 v8 v9 v10 : Value} (hT : AppT ((wr.alloc o).alloc o').drew w3 A t x an cn avl cvl ax cx) (hB : Below wr.heap.size wr w3) (f : w3.heap[wr.heap.size]? = some (.cells #[u0, u1, u2, u3, u4, u5] 27 (0, 0)) ∧ w3.heap[wr.heap.size + 1]? = some (.cells #[v0, v1, v2, v3, v4, v5, v6, v7, v8, v9, v10] 37 (0, 0))) :
    Told wr (setL (wr.heap.size + 1) 0 [.int .i64 A.err, .int .i64 A.b.id, .int .i64 A.b.gen, .int .i64 A.b.len, .slice none 0 0, .string x.path, .bool x.dir, .int .i64 x.quota, .slice ax x.blocks.length cx, .int .i64 x.writer, .int .i64 0] (setL wr.heap.size 0 [.int .i64 t.txid, .int .i64 t.nb, .int .i64 t.ng, .int .i64 t.now, .slice an t.nodes.length cn, .slice avl t.leases.length cvl] w3)) A wr.heap.size (wr.heap.size + 1) t x an cn avl cvl ax cx :=
  told_sa (hT.up (by simp; omega)) hB f.1 f.2 (Nat.le_refl _) (Nat.le_succ _) (Nat.ne_of_lt (Nat.lt_succ_self _))
theorem told5 {o : Obj} {v0 v1 v2 v3 v4 v5 v6 v7 v8 v9 v10 : Value} (hT : AppT (wr.alloc o).drew w3 A t x an cn avl cvl ax cx) (hB : Below wr.heap.size wr w3) (f : w3.heap[wr.heap.size]? = some (.cells #[v0, v1, v2, v3, v4, v5, v6, v7, v8, v9, v10] 37 (0, 0))) :
    Told wr (setL wr.heap.size 0 [.int .i64 A.err, .int .i64 A.b.id, .int .i64 A.b.gen, .int .i64 A.b.len, .slice none 0 0, .string x.path, .bool x.dir, .int .i64 x.quota, .slice ax x.blocks.length cx, .int .i64 x.writer, .int .i64 0] (w3.alloc (.cells #[.int .i64 t.txid, .int .i64 t.nb, .int .i64 t.ng, .int .i64 t.now, .slice an t.nodes.length cn, .slice avl t.leases.length cvl] 27 (0, 0)))) A w3.heap.size wr.heap.size t x an cn avl cvl ax cx := by
  have hl := lt_of_block f
  have b : Below w3.heap.size w3 (w3.alloc (.cells #[.int .i64 t.txid, .int .i64 t.nb, .int .i64 t.ng, .int .i64 t.now, .slice an t.nodes.length cn, .slice avl t.leases.length cvl] 27 (0, 0))) := (Below.refl _ _).alloc (Nat.le_refl _) _
  exact told_a ((hT.up (by simp)).below b) (hB.trans (b.mono hB.size)) (heap_alloc_new _ _) ((heap_alloc_old _ _ hl).trans f) hB.size (Nat.le_refl _) (Ne.symm (Nat.ne_of_lt hl))
theorem told6 {o o' : Obj} {u0 u1 u2 u3 u4 u5 v0 v1 v2 v3 v4 v5 v6 v7 v8 v9 v10 : Value} (hT : AppT ((wr.alloc o).alloc o').drew w3 A t x an cn avl cvl ax cx) (hB : Below wr.heap.size wr w3) (f : w3.heap[wr.heap.size]? = some (.cells #[v0, v1, v2, v3, v4, v5, v6, v7, v8, v9, v10] 37 (0, 0)) ∧ w3.heap[wr.heap.size + 1]? = some (.cells #[u0, u1, u2, u3, u4, u5] 27 (0, 0))) :
    Told wr (setL wr.heap.size 0 [.int .i64 A.err, .int .i64 A.b.id, .int .i64 A.b.gen, .int .i64 A.b.len, .slice none 0 0, .string x.path, .bool x.dir, .int .i64 x.quota, .slice ax x.blocks.length cx, .int .i64 x.writer, .int .i64 0] (setL (wr.heap.size + 1) 0 [.int .i64 t.txid, .int .i64 t.nb, .int .i64 t.ng, .int .i64 t.now, .slice an t.nodes.length cn, .slice avl t.leases.length cvl] w3)) A (wr.heap.size + 1) wr.heap.size t x an cn avl cvl ax cx :=
  told_sa (hT.up (by simp; omega)) hB f.2 f.1 (Nat.le_succ _) (Nat.le_refl _) (Ne.symm (Nat.ne_of_lt (Nat.lt_succ_self _)))
end
theorem old_two {wr W : World} {g bx : Nat} (h : Below wr.heap.size wr W) (hg : g < wr.heap.size) (hb : bx < wr.heap.size) : (∀ j, W.cell? ⟨g, j, none⟩ = wr.cell? ⟨g, j, none⟩) ∧ (∀ j, W.cell? ⟨bx, j, none⟩ = wr.cell? ⟨bx, j, none⟩) := ⟨fun j => h.cell (p := ⟨g, j, none⟩) hg, fun j => h.cell (p := ⟨bx, j, none⟩) hb⟩
theorem below_call {wr W w3 : World} (h3 : Below W.heap.size W w3) (h : Below wr.heap.size wr W) : Below wr.heap.size wr w3 := h.trans (h3.mono h.size)
theorem keepT1 {W w3 : World} {o1 : Obj} (h : Below (W.alloc o1).drew.heap.size (W.alloc o1).drew w3) : w3.heap[W.heap.size]? = some o1 := (h.block _ (by simp)).trans (heap_alloc_new W o1)
theorem keepT2 {W w3 : World} {o1 o2 : Obj} (h : Below ((W.alloc o1).alloc o2).drew.heap.size ((W.alloc o1).alloc o2).drew w3) : w3.heap[W.heap.size]? = some o1 ∧ w3.heap[W.heap.size + 1]? = some o2 := by
  have h1 := heap_alloc_new (W.alloc o1) o2
  have h2 : (W.alloc o1).heap.size = W.heap.size + 1 := by simp
  rw [h2] at h1
  exact ⟨(h.block _ (by simp; omega)).trans ((heap_alloc_old _ _ (by simp)).trans (heap_alloc_new W o1)), (h.block _ (by simp)).trans h1⟩
theorem frz6 {w : World} {N : Nat} {u0 u1 u2 u3 u4 u5 : Value} {t : TypeId} (h : w.heap[N]? = some (.cells #[u0, u1, u2, u3, u4, u5] t (0, 0))) : (w.frozen? ⟨N, 0, none⟩ = false ∧ w.frozen? ⟨N, 1, none⟩ = false ∧ w.frozen? ⟨N, 2, none⟩ = false ∧ w.frozen? ⟨N, 3, none⟩ = false ∧ w.frozen? ⟨N, 4, none⟩ = false ∧ w.frozen? ⟨N, 5, none⟩ = false) ∧ (w.cell? ⟨N, 0, none⟩ = some u0 ∧ w.cell? ⟨N, 1, none⟩ = some u1 ∧ w.cell? ⟨N, 2, none⟩ = some u2 ∧ w.cell? ⟨N, 3, none⟩ = some u3 ∧ w.cell? ⟨N, 4, none⟩ = some u4 ∧ w.cell? ⟨N, 5, none⟩ = some u5) ∧ ((∀ o, (w.alloc o).frozen? ⟨N, 0, none⟩ = false) ∧ (∀ o, (w.alloc o).frozen? ⟨N, 1, none⟩ = false) ∧ (∀ o, (w.alloc o).frozen? ⟨N, 2, none⟩ = false) ∧ (∀ o, (w.alloc o).frozen? ⟨N, 3, none⟩ = false) ∧ (∀ o, (w.alloc o).frozen? ⟨N, 4, none⟩ = false) ∧ (∀ o, (w.alloc o).frozen? ⟨N, 5, none⟩ = false)) ∧ (∀ o, (w.alloc o).cell? ⟨N, 0, none⟩ = some u0) ∧ (∀ o, (w.alloc o).cell? ⟨N, 1, none⟩ = some u1) ∧ (∀ o, (w.alloc o).cell? ⟨N, 2, none⟩ = some u2) ∧ (∀ o, (w.alloc o).cell? ⟨N, 3, none⟩ = some u3) ∧ (∀ o, (w.alloc o).cell? ⟨N, 4, none⟩ = some u4) ∧ (∀ o, (w.alloc o).cell? ⟨N, 5, none⟩ = some u5) :=
  have h2 := fun o => (heap_alloc_old w o (lt_of_block h)).trans h
  ⟨⟨free_of_blk h, free_of_blk h, free_of_blk h, free_of_blk h, free_of_blk h, free_of_blk h⟩, ⟨cell_of_blk h, cell_of_blk h, cell_of_blk h, cell_of_blk h, cell_of_blk h, cell_of_blk h⟩, ⟨fun o => free_of_blk (h2 o), fun o => free_of_blk (h2 o), fun o => free_of_blk (h2 o), fun o => free_of_blk (h2 o), fun o => free_of_blk (h2 o), fun o => free_of_blk (h2 o)⟩, fun o => cell_of_blk (h2 o), fun o => cell_of_blk (h2 o), fun o => cell_of_blk (h2 o), fun o => cell_of_blk (h2 o), fun o => cell_of_blk (h2 o), fun o => cell_of_blk (h2 o)⟩
theorem frz11 {w : World} {N : Nat} {u0 u1 u2 u3 u4 u5 u6 u7 u8 u9 u10 : Value} {t : TypeId} (h : w.heap[N]? = some (.cells #[u0, u1, u2, u3, u4, u5, u6, u7, u8, u9, u10] t (0, 0))) : (w.frozen? ⟨N, 0, none⟩ = false ∧ w.frozen? ⟨N, 1, none⟩ = false ∧ w.frozen? ⟨N, 2, none⟩ = false ∧ w.frozen? ⟨N, 3, none⟩ = false ∧ w.frozen? ⟨N, 4, none⟩ = false ∧ w.frozen? ⟨N, 5, none⟩ = false ∧ w.frozen? ⟨N, 6, none⟩ = false ∧ w.frozen? ⟨N, 7, none⟩ = false ∧ w.frozen? ⟨N, 8, none⟩ = false ∧ w.frozen? ⟨N, 9, none⟩ = false ∧ w.frozen? ⟨N, 10, none⟩ = false) ∧ (w.cell? ⟨N, 0, none⟩ = some u0 ∧ w.cell? ⟨N, 1, none⟩ = some u1 ∧ w.cell? ⟨N, 2, none⟩ = some u2 ∧ w.cell? ⟨N, 3, none⟩ = some u3 ∧ w.cell? ⟨N, 4, none⟩ = some u4 ∧ w.cell? ⟨N, 5, none⟩ = some u5 ∧ w.cell? ⟨N, 6, none⟩ = some u6 ∧ w.cell? ⟨N, 7, none⟩ = some u7 ∧ w.cell? ⟨N, 8, none⟩ = some u8 ∧ w.cell? ⟨N, 9, none⟩ = some u9 ∧ w.cell? ⟨N, 10, none⟩ = some u10) ∧ ((∀ o, (w.alloc o).frozen? ⟨N, 0, none⟩ = false) ∧ (∀ o, (w.alloc o).frozen? ⟨N, 1, none⟩ = false) ∧ (∀ o, (w.alloc o).frozen? ⟨N, 2, none⟩ = false) ∧ (∀ o, (w.alloc o).frozen? ⟨N, 3, none⟩ = false) ∧ (∀ o, (w.alloc o).frozen? ⟨N, 4, none⟩ = false) ∧ (∀ o, (w.alloc o).frozen? ⟨N, 5, none⟩ = false) ∧ (∀ o, (w.alloc o).frozen? ⟨N, 6, none⟩ = false) ∧ (∀ o, (w.alloc o).frozen? ⟨N, 7, none⟩ = false) ∧ (∀ o, (w.alloc o).frozen? ⟨N, 8, none⟩ = false) ∧ (∀ o, (w.alloc o).frozen? ⟨N, 9, none⟩ = false) ∧ (∀ o, (w.alloc o).frozen? ⟨N, 10, none⟩ = false)) ∧ (∀ o, (w.alloc o).cell? ⟨N, 0, none⟩ = some u0) ∧ (∀ o, (w.alloc o).cell? ⟨N, 1, none⟩ = some u1) ∧ (∀ o, (w.alloc o).cell? ⟨N, 2, none⟩ = some u2) ∧ (∀ o, (w.alloc o).cell? ⟨N, 3, none⟩ = some u3) ∧ (∀ o, (w.alloc o).cell? ⟨N, 4, none⟩ = some u4) ∧ (∀ o, (w.alloc o).cell? ⟨N, 5, none⟩ = some u5) ∧ (∀ o, (w.alloc o).cell? ⟨N, 6, none⟩ = some u6) ∧ (∀ o, (w.alloc o).cell? ⟨N, 7, none⟩ = some u7) ∧ (∀ o, (w.alloc o).cell? ⟨N, 8, none⟩ = some u8) ∧ (∀ o, (w.alloc o).cell? ⟨N, 9, none⟩ = some u9) ∧ (∀ o, (w.alloc o).cell? ⟨N, 10, none⟩ = some u10) :=
  have h2 := fun o => (heap_alloc_old w o (lt_of_block h)).trans h
  ⟨⟨free_of_blk h, free_of_blk h, free_of_blk h, free_of_blk h, free_of_blk h, free_of_blk h, free_of_blk h, free_of_blk h, free_of_blk h, free_of_blk h, free_of_blk h⟩, ⟨cell_of_blk h, cell_of_blk h, cell_of_blk h, cell_of_blk h, cell_of_blk h, cell_of_blk h, cell_of_blk h, cell_of_blk h, cell_of_blk h, cell_of_blk h, cell_of_blk h⟩, ⟨fun o => free_of_blk (h2 o), fun o => free_of_blk (h2 o), fun o => free_of_blk (h2 o), fun o => free_of_blk (h2 o), fun o => free_of_blk (h2 o), fun o => free_of_blk (h2 o), fun o => free_of_blk (h2 o), fun o => free_of_blk (h2 o), fun o => free_of_blk (h2 o), fun o => free_of_blk (h2 o), fun o => free_of_blk (h2 o)⟩, fun o => cell_of_blk (h2 o), fun o => cell_of_blk (h2 o), fun o => cell_of_blk (h2 o), fun o => cell_of_blk (h2 o), fun o => cell_of_blk (h2 o), fun o => cell_of_blk (h2 o), fun o => cell_of_blk (h2 o), fun o => cell_of_blk (h2 o), fun o => cell_of_blk (h2 o), fun o => cell_of_blk (h2 o), fun o => cell_of_blk (h2 o)⟩
end Go.Proofs.YtdfckkadmgmcaaaGreatDoor.Space
