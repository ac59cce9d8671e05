/- Trees (chapter 7): the document's Move. -/
import Derived.Test.YtpghaghmejgjbaaGreatDoorUp
import Derived.Test.YtpghaghmejgjbaaGreatDoorPw
namespace Go.Proofs.YtpghaghmejgjbaaGreatDoor.Tree
open Go.RowKit
open Path (Bs bs mk bs_mk mk_bs tl_bs splitE splitL MaxC parD parE parN underL moveE moveS)
set_option linter.unusedSimpArgs false
set_option linter.unusedVariables false

theorem sortd_snoc (l : List Nd) (x : Nd) : sortd (l ++ [x]) = ins x (sortd l) := by rw [sortd, List.foldl_append]; rfl
theorem mvD_snoc {l : List Nd} {a b : Bs} {k : Nat} {x : Nd} (hx : l[k]? = some x) : mvD (l.take (k + 1)) a b = mvD (l.take k) a b ++ (if mvK a b x = true then [mvN a b x] else []) := by
  rw [mvD, mvD, List.take_add_one, hx]
  simp only [Option.toList_some, List.filter_append, List.map_append]
  congr 1
  rw [List.filter_cons]
  split <;> rfl
theorem mv_len (l : List Nd) (a b : Bs) (k : Nat) : (sortd (mvD (l.take k) a b)).length ≤ k := by
  rw [(sortd_perm _).length_eq, mvD, List.length_map]
  exact Nat.le_trans (List.length_filter_le _ _) (by rw [List.length_take]; omega)
/-- The place of b is just where its path is. -/
theorem place {l : List Nd} (h : rightT l = true) {b : Bs} {k : Nat} {x : Nd} (hx : l[k]? = some x) : ((k : Int) == findI b l) = decide (bs x.path = b) := by
  by_cases e : bs x.path = b
  · rw [decide_eq_true e]
    rcases find_facts b l with ⟨h1, h2⟩ | ⟨i, y, h1, h2, h3⟩
    · exact absurd e (find_none.1 (by rw [h1]; omega) x (List.mem_of_getElem? hx))
    · have hp := List.find?_some h3
      have := rises_inj (right_rises h) h2 hx (by rw [e]; simpa using hp)
      rw [h1, this]; simp
  · rw [decide_eq_false e]
    rcases find_facts b l with ⟨h1, h2⟩ | ⟨i, y, h1, h2, h3⟩
    · rw [h1]; exact beq_false_of_ne (by omega)
    · rw [h1]
      refine beq_false_of_ne fun h => ?_
      have : k = i := by omega
      subst this
      rw [hx] at h2
      cases h2
      have hp := List.find?_some h3
      exact e (by simpa using hp)
theorem clash_ways (l : List Nd) (b : Bs) (x : Nd) : (findI b l = -1 ∧ clash l b x = false) ∨ (∃ (j : Nat) (y : Nd), findI b l = j ∧ l[j]? = some y ∧ clash l b x = (x.dir || y.dir)) := by
  rw [clash]
  rcases find_facts b l with ⟨h1, h2⟩ | ⟨j, y, h1, h2, h3⟩
  · exact .inl ⟨h1, by rw [h2]⟩
  · exact .inr ⟨j, y, h1, h2, by rw [h3]⟩
set_option maxRecDepth 8000 in
set_option maxHeartbeats 16000000 in
theorem rmove_callsT (w : World) (v : Value) (l : List Nd) (p q : ByteArray) (h : RdN w v l) (hn : l.length ≤ 8796093022208) :
    Calls Tryz.prog 30 #[v, .string p, .string q] w (ResX w (mvE l (bs p) (bs q)) (mvL l (bs p) (bs q))) := by
  have hri := fun W (hW : Below w.heap.size w W) => rright_calls W v l (h.below hW) hn
  have hpa := fun W s => rpath_calls W s
  have hfd := fun W (hW : Below w.heap.size w W) s => rfind_calls W v l s (h.below hW).rd hn
  have hun := fun W a b => Path.runder_calls W a b
  have hdr := fun W (hW : Below w.heap.size w W) => rdir_calls W v l q (h.below hW) hn
  have hmv := fun W s => Path.rmove_calls W s p q
  have hpu := fun (hb : ∀ y ∈ l, y.blocks.length ≤ 8) W u (m : List Nd) (x y : Nd) (hx : x ∈ l) (e1 : y.bv = x.bv) (e2 : y.blocks = x.blocks) (hW : Below w.heap.size w W) hO hs hl h0 => put_calls w W u m y hO hs hl (by rw [e1, e2]; exact (h.bl x hx).below hW (Nat.le_refl _)) (by rw [e2]; have := hb x hx; omega) h0
  have hbvs : ∀ x ∈ l, ∃ ao cap, x.bv = .slice ao x.blocks.length cap := fun x hx => bv_slice (h.bl x hx)
  obtain ⟨ao, cap, rfl, _, _, hcell⟩ := rd_cellsN h.rd
  have hR := fun (h : rightT l = true) => right_len h
  have hB := fun (h : rightT l = true) y hy => right_blocks h (x := y) hy
  have hslp : (p.toList == [47]) = decide (bs p = [47]) := by rw [tl_bs]; by_cases h : bs p = [47] <;> simp [h]
  have hslq : (q.toList == [47]) = decide (bs q = [47]) := by rw [tl_bs]; by_cases h : bs q = [47] <;> simp [h]
  have hE : ¬ (rightT l = true ∧ splitE (bs p) = 0 ∧ splitE (bs q) = 0 ∧ bs p ≠ [47] ∧ bs q ≠ [47] ∧ underL (bs p) (bs q) = false) → mvE l (bs p) (bs q) = 1 := fun h => by rw [mvE, if_neg h]
  have hE1 : (rightT l = true ∧ splitE (bs p) = 0 ∧ splitE (bs q) = 0 ∧ bs p ≠ [47] ∧ bs q ≠ [47] ∧ underL (bs p) (bs q) = false) → mvE l (bs p) (bs q) = match l.find? fun x => bs x.path == bs p with
      | none => 5
      | some x => if dirE l (bs q) ≠ 0 then dirE l (bs q) else if clash l (bs q) x = true then 6 else if l.any (mvBad (bs p) (bs q)) = true then 4 else 0 := fun h => by
    rw [mvE, if_pos h]
    try rfl
  have dp : decide (splitE (bs p) = 0) = true ↔ splitE (bs p) = 0 := decide_eq_true_iff
  have dq : decide (splitE (bs q) = 0) = true ↔ splitE (bs q) = 0 := decide_eq_true_iff
  have hpp := fun W => hpa W p
  have hpq := fun W => hpa W q
  have huu := fun W => hun W p q
  generalize hdp : decide (splitE (bs p) = 0) = d1 at *
  generalize hdq : decide (splitE (bs q) = 0) = d2 at *
  have Hri := Lib.hid hri; have Hpp := Lib.hid hpp; have Hpq := Lib.hid hpq; have Huu := Lib.hid huu; have Hfd := Lib.hid hfd; have Hun := Lib.hid hun; have Hdr := Lib.hid hdr; have Hmv := Lib.hid hmv; have Hpu := Lib.hid hpu; have Hbvs := Lib.hid hbvs; have Hcell := Lib.hid hcell; have HR := Lib.hid hR; have HB := Lib.hid hB; have Hslp := Lib.hid hslp; have Hslq := Lib.hid hslq; have HE := Lib.hid hE; have HE1 := Lib.hid hE1; have Dp := Lib.hid dp; have Dq := Lib.hid dq
  clear hri hpp hpq huu hfd hun hdr hmv hpu hbvs hcell hR hB hslp hslq hE hE1 dp dq hdp hdq hpa h
  go_enter Tryz.func30, Tryz.ntmps30
  go_wp2_with (fail)
  refine (Hri.out w (Below.refl _ _)).mono ?_
  rintro e w1 ⟨rfl, b1⟩
  go_wp2_with (fail)
  refine (Hpp.out w1).mono ?_
  rintro e w2 ⟨rfl, b2⟩
  have B2 := b1.trans (b2.mono b1.size)
  go_wp2_with (fail)
  refine (Hpq.out w2).mono ?_
  rintro e w3 ⟨rfl, b3⟩
  have B3 := B2.trans (b3.mono B2.size)
  go_wp2_with (fail)
  refine (Huu.out w3).mono ?_
  rintro e w5 ⟨rfl, b5⟩
  have B5 := B3.trans (b5.mono B3.size)
  cases hr : rightT l
  · have hE := HE.out (fun h => by rw [hr] at h; cases h.1)
    clear hr
    (go_wp2_with (fail)); go_ret2; rw [hE]; exact ResX.no (E := 1) (by decide) B5
  cases d1
  · have hE := HE.out (fun h => by have := Dp.out.2 h.2.1; cases this)
    clear hr
    (go_wp2_with (fail)); go_ret2; rw [hE]; exact ResX.no (E := 1) (by decide) B5
  cases d2
  · have hE := HE.out (fun h => by have := Dq.out.2 h.2.2.1; cases this)
    clear hr
    (go_wp2_with (fail)); go_ret2; rw [hE]; exact ResX.no (E := 1) (by decide) B5
  cases hp : (p.toList == [47])
  rotate_left
  · have hE := HE.out (fun h => by have := Hslp.out; rw [hp] at this; simp [h.2.2.2.1] at this)
    clear hr
    (go_wp2_with (fail)); go_ret2; rw [hE]; exact ResX.no (E := 1) (by decide) B5
  cases hq : (q.toList == [47])
  rotate_left
  · have hE := HE.out (fun h => by have := Hslq.out; rw [hq] at this; simp [h.2.2.2.2.1] at this)
    clear hr
    (go_wp2_with (fail)); go_ret2; rw [hE]; exact ResX.no (E := 1) (by decide) B5
  cases hu : underL (bs p) (bs q)
  rotate_left
  · have hE := HE.out (fun h => by rw [hu] at h; cases h.2.2.2.2.2)
    clear hr hu
    (go_wp2_with (fail)); go_ret2; rw [hE]; exact ResX.no (E := 1) (by decide) B5
  have hp47 : bs p ≠ [47] := fun e => by have := Hslp.out; rw [hp, e] at this; simp at this
  have hq47 : bs q ≠ [47] := fun e => by have := Hslq.out; rw [hq, e] at this; simp at this
  have HF := Lib.hid (HE1.out ⟨hr, Dp.out.1 rfl, Dq.out.1 rfl, hp47, hq47, hu⟩)
  have hl60 := HR.out hr
  have Hpub := Lib.hid (Hpu.out (HB.out hr))
  have Hr := Lib.hid hr; have Hu := Lib.hid hu
  clear HE HE1 hr hu hp47 hq47 Hpu
  have hfd := Hfd.out w5 B5 p
  have hff := Lib.hid (find_facts (bs p) l)
  generalize hI : findI (bs p) l = I at *
  clear hI
  go_wp2_with (fail)
  refine hfd.mono ?_
  rintro e w6 ⟨rfl, b6⟩
  have B6 := B5.trans (b6.mono B5.size)
  clear hfd
  rcases hff.out with ⟨rfl, h2⟩ | ⟨i, x0, rfl, h2, h3⟩
  · have hE : mvE l (bs p) (bs q) = 5 := by rw [HF.out, h2]
    clear h2
    go_wp2_with (fail)
    go_ret2
    rw [hE]
    exact ResX.no (E := 5) (by decide) B6
  have HF1 := Lib.hid (HF.out.trans (by rw [h3]))
  have hil := (List.getElem?_eq_some_iff.1 h2).1
  have Hx0 := Lib.hid h2
  clear h2 h3 hff
  have hlt : decide ((i : Int) < 0) = false := decide_eq_false (by omega)
  have hdr := Hdr.out w6 B6
  generalize hD : dirE l (bs q) = D at *
  clear hD
  go_wp2_with (fail)
  refine hdr.mono ?_
  rintro e w7 ⟨rfl, b7⟩
  have B7 := B6.trans (b7.mono B6.size)
  clear hdr
  by_cases hD0 : D = 0
  rotate_left
  · have hne : (D != 0) = true := by simpa using hD0
    have hE : mvE l (bs p) (bs q) = D := HF1.out.trans (if_pos hD0)
    have HD0 := Lib.hid hD0
    clear hD0
    go_wp2_with (fail)
    go_ret2
    rw [hE]
    exact ResX.no HD0.out B7
  have HF2 := Lib.hid (HF1.out.trans (if_neg (fun h => h hD0)))
  subst hD0
  have hfq := Hfd.out w7 B7 q
  have hcw := Lib.hid (clash_ways l (bs q) x0)
  have hpl := fun k x hx => place Hr.out (b := bs q) (k := k) (x := x) hx
  have Hpl := Lib.hid hpl
  clear hpl
  generalize hK : findI (bs q) l = K at *
  clear hK
  go_wp2_with (fail)
  refine hfq.mono ?_
  rintro e w8 ⟨rfl, b8⟩
  have B8 := B7.trans (b8.mono B7.size)
  clear hfq
  obtain ⟨b0', off0', rfl, _, _⟩ := Hcell.out w (Below.refl _ _) i x0 Hx0.out
  have hxc := Hcell.out w8 B8 i x0 Hx0.out
  obtain ⟨b', off', he, _, c0, c1, c2, c3, c4⟩ := hxc
  simp only [Option.some.injEq, Addr.mk.injEq, and_true] at he
  obtain ⟨rfl, rfl⟩ := he
  clear c0 c2 c3 c4
  rcases hcw.out with ⟨rfl, HC⟩ | ⟨j, y, rfl, hy, HC⟩
  · have HF3 := Lib.hid (HF2.out.trans (if_neg (by rw [HC]; simp)))
    clear HC
    (generalize hm : l.length = m at *); (have Hm := Lib.hid hm); (clear hm); (go_wp2_with (fail)); (go_loopw [15, 16, 17, 18, 19, 20] (fun vo vk _ _ _ _ wr => ∃ k : Nat, vk = .int .i64 k ∧ k ≤ m ∧ (∃ s, OwnX w wr vo s ∧ s.map pur = (sortd (mvD (l.take k) (bs p) (bs q))).map pur) ∧ (l.take k).any (mvBad (bs p) (bs q)) = false ∧ Below w.heap.size w wr) (fun _ vk _ _ _ _ _ => m - (intOf vk).toNat)); (case atStart => exact ⟨0, rfl, Nat.zero_le _, ⟨[], OwnX.nil _ _, rfl⟩, rfl, B8⟩); (case round => (obtain ⟨k, rfl, hk, ⟨s, hO, hs⟩, hbad, hb⟩ := hrel); (have hsl : s.length ≤ k := by rw [len_pur hs]; exact mv_len l _ _ k); (have HO := Lib.hid hO); (have Hs := Lib.hid hs); (have Hbad := Lib.hid hbad); (clear hO hs hbad); (by_cases hlt : k < m); (focus ((obtain ⟨x, hx⟩ : ∃ x, l[k]? = some x := ⟨l[k]'(by rw [Hm.out]; exact hlt), by rw [List.getElem?_eq_getElem]⟩); (obtain ⟨b', off', he', _, d0, d1, d2, d3, d4⟩ := Hcell.out wr hb k x hx); (simp only [Option.some.injEq, Addr.mk.injEq, and_true] at he'); (obtain ⟨rfl, rfl⟩ := he'); (have hxm := List.mem_of_getElem? hx); (obtain ⟨ax, cx, hbvx⟩ := Hbvs.out x hxm); (rw [hbvx] at d3); (have hplx := Hpl.out k x hx); (have hany := any_take (f := mvBad (bs p) (bs q)) hx); (rw [Hbad.out, Bool.false_or] at hany); (have Hsn := Lib.hid (mvD_snoc (a := bs p) (b := bs q) hx)); (have Hany := Lib.hid hany); (have Hx := Lib.hid hx); (have Hxm := Lib.hid hxm); (have Hbv := Lib.hid hbvx); (clear hx hxm hbvx hany); (cases hdd : decide (bs x.path = bs q)); (focus ((rw [hdd] at hplx); (have hnb : ¬ bs x.path = bs q := of_decide_eq_false hdd); (have Hnb := Lib.hid hnb); (clear hnb hdd); (have hu := fun W => Hun.out W p x.path); (have bA : Below w.heap.size w (wr.alloc (.cells #[.string x.path, .bool x.dir, .int .i64 x.quota, .slice ax x.blocks.length cx, .int .i64 x.writer] 25 (0, 0))) := hb.alloc hb.size _); (have HbA := Lib.hid bA); (have nA := Lib.hid (heap_alloc_new wr (.cells #[.string x.path, .bool x.dir, .int .i64 x.quota, .slice ax x.blocks.length cx, .int .i64 x.writer] 25 (0, 0)))); (clear bA); (cases huu : underL (bs p) (bs x.path)); (focus ((rw [huu] at hu); (have Huu := Lib.hid huu); (clear huu); (have Hu := Lib.hid hu); (clear hu); (go_wp2_with (fail)); (refine (Hu.out _).mono ?_); (rintro e w9 ⟨rfl, b9⟩); (clear d0 d1 d2 d3 d4); (have b9' : Below w.heap.size w w9 := HbA.out.trans (b9.mono HbA.out.size)); (have bwr : Below wr.heap.size wr w9 := ((Below.refl _ _).alloc (Nat.le_refl _) (.cells #[.string x.path, .bool x.dir, .int .i64 x.quota, .slice ax x.blocks.length cx, .int .i64 x.writer] 25 (0, 0))).trans (b9.mono (by simp))); (obtain ⟨c0, c1, c2, c3, c4⟩ := blk5c ((b9.block _ (lt_of_block nA.out)).trans nA.out)); (have hpc := Hpub.out w9 _ s x x Hxm.out rfl rfl b9' (HO.out.below bwr) (sorted_pur Hs.out (sortd_sorted _)) (by omega) b9'.size); (simp only [Hbv.out] at hpc); (have Hpc := Lib.hid hpc); (clear hpc); (go_wp2_with (fail)); (refine Hpc.out.mono ?_); (rintro e w10 ⟨⟨v10, s10, rfl, hO10, hs10⟩, b10⟩); (go_wp2_with (fail)); (go_roundw); (case rel => exact ⟨k + 1, by go_num, by omega, ⟨s10, hO10, by rw [hs10, ins_same Hs.out, Hsn.out, if_pos (Mv.keeps (l := l) Hnb.out), sortd_snoc, mvN_no Huu.out]⟩, by rw [← Hany.out, mvBad, Huu.out]; rfl, b9'.trans (b10.mono b9'.size)⟩); (case measure => simp [intOf]; omega))); (focus ((rw [huu] at hu); (have Huu := Lib.hid huu); (clear huu); (have Hu := Lib.hid hu); (clear hu); (have hmv := fun W => Hmv.out W x.path); (have hE2 : mvBad (bs p) (bs q) x = decide (moveE (bs x.path) (bs p) (bs q) ≠ 0) := by rw [mvBad, Huu.out, Bool.true_and]); (have hN2 : mvN (bs p) (bs q) x = { x with path := mk (moveS (bs x.path) (bs p) (bs q)) } := by rw [mvN, if_pos Huu.out]); (have hmv' : ∀ W, Calls Tryz.prog 61 #[.string x.path, .string p, .string q] W fun e w' => e = .returned (.tuple #[.string (mk (moveS (bs x.path) (bs p) (bs q))), .int .i64 (moveE (bs x.path) (bs p) (bs q))]) ∧ Below W.heap.size W w' := hmv); (clear hmv); (generalize moveE (bs x.path) (bs p) (bs q) = E2 at *); (generalize mk (moveS (bs x.path) (bs p) (bs q)) = S2 at *); (have Hmv' := Lib.hid hmv'); (have HE2 := Lib.hid hE2); (have HN2 := Lib.hid hN2); (clear hmv' hE2 hN2); (go_wp2_with (fail)); (refine (Hu.out _).mono ?_); (rintro e w9 ⟨rfl, b9⟩); (clear d0 d1 d2 d3 d4); (have b9' : Below w.heap.size w w9 := HbA.out.trans (b9.mono HbA.out.size)); (have bwr : Below wr.heap.size wr w9 := ((Below.refl _ _).alloc (Nat.le_refl _) (.cells #[.string x.path, .bool x.dir, .int .i64 x.quota, .slice ax x.blocks.length cx, .int .i64 x.writer] 25 (0, 0))).trans (b9.mono (by simp))); (have n9 := Lib.hid ((b9.block _ (lt_of_block nA.out)).trans nA.out)); (obtain ⟨c0, c1, c2, c3, c4⟩ := blk5c n9.out); (go_wp2_with (fail)); (refine (Hmv'.out w9).mono ?_); (rintro e w10 ⟨rfl, b10⟩); (clear c0 c1 c2 c3 c4); (have b10' : Below w.heap.size w w10 := b9'.trans (b10.mono b9'.size)); (have bwr2 : Below wr.heap.size wr w10 := bwr.trans (b10.mono bwr.size)); (have n10 := Lib.hid ((b10.block _ (lt_of_block n9.out)).trans n9.out)); (obtain ⟨c0, c1, c2, c3, c4⟩ := blk5c n10.out); (have z0 : w10.frozen? ⟨wr.heap.size, 0, none⟩ = false := free_of_blk n10.out); (by_cases h20 : E2 = 0); (focus ((subst h20); (have bS : Below w.heap.size w (w10.setCell ⟨wr.heap.size, 0, none⟩ (.string S2)) := b10'.setCell hb.size _); (have bwS : Below wr.heap.size wr (w10.setCell ⟨wr.heap.size, 0, none⟩ (.string S2)) := bwr2.setCell (Nat.le_refl _) _); (have hpc := Hpub.out _ _ s x { x with path := S2 } Hxm.out rfl rfl bS (HO.out.below bwS) (sorted_pur Hs.out (sortd_sorted _)) (by omega) bS.size); (simp only [Hbv.out] at hpc); (have Hpc := Lib.hid hpc); (have BS := Lib.hid bS); (clear hpc bS bwS); (go_wp2_with (fail)); (refine Hpc.out.mono ?_); (rintro e w11 ⟨⟨v11, s11, rfl, hO11, hs11⟩, b11⟩); (go_wp2_with (fail)); (go_roundw); (case rel => exact ⟨k + 1, by go_num, by omega, ⟨s11, hO11, by rw [hs11, ins_same Hs.out, Hsn.out, if_pos (mvK_up Huu.out), sortd_snoc, HN2.out, Hbv.out]⟩, by rw [← Hany.out, HE2.out]; rfl, BS.out.trans (b11.mono BS.out.size)⟩); (case measure => simp [intOf]; omega))); (focus ((have hne : (E2 != 0) = true := by simpa using h20); (have hany : l.any (mvBad (bs p) (bs q)) = true := List.any_eq_true.2 ⟨x, Hxm.out, by rw [HE2.out]; simpa using h20⟩); (have hE : mvE l (bs p) (bs q) = 4 := HF3.out.trans (if_pos hany)); (have HE4 := Lib.hid hE); (clear hE hany h20); (go_wp2_with (fail)); go_ret2; rw [HE4.out]; exact ResX.no (E := 4) (by decide) b10')))))); (focus ((rw [hdd] at hplx); (have heb : bs x.path = bs q := of_decide_eq_true hdd); (have hnu : underL (bs p) (bs x.path) = false := by rw [heb]; exact Hu.out); (have hkk : mvK (bs p) (bs q) x = false := by rw [mvK, hnu, heb]; simp); (have Hkk := Lib.hid hkk); (have Hnu := Lib.hid hnu); (clear heb hnu hkk hdd); (go_wp2_with (fail)); (go_roundw); (case rel => exact ⟨k + 1, by go_num, by omega, ⟨s, HO.out.below ((Below.refl _ _).alloc (Nat.le_refl _) _), by rw [Hs.out, Hsn.out, Hkk.out]; simp⟩, by rw [← Hany.out, mvBad, Hnu.out]; rfl, hb.alloc hb.size _⟩); (case measure => simp [intOf]; omega))))); (focus ((obtain rfl : k = m := by omega); (have hany : l.any (mvBad (bs p) (bs q)) = false := by have h1 := Hbad.out; rw [← Hm.out, List.take_length] at h1; exact h1); (have hE : mvE l (bs p) (bs q) = 0 := HF3.out.trans (if_neg (by rw [hany]; simp))); (have HE0 := Lib.hid hE); (clear hE hany); (go_wp2_with (fail)); go_ret2; rw [HE0.out]; (exact ⟨⟨_, s, rfl, HO.out, by rw [if_pos rfl, Hs.out, ← Hm.out, List.take_length]; rfl⟩, hb⟩))))
  · have hjl := (List.getElem?_eq_some_iff.1 hy).1
    obtain ⟨b', off', he, _, e0, e1, e2, e3, e4⟩ := Hcell.out w8 B8 j y hy
    simp only [Option.some.injEq, Addr.mk.injEq, and_true] at he
    obtain ⟨rfl, rfl⟩ := he
    have Hy := Lib.hid hy
    clear e0 e2 e3 e4 hy
    cases hd0 : x0.dir
    · rw [hd0] at c1
      rw [hd0, Bool.false_or] at HC
      cases hdy : y.dir
      · rw [hdy] at e1 HC
        have HF3 := Lib.hid (HF2.out.trans (if_neg (by rw [HC]; simp)))
        clear HC
        (generalize hm : l.length = m at *); (have Hm := Lib.hid hm); (clear hm); (go_wp2_with (fail)); (go_loopw [15, 16, 17, 18, 19, 20] (fun vo vk _ _ _ _ wr => ∃ k : Nat, vk = .int .i64 k ∧ k ≤ m ∧ (∃ s, OwnX w wr vo s ∧ s.map pur = (sortd (mvD (l.take k) (bs p) (bs q))).map pur) ∧ (l.take k).any (mvBad (bs p) (bs q)) = false ∧ Below w.heap.size w wr) (fun _ vk _ _ _ _ _ => m - (intOf vk).toNat)); (case atStart => exact ⟨0, rfl, Nat.zero_le _, ⟨[], OwnX.nil _ _, rfl⟩, rfl, B8⟩); (case round => (obtain ⟨k, rfl, hk, ⟨s, hO, hs⟩, hbad, hb⟩ := hrel); (have hsl : s.length ≤ k := by rw [len_pur hs]; exact mv_len l _ _ k); (have HO := Lib.hid hO); (have Hs := Lib.hid hs); (have Hbad := Lib.hid hbad); (clear hO hs hbad); (by_cases hlt : k < m); (focus ((obtain ⟨x, hx⟩ : ∃ x, l[k]? = some x := ⟨l[k]'(by rw [Hm.out]; exact hlt), by rw [List.getElem?_eq_getElem]⟩); (obtain ⟨b', off', he', _, d0, d1, d2, d3, d4⟩ := Hcell.out wr hb k x hx); (simp only [Option.some.injEq, Addr.mk.injEq, and_true] at he'); (obtain ⟨rfl, rfl⟩ := he'); (have hxm := List.mem_of_getElem? hx); (obtain ⟨ax, cx, hbvx⟩ := Hbvs.out x hxm); (rw [hbvx] at d3); (have hplx := Hpl.out k x hx); (have hany := any_take (f := mvBad (bs p) (bs q)) hx); (rw [Hbad.out, Bool.false_or] at hany); (have Hsn := Lib.hid (mvD_snoc (a := bs p) (b := bs q) hx)); (have Hany := Lib.hid hany); (have Hx := Lib.hid hx); (have Hxm := Lib.hid hxm); (have Hbv := Lib.hid hbvx); (clear hx hxm hbvx hany); (cases hdd : decide (bs x.path = bs q)); (focus ((rw [hdd] at hplx); (have hnb : ¬ bs x.path = bs q := of_decide_eq_false hdd); (have Hnb := Lib.hid hnb); (clear hnb hdd); (have hu := fun W => Hun.out W p x.path); (have bA : Below w.heap.size w (wr.alloc (.cells #[.string x.path, .bool x.dir, .int .i64 x.quota, .slice ax x.blocks.length cx, .int .i64 x.writer] 25 (0, 0))) := hb.alloc hb.size _); (have HbA := Lib.hid bA); (have nA := Lib.hid (heap_alloc_new wr (.cells #[.string x.path, .bool x.dir, .int .i64 x.quota, .slice ax x.blocks.length cx, .int .i64 x.writer] 25 (0, 0)))); (clear bA); (cases huu : underL (bs p) (bs x.path)); (focus ((rw [huu] at hu); (have Huu := Lib.hid huu); (clear huu); (have Hu := Lib.hid hu); (clear hu); (go_wp2_with (fail)); (refine (Hu.out _).mono ?_); (rintro e w9 ⟨rfl, b9⟩); (clear d0 d1 d2 d3 d4); (have b9' : Below w.heap.size w w9 := HbA.out.trans (b9.mono HbA.out.size)); (have bwr : Below wr.heap.size wr w9 := ((Below.refl _ _).alloc (Nat.le_refl _) (.cells #[.string x.path, .bool x.dir, .int .i64 x.quota, .slice ax x.blocks.length cx, .int .i64 x.writer] 25 (0, 0))).trans (b9.mono (by simp))); (obtain ⟨c0, c1, c2, c3, c4⟩ := blk5c ((b9.block _ (lt_of_block nA.out)).trans nA.out)); (have hpc := Hpub.out w9 _ s x x Hxm.out rfl rfl b9' (HO.out.below bwr) (sorted_pur Hs.out (sortd_sorted _)) (by omega) b9'.size); (simp only [Hbv.out] at hpc); (have Hpc := Lib.hid hpc); (clear hpc); (go_wp2_with (fail)); (refine Hpc.out.mono ?_); (rintro e w10 ⟨⟨v10, s10, rfl, hO10, hs10⟩, b10⟩); (go_wp2_with (fail)); (go_roundw); (case rel => exact ⟨k + 1, by go_num, by omega, ⟨s10, hO10, by rw [hs10, ins_same Hs.out, Hsn.out, if_pos (Mv.keeps (l := l) Hnb.out), sortd_snoc, mvN_no Huu.out]⟩, by rw [← Hany.out, mvBad, Huu.out]; rfl, b9'.trans (b10.mono b9'.size)⟩); (case measure => simp [intOf]; omega))); (focus ((rw [huu] at hu); (have Huu := Lib.hid huu); (clear huu); (have Hu := Lib.hid hu); (clear hu); (have hmv := fun W => Hmv.out W x.path); (have hE2 : mvBad (bs p) (bs q) x = decide (moveE (bs x.path) (bs p) (bs q) ≠ 0) := by rw [mvBad, Huu.out, Bool.true_and]); (have hN2 : mvN (bs p) (bs q) x = { x with path := mk (moveS (bs x.path) (bs p) (bs q)) } := by rw [mvN, if_pos Huu.out]); (have hmv' : ∀ W, Calls Tryz.prog 61 #[.string x.path, .string p, .string q] W fun e w' => e = .returned (.tuple #[.string (mk (moveS (bs x.path) (bs p) (bs q))), .int .i64 (moveE (bs x.path) (bs p) (bs q))]) ∧ Below W.heap.size W w' := hmv); (clear hmv); (generalize moveE (bs x.path) (bs p) (bs q) = E2 at *); (generalize mk (moveS (bs x.path) (bs p) (bs q)) = S2 at *); (have Hmv' := Lib.hid hmv'); (have HE2 := Lib.hid hE2); (have HN2 := Lib.hid hN2); (clear hmv' hE2 hN2); (go_wp2_with (fail)); (refine (Hu.out _).mono ?_); (rintro e w9 ⟨rfl, b9⟩); (clear d0 d1 d2 d3 d4); (have b9' : Below w.heap.size w w9 := HbA.out.trans (b9.mono HbA.out.size)); (have bwr : Below wr.heap.size wr w9 := ((Below.refl _ _).alloc (Nat.le_refl _) (.cells #[.string x.path, .bool x.dir, .int .i64 x.quota, .slice ax x.blocks.length cx, .int .i64 x.writer] 25 (0, 0))).trans (b9.mono (by simp))); (have n9 := Lib.hid ((b9.block _ (lt_of_block nA.out)).trans nA.out)); (obtain ⟨c0, c1, c2, c3, c4⟩ := blk5c n9.out); (go_wp2_with (fail)); (refine (Hmv'.out w9).mono ?_); (rintro e w10 ⟨rfl, b10⟩); (clear c0 c1 c2 c3 c4); (have b10' : Below w.heap.size w w10 := b9'.trans (b10.mono b9'.size)); (have bwr2 : Below wr.heap.size wr w10 := bwr.trans (b10.mono bwr.size)); (have n10 := Lib.hid ((b10.block _ (lt_of_block n9.out)).trans n9.out)); (obtain ⟨c0, c1, c2, c3, c4⟩ := blk5c n10.out); (have z0 : w10.frozen? ⟨wr.heap.size, 0, none⟩ = false := free_of_blk n10.out); (by_cases h20 : E2 = 0); (focus ((subst h20); (have bS : Below w.heap.size w (w10.setCell ⟨wr.heap.size, 0, none⟩ (.string S2)) := b10'.setCell hb.size _); (have bwS : Below wr.heap.size wr (w10.setCell ⟨wr.heap.size, 0, none⟩ (.string S2)) := bwr2.setCell (Nat.le_refl _) _); (have hpc := Hpub.out _ _ s x { x with path := S2 } Hxm.out rfl rfl bS (HO.out.below bwS) (sorted_pur Hs.out (sortd_sorted _)) (by omega) bS.size); (simp only [Hbv.out] at hpc); (have Hpc := Lib.hid hpc); (have BS := Lib.hid bS); (clear hpc bS bwS); (go_wp2_with (fail)); (refine Hpc.out.mono ?_); (rintro e w11 ⟨⟨v11, s11, rfl, hO11, hs11⟩, b11⟩); (go_wp2_with (fail)); (go_roundw); (case rel => exact ⟨k + 1, by go_num, by omega, ⟨s11, hO11, by rw [hs11, ins_same Hs.out, Hsn.out, if_pos (mvK_up Huu.out), sortd_snoc, HN2.out, Hbv.out]⟩, by rw [← Hany.out, HE2.out]; rfl, BS.out.trans (b11.mono BS.out.size)⟩); (case measure => simp [intOf]; omega))); (focus ((have hne : (E2 != 0) = true := by simpa using h20); (have hany : l.any (mvBad (bs p) (bs q)) = true := List.any_eq_true.2 ⟨x, Hxm.out, by rw [HE2.out]; simpa using h20⟩); (have hE : mvE l (bs p) (bs q) = 4 := HF3.out.trans (if_pos hany)); (have HE4 := Lib.hid hE); (clear hE hany h20); (go_wp2_with (fail)); go_ret2; rw [HE4.out]; exact ResX.no (E := 4) (by decide) b10')))))); (focus ((rw [hdd] at hplx); (have heb : bs x.path = bs q := of_decide_eq_true hdd); (have hnu : underL (bs p) (bs x.path) = false := by rw [heb]; exact Hu.out); (have hkk : mvK (bs p) (bs q) x = false := by rw [mvK, hnu, heb]; simp); (have Hkk := Lib.hid hkk); (have Hnu := Lib.hid hnu); (clear heb hnu hkk hdd); (go_wp2_with (fail)); (go_roundw); (case rel => exact ⟨k + 1, by go_num, by omega, ⟨s, HO.out.below ((Below.refl _ _).alloc (Nat.le_refl _) _), by rw [Hs.out, Hsn.out, Hkk.out]; simp⟩, by rw [← Hany.out, mvBad, Hnu.out]; rfl, hb.alloc hb.size _⟩); (case measure => simp [intOf]; omega))))); (focus ((obtain rfl : k = m := by omega); (have hany : l.any (mvBad (bs p) (bs q)) = false := by have h1 := Hbad.out; rw [← Hm.out, List.take_length] at h1; exact h1); (have hE : mvE l (bs p) (bs q) = 0 := HF3.out.trans (if_neg (by rw [hany]; simp))); (have HE0 := Lib.hid hE); (clear hE hany); (go_wp2_with (fail)); go_ret2; rw [HE0.out]; (exact ⟨⟨_, s, rfl, HO.out, by rw [if_pos rfl, Hs.out, ← Hm.out, List.take_length]; rfl⟩, hb⟩))))
      · rw [hdy] at e1 HC
        (have hE : mvE l (bs p) (bs q) = 6 := HF2.out.trans (if_pos HC)); (clear HC)
        go_wp2_with (fail)
        go_ret2
        rw [hE]
        exact ResX.no (E := 6) (by decide) B8
    · rw [hd0] at c1
      rw [hd0, Bool.true_or] at HC
      (have hE : mvE l (bs p) (bs q) = 6 := HF2.out.trans (if_pos HC)); (clear HC)
      go_wp2_with (fail)
      go_ret2
      rw [hE]
      exact ResX.no (E := 6) (by decide) B8
end Go.Proofs.YtpghaghmejgjbaaGreatDoor.Tree
