/- Trees (chapter 7): the document's Add and Remove. -/
import Derived.Test.YtpghaghmejgjbaaGreatDoorUo
import Derived.Test.YtpghaghmejgjbaaGreatDoorUl
import Derived.Test.YtpghaghmejgjbaaGreatDoorUi
import Derived.Deep.RegionHeld3
namespace Go.Proofs.YtpghaghmejgjbaaGreatDoor.Tree
open Go.RowKit
open Path (Bs bs mk bs_mk mk_bs tl_bs splitE splitL MaxC parD parE parN underL)
set_option linter.unusedSimpArgs false
set_option linter.unusedVariables false

theorem dir_ways (l : List Nd) (p : Bs) : (findI (parD p) l = -1 ∧ dirE l p = 5) ∨ (∃ (i : Nat) (y : Nd), findI (parD p) l = i ∧ l[i]? = some y ∧ y.dir = false ∧ dirE l p = 7) ∨ (∃ (i : Nat) (y : Nd), findI (parD p) l = i ∧ l[i]? = some y ∧ y.dir = true ∧ dirE l p = 0) := by
  rw [dirE]
  rcases find_facts (parD p) l with ⟨h1, h2⟩ | ⟨i, y, h1, h2, h3⟩
  · exact .inl ⟨h1, by rw [h2]⟩
  · rw [h3]
    cases hd : y.dir
    · exact .inr (.inl ⟨i, y, h1, h2, hd, by simp [hd]⟩)
    · exact .inr (.inr ⟨i, y, h1, h2, hd, by simp [hd]⟩)
set_option maxHeartbeats 4000000 in
theorem rdir_calls (w : World) (v : Value) (l : List Nd) (p : ByteArray) (h : RdN w v l) (hn : l.length ≤ 8796093022208) :
    Calls Tryz.prog 56 #[v, .string p] w fun e w' => e = .returned (.int .i64 (dirE l (bs p))) ∧ Below w.heap.size w w' := by
  have hp : Calls Tryz.prog 37 #[.string p] w fun e w' => e = .returned (.tuple #[.string (mk (parD (bs p))), .string (mk (parN (bs p))), .int .i64 (parE (bs p))]) ∧ Below w.heap.size w w' := Path.rparent_calls w p
  have hf := fun W (hW : Below w.heap.size w W) => rfind_calls W v l (mk (parD (bs p))) (h.below hW).rd hn
  simp only [bs_mk] at hf
  have hw := dir_ways l (bs p)
  obtain ⟨ao, cap, rfl, _, _, hcell⟩ := rd_cellsN h.rd
  have Hf := Lib.hid hf; have Hcell := Lib.hid hcell; have Hw := Lib.hid hw
  clear hf hcell h hw
  generalize parE (bs p) = E at *
  generalize mk (parN (bs p)) = N at *
  generalize mk (parD (bs p)) = D at *
  generalize hF : findI (parD (bs p)) l = F at *
  generalize dirE l (bs p) = R at *
  clear hF
  rcases Hw.out with ⟨rfl, rfl⟩ | ⟨i, y, rfl, h2, h3, rfl⟩ | ⟨i, y, rfl, h2, h3, rfl⟩
  · clear Hw
    go_enter Tryz.func56, Tryz.ntmps56
    go_wp2_with (fail)
    refine hp.mono ?_
    rintro e w1 ⟨rfl, b1⟩
    go_wp2_with (fail)
    refine (Hf.out w1 b1).mono ?_
    rintro e w2 ⟨rfl, b2⟩
    go_wp2_with (fail)
    go_ret
    exact ⟨rfl, b1.trans (b2.mono b1.size)⟩
  all_goals
    have hil := (List.getElem?_eq_some_iff.1 h2).1
    have H2 := Lib.hid h2; have H3 := Lib.hid h3
    clear h2 h3 Hw
    go_enter Tryz.func56, Tryz.ntmps56
    go_wp2_with (fail)
    refine hp.mono ?_
    rintro e w1 ⟨rfl, b1⟩
    go_wp2_with (fail)
    refine (Hf.out w1 b1).mono ?_
    rintro e w2 ⟨rfl, b2⟩
    have B2 := b1.trans (b2.mono b1.size)
    obtain ⟨b, off, rfl, _, c0, c1, c2, c3, c4⟩ := Hcell.out w2 B2 i y H2.out
    rw [H3.out] at c1
    clear c0 c2 c3 c4
    go_wp2_with (fail)
    go_ret
    exact ⟨rfl, B2⟩
theorem len_pur {q m : List Nd} (e : q.map pur = m.map pur) : q.length = m.length := by
  have := congrArg List.length e
  simpa using this
theorem sorted_pur {q m : List Nd} (e : q.map pur = m.map pur) (h : Sorted m) : Sorted q := by
  have h1 : Sorted (m.map pur) := List.pairwise_map.2 (h.imp fun {a b} h => h)
  rw [← e] at h1
  exact (List.pairwise_map.1 h1).imp fun {a b} h => h
theorem ins_same {q m : List Nd} (e : q.map pur = m.map pur) (x : Nd) : (ins x q).map pur = (ins x m).map pur := by rw [ins_pur, e, ← ins_pur]
theorem isSome_find (p : Bs) (l : List Nd) : (l.find? fun x => bs x.path == p).isSome = decide (0 ≤ findI p l) := by
  rcases find_facts p l with ⟨h1, h2⟩ | ⟨i, y, h1, h2, h3⟩
  · rw [h1, h2]; rfl
  · rw [h1, h3]; simp
set_option maxRecDepth 4000 in
set_option maxHeartbeats 8000000 in
theorem radd_calls (w : World) (v : Value) (l : List Nd) (x : Nd) (h : RdN w v l) (hx : Rd w 3 encB x.bv x.blocks) (hn : l.length ≤ 8796093022208) :
    Calls Tryz.prog 26 #[v, .agg #[.string x.path, .bool x.dir, .int .i64 x.quota, x.bv, .int .i64 x.writer]] w (ResX w (addE l x) (addL l x)) := by
  obtain ⟨ax, cx, hbv⟩ := bv_slice hx
  have hri := fun W (hW : Below w.heap.size w W) => rright_calls W v l (h.below hW) hn
  have hfi := fun W (hW : Below w.heap.size w W) => rfits_calls W x (hx.below hW (Nat.le_refl _))
  have hfd := fun W (hW : Below w.heap.size w W) => rfind_calls W v l x.path (h.below hW).rd hn
  have hdr := fun W (hW : Below w.heap.size w W) => rdir_calls W v l x.path (h.below hW) hn
  have hal := fun (hl : l.length ≤ 60) (hb : ∀ y ∈ l, y.blocks.length ≤ 8) W (hW : Below w.heap.size w W) => all_calls W v l (h.below hW) (by omega) (fun y hy => by have := hb y hy; omega)
  have hpu := fun w0 W u (m : List Nd) (hW : Below w.heap.size w W) hO hs hl hb h0 => put_calls w0 W u m x hO hs hl (hx.below hW (Nat.le_refl _)) hb h0
  obtain ⟨ao, cap, rfl, _, _, _⟩ := rd_cellsN h.rd
  simp only [hbv] at hfi hpu
  rw [hbv]
  have b0 : Below w.heap.size w (w.alloc (.cells #[.string x.path, .bool x.dir, .int .i64 x.quota, .slice ax x.blocks.length cx, .int .i64 x.writer] 25 (0, 0))) := (Below.refl _ _).alloc (Nat.le_refl _) _
  have n0 := heap_alloc_new w (.cells #[.string x.path, .bool x.dir, .int .i64 x.quota, .slice ax x.blocks.length cx, .int .i64 x.writer] 25 (0, 0))
  have hE : addE l x = if rightT l = true ∧ fitsN x = true ∧ bs x.path ≠ [47] then (if 0 ≤ findI (bs x.path) l then 6 else if dirE l (bs x.path) ≠ 0 then dirE l (bs x.path) else if 60 ≤ l.length then 4 else 0) else 1 := by
    rw [addE, isSome_find]; simp only [decide_eq_true_eq]
  have hR := fun (h : rightT l = true) => right_len h
  have hB := fun (h : rightT l = true) y hy => right_blocks h (x := y) hy
  have hRi := fun (h : rightT l = true) => right_rises h
  have hF := fun (h : fitsN x = true) => fits_blocks h
  have hno := fun (h : ¬ 0 ≤ findI (bs x.path) l) => h
  have N0 := Lib.hid n0
  have hsl : (x.path.toList == [47]) = decide (bs x.path = [47]) := by rw [tl_bs]; by_cases h : bs x.path = [47] <;> simp [h]
  have Hri := Lib.hid hri; have Hfi := Lib.hid hfi; have Hfd := Lib.hid hfd; have Hdr := Lib.hid hdr; have Hal := Lib.hid hal; have Hpu := Lib.hid hpu; have HE := Lib.hid hE; have HR := Lib.hid hR; have HB := Lib.hid hB; have HRi := Lib.hid hRi; have HF := Lib.hid hF; have Hsl := Lib.hid hsl
  clear hri hfi hfd hdr hal hpu hE hR hB hRi hF hno hsl hbv h hx n0
  go_enter Tryz.func26, Tryz.ntmps26
  go_wp2_with (fail)
  refine (Hri.out _ b0).mono ?_
  rintro e w1 ⟨rfl, b1⟩
  have B1 := b0.trans (b1.mono b0.size)
  have n1 := (b1.block _ (lt_of_block N0.out)).trans N0.out
  obtain ⟨c0, c1, c2, c3, c4⟩ := blk5c n1
  have N1 := Lib.hid n1
  clear n1
  go_wp2_with (fail)
  refine (Hfi.out w1 B1).mono ?_
  rintro e w2 ⟨rfl, b2⟩
  have B2 := B1.trans (b2.mono B1.size)
  have n2 := (b2.block _ (lt_of_block N1.out)).trans N1.out
  clear c0 c1 c2 c3 c4
  obtain ⟨c0, c1, c2, c3, c4⟩ := blk5c n2
  have N2 := Lib.hid n2
  clear n2
  cases hr : rightT l
  · have hE : addE l x = 1 := by rw [HE.out, hr]; simp
    clear hr
    go_wp2_with (fail)
    go_ret2
    rw [hE]
    exact ResX.no (E := 1) (by decide) B2
  cases hf : fitsN x
  · have hE : addE l x = 1 := by rw [HE.out, hf]; simp
    clear hr hf
    go_wp2_with (fail)
    go_ret2
    rw [hE]
    exact ResX.no (E := 1) (by decide) B2
  cases hp : (x.path.toList == [47])
  rotate_left
  · have hE : addE l x = 1 := by rw [HE.out, if_neg]; intro h; rw [hp] at Hsl; have := Hsl.out; simp [h.2.2] at this
    clear hr hf
    go_wp2_with (fail)
    go_ret2
    rw [hE]
    exact ResX.no (E := 1) (by decide) B2
  have hp47 : bs x.path ≠ [47] := fun e => by have := Hsl.out; rw [hp, e] at this; simp at this
  have HE1 := Lib.hid (HE.out.trans (if_pos ⟨hr, hf, hp47⟩))
  have hl60 := HR.out hr
  have Hr := Lib.hid hr; have Hf := Lib.hid hf; have Hp := Lib.hid hp47
  clear hr hf HE hp47
  have hfd := Hfd.out w2 B2
  have hdr := Hdr.out
  generalize hI : findI (bs x.path) l = I at *
  generalize hD : dirE l (bs x.path) = D at *
  have HI := Lib.hid hI; have HD := Lib.hid hD
  clear hI hD
  have Hdr' := Lib.hid hdr
  clear hdr
  go_wp2_with (fail)
  refine hfd.mono ?_
  rintro e w3 ⟨rfl, b3⟩
  have B3 := B2.trans (b3.mono B2.size)
  have n3 := (b3.block _ (lt_of_block N2.out)).trans N2.out
  clear c0 c1 c2 c3 c4 hfd
  obtain ⟨c0, c1, c2, c3, c4⟩ := blk5c n3
  have N3 := Lib.hid n3
  clear n3
  by_cases hI0 : 0 ≤ I
  · have hE : addE l x = 6 := by rw [HE1.out, if_pos hI0]
    go_wp2_with (fail)
    go_ret2
    rw [hE]
    exact ResX.no (E := 6) (by decide) B3
  have HE2 := Lib.hid (HE1.out.trans (if_neg hI0))
  go_wp2_with (fail)
  refine (Hdr'.out w3 B3).mono ?_
  rintro e w4 ⟨rfl, b4⟩
  have B4 := B3.trans (b4.mono B3.size)
  have n4 := (b4.block _ (lt_of_block N3.out)).trans N3.out
  clear c0 c1 c2 c3 c4
  obtain ⟨c0, c1, c2, c3, c4⟩ := blk5c n4
  have N4 := Lib.hid n4
  clear n4
  by_cases hD0 : D = 0
  rotate_left
  · have hne : (D != 0) = true := by simpa using hD0
    have hE : addE l x = D := by rw [HE2.out, if_pos hD0]
    have HD0 := Lib.hid hD0
    clear hD0
    go_wp2_with (fail)
    go_ret2
    rw [hE]
    exact ResX.no HD0.out B4
  have HE3 := Lib.hid (HE2.out.trans (if_neg (fun h => h hD0)))
  subst hD0
  by_cases h60 : 60 ≤ l.length
  · have hE : addE l x = 4 := by rw [HE3.out, if_pos h60]
    have hge : decide (60 ≤ (l.length : Int)) = true := decide_eq_true (by omega)
    go_wp2_with (fail)
    go_ret2
    rw [hE]
    exact ResX.no (E := 4) (by decide) B4
  have hE : addE l x = 0 := by rw [HE3.out, if_neg h60]
  have HE0 := Lib.hid hE
  have hlt : decide (60 ≤ (l.length : Int)) = false := decide_eq_false (by omega)
  clear hE
  go_wp2_with (fail)
  go_region_held3 (fun w' => w'.cell? ⟨w.heap.size, 0, none⟩ = some (.string x.path) ∧ w'.cell? ⟨w.heap.size, 1, none⟩ = some (.bool x.dir) ∧ w'.cell? ⟨w.heap.size, 2, none⟩ = some (.int .i64 x.quota) ∧ w'.cell? ⟨w.heap.size, 3, none⟩ = some (.slice ax x.blocks.length cx) ∧ w'.cell? ⟨w.heap.size, 4, none⟩ = some (.int .i64 x.writer)) (go_keep)
    (first
      | (go_at_call 58; refine (Hal.out hl60 (HB.out Hr.out) _ ?_).mono ?_; (exact ⟨B4.os, B4.tape, B4.output, B4.size, B4.block⟩); rintro e w5 ⟨⟨v5, q5, rfl, hO5, hq5⟩, b5⟩; have b5' : Below w4.heap.size w4 w5 := ⟨b5.os, b5.tape, b5.output, b5.size, b5.block⟩; have B5 := B4.trans (b5'.mono B4.size); have hO5' : OwnX w w5 v5 q5 := hO5.up B4.size; obtain ⟨l0, l1, l2, l3, l4⟩ := blk5c ((b5'.block _ (lt_of_block N4.out)).trans N4.out); have HO5 := Lib.hid hO5'; have Hq5 := Lib.hid hq5; clear hO5 hq5 hO5')
      | (go_at_call 57; refine (Hpu.out w _ _ q5 B5 HO5.out (sorted_pur Hq5.out (rises_sorted (HRi.out Hr.out))) (by rw [len_pur Hq5.out]; omega) (by have := HF.out Hf.out; omega) B5.size).mono ?_; rintro e w6 ⟨⟨v6, q6, rfl, hO6, hq6⟩, b6⟩; obtain ⟨l0, l1, l2, l3, l4⟩ := blk5c ((b6.block _ (by have := B5.size; have := lt_of_block N4.out; have := b5'.size; omega)).trans ((b5'.block _ (lt_of_block N4.out)).trans N4.out))))
  all_goals
    go_wp2_with (fail)
    go_ret2
    rw [HE0.out]
    exact ⟨⟨v6, q6, rfl, hO6, by rw [if_pos rfl, hq6, ins_same Hq5.out]; rfl⟩, B5.trans (b6.mono B5.size)⟩
def keptL (l : List Nd) (p : Bs) (k : Nat) : List Nd := ((l.take k).filter fun x => !underL p (bs x.path)).map pur
theorem kept_no {l : List Nd} {p : Bs} {k : Nat} {x : Nd} (hx : l[k]? = some x) (h : underL p (bs x.path) = true) : keptL l p (k + 1) = keptL l p k := by
  rw [keptL, keptL, List.take_add_one, hx]; simp [h]
theorem kept_yes {l : List Nd} {p : Bs} {k : Nat} {x : Nd} (hx : l[k]? = some x) (h : underL p (bs x.path) = false) : keptL l p (k + 1) = keptL l p k ++ [pur x] := by
  rw [keptL, keptL, List.take_add_one, hx]; simp [h]
theorem kept_len (l : List Nd) (p : Bs) (k : Nat) : (keptL l p k).length ≤ k := by
  rw [keptL, List.length_map]
  exact Nat.le_trans (List.length_filter_le _ _) (by rw [List.length_take]; omega)
set_option maxRecDepth 4000 in
set_option maxHeartbeats 8000000 in
theorem rrem_calls (w : World) (v : Value) (l : List Nd) (p : ByteArray) (h : RdN w v l) (hn : l.length ≤ 8796093022208) :
    Calls Tryz.prog 29 #[v, .string p] w (ResX w (rmE l (bs p)) (rmL l (bs p))) := by
  have hri := fun W (hW : Below w.heap.size w W) => rright_calls W v l (h.below hW) hn
  have hpa := fun W => rpath_calls W p
  have hfd := fun W (hW : Below w.heap.size w W) => rfind_calls W v l p (h.below hW).rd hn
  have hun := fun W q => Path.runder_calls W p q
  have hcp := fun (hb : ∀ y ∈ l, y.blocks.length ≤ 8) W (hW : Below w.heap.size w W) x (hx : x ∈ l) => copy_calls W x ((h.bl x hx).below hW (Nat.le_refl _)) (by have := hb x hx; omega)
  have hbvs : ∀ x ∈ l, ∃ ao cap, x.bv = .slice ao x.blocks.length cap := fun x hx => bv_slice (h.bl x hx)
  obtain ⟨ao, cap, rfl, _, _, hcell⟩ := rd_cellsN h.rd
  have hE : rmE l (bs p) = if rightT l = true ∧ splitE (bs p) = 0 ∧ bs p ≠ [47] then (if 0 ≤ findI (bs p) l then 0 else 5) else 1 := by
    rw [rmE, isSome_find]; simp only [decide_eq_true_eq]
  have hR := fun (h : rightT l = true) => right_len h
  have hB := fun (h : rightT l = true) y hy => right_blocks h (x := y) hy
  have hsl : (p.toList == [47]) = decide (bs p = [47]) := by rw [tl_bs]; by_cases h : bs p = [47] <;> simp [h]
  have hd0 : decide (splitE (bs p) = 0) = true ↔ splitE (bs p) = 0 := decide_eq_true_iff
  generalize hd : decide (splitE (bs p) = 0) = d at *
  have Hri := Lib.hid hri; have Hpa := Lib.hid hpa; have Hfd := Lib.hid hfd; have Hun := Lib.hid hun; have Hcp := Lib.hid hcp; have Hbvs := Lib.hid hbvs; have Hcell := Lib.hid hcell; have HE := Lib.hid hE; have HR := Lib.hid hR; have HB := Lib.hid hB; have Hsl := Lib.hid hsl; have Hd := Lib.hid hd0
  clear hri hpa hfd hun hcp hbvs hcell hE hR hB hsl hd0 hd h
  go_enter Tryz.func29, Tryz.ntmps29
  go_wp2_with (fail)
  refine (Hri.out w (Below.refl _ _)).mono ?_
  rintro e w1 ⟨rfl, b1⟩
  go_wp2_with (fail)
  refine (Hpa.out w1).mono ?_
  rintro e w2 ⟨rfl, b2⟩
  have B2 := b1.trans (b2.mono b1.size)
  cases hr : rightT l
  · have hE : rmE l (bs p) = 1 := by rw [HE.out, hr]; simp
    clear hr
    go_wp2_with (fail)
    go_ret2
    rw [hE]
    exact ResX.no (E := 1) (by decide) B2
  cases d
  · have hE : rmE l (bs p) = 1 := by rw [HE.out, if_neg]; intro h; have := Hd.out.2 h.2.1; cases this
    clear hr
    go_wp2_with (fail)
    go_ret2
    rw [hE]
    exact ResX.no (E := 1) (by decide) B2
  cases hp : (p.toList == [47])
  rotate_left
  · have hE : rmE l (bs p) = 1 := by rw [HE.out, if_neg]; intro h; have := Hsl.out; rw [hp] at this; simp [h.2.2] at this
    clear hr
    go_wp2_with (fail)
    go_ret2
    rw [hE]
    exact ResX.no (E := 1) (by decide) B2
  have hp47 : bs p ≠ [47] := fun e => by have := Hsl.out; rw [hp, e] at this; simp at this
  have HE1 := Lib.hid (HE.out.trans (if_pos ⟨hr, Hd.out.1 rfl, hp47⟩))
  have hl60 := HR.out hr
  have Hc := Lib.hid (Hcp.out (HB.out hr))
  clear hr HE hp47
  have hfd := Hfd.out w2 B2
  generalize findI (bs p) l = I at *
  go_wp2_with (fail)
  refine hfd.mono ?_
  rintro e w3 ⟨rfl, b3⟩
  have B3 := B2.trans (b3.mono B2.size)
  clear hfd
  by_cases hI0 : 0 ≤ I
  rotate_left
  · have hE : rmE l (bs p) = 5 := by rw [HE1.out, if_neg hI0]
    have hlt : decide (I < 0) = true := decide_eq_true (by omega)
    go_wp2_with (fail)
    go_ret2
    rw [hE]
    exact ResX.no (E := 5) (by decide) B3
  have hE : rmE l (bs p) = 0 := by rw [HE1.out, if_pos hI0]
  have HE0 := Lib.hid hE
  clear hE
  generalize hm : l.length = m at *
  have Hm := Lib.hid hm
  clear hm
  go_wp2_with (fail)
  go_loopw [8, 9, 10] (fun vo vk _ wr => ∃ k : Nat, vk = .int .i64 k ∧ k ≤ m ∧ (∃ q, OwnX w wr vo q ∧ q.map pur = keptL l (bs p) k) ∧ Below w.heap.size w wr) (fun _ vk _ _ => m - (intOf vk).toNat)
  case atStart => exact ⟨0, rfl, Nat.zero_le _, ⟨[], OwnX.nil _ _, rfl⟩, B3⟩
  case round =>
    obtain ⟨k, rfl, hk, ⟨q, hO, hq⟩, hb⟩ := hrel
    have hql : q.length ≤ k := by
      have h1 := congrArg List.length hq
      rw [List.length_map] at h1
      have := kept_len l (bs p) k
      omega
    have HO := Lib.hid hO; have Hq := Lib.hid hq
    clear hO hq
    by_cases hlt : k < m
    · obtain ⟨x, hx⟩ : ∃ x, l[k]? = some x := ⟨l[k]'(by rw [Hm.out]; exact hlt), by rw [List.getElem?_eq_getElem]⟩
      obtain ⟨b', off', rfl, _, d0, d1, d2, d3, d4⟩ := Hcell.out wr hb k x hx
      have hxm := List.mem_of_getElem? hx
      obtain ⟨ax, cx, hbvx⟩ := Hbvs.out x hxm
      have Hx := Lib.hid hx; have Hxm := Lib.hid hxm; have Hbv := Lib.hid hbvx
      clear hx hxm d1 d2 d3 d4 hbvx
      have hu := Hun.out wr x.path
      cases huu : underL (bs p) (bs x.path)
      · rw [huu] at hu
        have Huu := Lib.hid huu
        clear huu
        go_wp2_with (fail)
        refine hu.mono ?_
        rintro e w4 ⟨rfl, b4⟩
        clear hu d0
        have B4 := hb.trans (b4.mono hb.size)
        obtain ⟨b2', off2, he, _, d0, d1, d2, d3, d4⟩ := Hcell.out w4 B4 k x Hx.out
        simp only [Option.some.injEq, Addr.mk.injEq, and_true] at he
        obtain ⟨rfl, rfl⟩ := he
        have hc := Hc.out w4 B4 x Hxm.out
        rw [Hbv.out] at d3 hc
        go_wp2_with (fail)
        refine hc.mono ?_
        rintro e w5 ⟨⟨v5, rfl, ho5⟩, hb5⟩
        clear hc d0 d1 d2 d3 d4
        have HO5 := Lib.hid ((HO.out.below b4).below hb5)
        have B5 := B4.trans (hb5.mono B4.size)
        obtain ⟨a5, c5, rfl, -⟩ := own_slice ho5.own
        have Ho5 := Lib.hid ho5
        clear ho5
        generalize hwq : q.length = n1 at *
        have Hwq := Lib.hid hwq
        have HW := Lib.hid HO5.out.own
        rw [hwq] at HW
        clear hwq
        go_wp2_with (at_builtin; (with_reducible refine etN.wpList1 (HW.out.alloc _) (heap_alloc_new _ _) rfl (by simp [Value.oneCell']) (by omega) (by unfold maxLen; omega) rfl (.tmp 44) (.tmp 50) rfl rfl rfl ?_); intro g1 cap1 w8 hown1 hgrow hat hlt1)
        go_roundw
        case rel =>
          have hs := OwnX.snoc (x := { x with bv := .slice a5 x.blocks.length c5 }) HO5.out (Ho5.out.up B4.size) B5.size (by rw [Hwq.out]; exact hown1) hgrow hat
          exact ⟨k + 1, by go_num, by omega, ⟨_, by rw [Hwq.out] at hs; exact hs, by rw [List.map_append, Hq.out, kept_yes Hx.out Huu.out]; rfl⟩, (B5.alloc B5.size _).grown hgrow (by have := B5.size; simp; omega) (fun g hg => HO5.out.new g hg)⟩
        case measure => simp [intOf]; omega
      · rw [huu] at hu
        have Huu := Lib.hid huu
        clear huu
        go_wp2_with (fail)
        refine hu.mono ?_
        rintro e w4 ⟨rfl, b4⟩
        go_wp2_with (fail)
        go_roundw
        case rel => exact ⟨k + 1, by go_num, by omega, ⟨q, HO.out.below b4, by rw [Hq.out, kept_no Hx.out Huu.out]⟩, hb.trans (b4.mono hb.size)⟩
        case measure => simp [intOf]; omega
    · obtain rfl : k = m := by omega
      go_wp2_with (fail)
      go_ret2
      rw [HE0.out]
      exact ⟨⟨_, q, rfl, HO.out, by rw [if_pos rfl, Hq.out, keptL, ← Hm.out, List.take_length]; rfl⟩, hb⟩
end Go.Proofs.YtpghaghmejgjbaaGreatDoor.Tree
