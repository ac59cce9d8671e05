/- Trees: tree.Add, walked. -/
import Derived.Test.YtpghaghmejgjbaaGreatDoorTu
import Derived.Deep.RegionHeld3
namespace Go.Proofs.YtpghaghmejgjbaaGreatDoor.Tree
open Go.RowKit
open Path (Bs bs mk bs_mk mk_bs tl_bs splitE splitL MaxC parD parE parN underL under_calls)
set_option linter.unusedSimpArgs false
set_option linter.unusedVariables false

set_option maxRecDepth 4000 in
set_option maxHeartbeats 8000000 in
theorem add_calls (w : World) (v : Value) (l : List Nd) (x : Nd) (h : RdN w v l) (hx : Rd w 3 encB x.bv x.blocks) (hn : l.length ≤ 8796093022208) (hM : MaxC w) :
    Calls Tryz.prog 21 #[v, .agg #[.string x.path, .bool x.dir, .int .i64 x.quota, x.bv, .int .i64 x.writer]] w (ResX w (addE l x) (addL l x)) := by
  obtain ⟨ax, cx, hbv⟩ := bv_slice hx
  have hb0 : Below w.heap.size w (w.alloc (.cells #[.string x.path, .bool x.dir, .int .i64 x.quota, .slice ax x.blocks.length cx, .int .i64 x.writer] 25 (0, 0))) := (Below.refl _ _).alloc (Nat.le_refl _) _
  have hsz0 : (w.alloc (.cells #[.string x.path, .bool x.dir, .int .i64 x.quota, .slice ax x.blocks.length cx, .int .i64 x.writer] 25 (0, 0))).heap.size = w.heap.size + 1 := by simp
  have n0 : (w.alloc (.cells #[.string x.path, .bool x.dir, .int .i64 x.quota, .slice ax x.blocks.length cx, .int .i64 x.writer] 25 (0, 0))).heap[w.heap.size]? = some (.cells #[.string x.path, .bool x.dir, .int .i64 x.quota, .slice ax x.blocks.length cx, .int .i64 x.writer] 25 (0, 0)) := heap_alloc_new _ _
  obtain ⟨ao, cap, rfl, hlc, hcm, hcell⟩ := rd_cellsN h.rd
  rw [hbv]
  generalize hw0 : w.alloc (.cells #[.string x.path, .bool x.dir, .int .i64 x.quota, .slice ax x.blocks.length cx, .int .i64 x.writer] 25 (0, 0)) = w0 at *
  have h1 := right_calls w0 _ l (h.below hb0) hn (hM.below hb0)
  have h2 : ∀ W, Below w0.heap.size w0 W → _ := fun W hW => fits_calls W x ((hx.below hb0 (Nat.le_refl _)).below hW (Nat.le_refl _)) ((hM.below hb0).below hW)
  simp only [hbv] at h2
  have hat := fun W (hW : Below w0.heap.size w0 W) hs => at_calls W _ l x.path ((h.below hb0).below hW) hs hn
  have hdr := fun W (hW : Below w0.heap.size w0 W) hs => dir_calls W _ l x.path ((h.below hb0).below hW) hs hn ((hM.below hb0).below hW)
  have hri := fun h => right_rises (l := l) h
  have hfi := has_find x.path l
  have hcs : ∀ W, Below w0.heap.size w0 W → W.cell? ⟨w.heap.size, 0, none⟩ = some (.string x.path) ∧ W.cell? ⟨w.heap.size, 1, none⟩ = some (.bool x.dir) ∧ W.cell? ⟨w.heap.size, 2, none⟩ = some (.int .i64 x.quota) ∧ W.cell? ⟨w.heap.size, 3, none⟩ = some (.slice ax x.blocks.length cx) ∧ W.cell? ⟨w.heap.size, 4, none⟩ = some (.int .i64 x.writer) := fun W hW => by
    have e := (hW.block _ (by omega)).trans n0
    exact ⟨cell_of_blk e, cell_of_blk e, cell_of_blk e, cell_of_blk e, cell_of_blk e⟩
  have Hcs := Lib.hid hcs; have H2 := Lib.hid h2; have Hat := Lib.hid hat; have Hdr := Lib.hid hdr; have Hfi := Lib.hid hfi; have Hh := Lib.hid h; have HM := Lib.hid hM; have Hx := Lib.hid hx; have Hri := Lib.hid hri; have Hbv := Lib.hid hbv
  have hsl : (x.path.toList == [47]) = (bs x.path == [47]) := by rw [tl_bs]
  have Hsl := Lib.hid hsl
  have Hcell := Lib.hid hcell
  clear hcs h2 hat hfi h hM hcell hri hdr hbv hsl hx
  go_enter Tryz.func21, Tryz.ntmps21
  go_wp2_with (fail)
  refine h1.mono ?_
  rintro e w1 ⟨rfl, hb1⟩
  clear h1
  have ⟨c0, c1, c2, c3, c4⟩ := Hcs.out w1 hb1
  cases hr : rightT l
  · have hE : addE l x = 1 := by rw [addE, hr]; simp
    clear hr
    go_wp2_with (fail)
    go_ret2
    rw [hE]
    exact ResX.no (E := 1) (by decide) (hb0.trans (hb1.mono hb0.size))
  · have h2 := H2.out w1 hb1
    go_wp2_with (fail)
    refine h2.mono ?_
    rintro e w2 ⟨rfl, hb2⟩
    have hB2 := hb1.trans (hb2.mono hb1.size)
    have hB2w : Below w.heap.size w w2 := hb0.trans (hB2.mono hb0.size)
    clear h2 c0 c1 c2 c3 c4
    have ⟨c0, c1, c2, c3, c4⟩ := Hcs.out w2 hB2
    cases hf : fitsN x
    · have hE : addE l x = 1 := by rw [addE, hf]; simp
      clear hr hf
      go_wp2_with (fail)
      go_ret2
      rw [hE]
      exact ResX.no (E := 1) (by decide) hB2w
    · cases hpe : (x.path.toList == [47])
      · have hp : bs x.path ≠ [47] := fun e => by rw [Hsl.out, e] at hpe; simp at hpe
        have ha := Hat.out w2 hB2 (Hri.out hr)
        rw [Hfi.out] at ha
        have hE : addE l x = if (l.find? fun y => bs y.path == bs x.path).isSome = true then 6 else if dirE l (bs x.path) ≠ 0 then dirE l (bs x.path) else if 60 ≤ l.length then 4 else 0 := by rw [addE, if_pos ⟨hr, hf, hp⟩]
        have HE := Lib.hid hE; have Hr := Lib.hid hr; have Hf := Lib.hid hf; have Hp := Lib.hid hp
        clear hE hr hf hp
        go_wp2_with (fail)
        refine ha.mono ?_
        rintro e w3 ⟨rfl, hb3⟩
        clear ha c0 c1 c2 c3 c4
        have hB3 := hB2.trans (hb3.mono hB2.size)
        have hB3w : Below w.heap.size w w3 := hb0.trans (hB3.mono hb0.size)
        have ⟨c0, c1, c2, c3, c4⟩ := Hcs.out w3 hB3
        cases hfs : (l.find? fun y => bs y.path == bs x.path).isSome
        · have hd := Hdr.out w3 hB3 (Hri.out Hr.out)
          have Hfs := Lib.hid hfs; clear hfs
          go_wp2_with (fail)
          refine hd.mono ?_
          rintro e w4 ⟨rfl, hb4⟩
          clear hd c0 c1 c2 c3 c4
          have hB4 := hB3.trans (hb4.mono hB3.size)
          have hB4w : Below w.heap.size w w4 := hb0.trans (hB4.mono hb0.size)
          have ⟨c0, c1, c2, c3, c4⟩ := Hcs.out w4 hB4
          by_cases hde : dirE l (bs x.path) = 0
          · rw [hde]
            by_cases h60 : 60 ≤ l.length
            · go_wp2_with (fail)
              go_ret2
              rw [HE.out, Hfs.out, hde, if_neg (by simp), if_neg (by simp), if_pos h60]
              exact ResX.no (E := 4) (by decide) hB4w
            · obtain ⟨b, off, rfl⟩ : ∃ b off, ao = some ⟨b, off, none⟩ := by
                obtain ⟨y, t, hyt, _⟩ := right_head Hr.out
                obtain ⟨b, off, e, _⟩ := Hcell.out w (Below.refl _ _) 0 y (by rw [hyt]; rfl)
                exact ⟨b, off, e⟩
              have hbl8 : ∀ y ∈ l ++ [x], y.blocks.length ≤ 8 := fun y hy => by
                rcases List.mem_append.1 hy with hy | hy
                · exact right_blocks Hr.out hy
                · rw [List.mem_singleton] at hy; subst hy; exact fits_blocks Hf.out
              have hne : ∀ y ∈ l, bs y.path ≠ bs x.path := fun y hy e => by
                have h1 := Hfs.out
                rw [Option.isSome_eq_false_iff, Option.isNone_iff_eq_none, List.find?_eq_none] at h1
                exact h1 y hy (by simpa using e)
              have hsome := fun w5 v5 (hB : Below w.heap.size w w5) (hr5 : RdN w5 v5 (l ++ [x])) => some_all w w5 v5 l x hB hr5 (right_rises Hr.out) (by omega) hbl8 hne
              have hflat : ∀ W, Below w.heap.size w W → ∀ j u, (flatN l)[j]? = some u → W.cell? ((⟨b, off, none⟩ : Addr).add j) = some u := fun W hW j u hu => by
                obtain ⟨ao, cap', hv, hf⟩ := rdN_flat Hh.out.rd
                simp only [Value.slice.injEq] at hv
                exact hf W hW _ hv.1.symm j u hu
              have hone := flatN_one (l := l) Hh.out.bl
              have hBd : Below w.heap.size w (w4.drew.alloc (.cells #[.string x.path, .bool x.dir, .int .i64 x.quota, .slice ax x.blocks.length cx, .int .i64 x.writer] 25 (0, 0))) := Below.alloc (a := w) (w := w4.drew) ⟨hB4w.os, hB4w.tape, hB4w.output, hB4w.size, hB4w.block⟩ hB4w.size _
              have hBd0 : Below w0.heap.size w0 (w4.drew.alloc (.cells #[.string x.path, .bool x.dir, .int .i64 x.quota, .slice ax x.blocks.length cx, .int .i64 x.writer] 25 (0, 0))) := Below.alloc (a := w0) (w := w4.drew) ⟨hB4.os, hB4.tape, hB4.output, hB4.size, hB4.block⟩ hB4.size _
              have hsd : (w4.drew.alloc (.cells #[.string x.path, .bool x.dir, .int .i64 x.quota, .slice ax x.blocks.length cx, .int .i64 x.writer] 25 (0, 0))).heap.size = w4.heap.size + 1 := by simp
              have hnd : (w4.drew.alloc (.cells #[.string x.path, .bool x.dir, .int .i64 x.quota, .slice ax x.blocks.length cx, .int .i64 x.writer] 25 (0, 0))).heap[w4.heap.size]? = some (.cells #[.string x.path, .bool x.dir, .int .i64 x.quota, .slice ax x.blocks.length cx, .int .i64 x.writer] 25 (0, 0)) := heap_alloc_new w4.drew _
              have hfl := hflat _ hBd
              have hen : encN x = [.string x.path, .bool x.dir, .int .i64 x.quota, .slice ax x.blocks.length cx, .int .i64 x.writer] := by rw [encN, Hbv.out]
              have Hen := Lib.hid hen; clear hen
              have Hsz4 := Lib.hid (show (w4.alloc (.cells #[.string x.path, .bool x.dir, .int .i64 x.quota, .slice ax x.blocks.length cx, .int .i64 x.writer] 25 (0, 0))).drew.heap.size = w4.heap.size + 1 by simp)
              have Hsome := Lib.hid hsome; have Hfl := Lib.hid hfl; have Hone := Lib.hid hone; have Hnd := Lib.hid hnd; have HBd := Lib.hid hBd; have HBd0 := Lib.hid hBd0
              clear hsome hfl hone hnd hBd hBd0 hflat hne hbl8
              go_wp2_with (fail)
              go_region_held3 (fun w' => w'.cell? ⟨w.heap.size, 0, none⟩ = some (.string x.path) ∧ w'.cell? ⟨w.heap.size, 1, none⟩ = some (.bool x.dir) ∧ w'.cell? ⟨w.heap.size, 2, none⟩ = some (.int .i64 x.quota) ∧ w'.cell? ⟨w.heap.size, 3, none⟩ = some (.slice ax x.blocks.length cx) ∧ w'.cell? ⟨w.heap.size, 4, none⟩ = some (.int .i64 x.writer)) (go_keep)
                (first
                  | (refine etN.step_full (b := ⟨b, off, none⟩) (n := l.length) (xs := flatN l) (flatN_len l) Hfl.out Hone.out Hnd.out rfl (by simp [Value.oneCell']) (by omega) (by unfold maxLen; omega) rfl (.tmp 41) (.tmp 43) rfl rfl rfl ?_; intro cap1 w5 hown5 hb5; have hB5 := HBd.out.trans (hb5.mono HBd.out.size); have ⟨d0, d1, d2, d3, d4⟩ := Hcs.out w5 (HBd0.out.trans (hb5.mono HBd0.out.size)))
                  | (go_at_call 53; refine (clip_calls _ b off l.length cap hlc hcm).mono ?_; rintro e w' ⟨rfl, rfl⟩)
                  | (go_at_call 49; refine (Hsome.out _ _ hB5 (rd_app Hh.out Hx.out hB5 (by rw [Hen.out]; have h5 := hown5; rw [Hsz4.out] at h5; exact h5))).mono ?_; rintro e w6 ⟨⟨v6, q6, rfl, hO6, hq6⟩, hb6⟩; have ⟨e0, e1, e2, e3, e4⟩ := Hcs.out w6 ((HBd0.out.trans (hb5.mono HBd0.out.size)).trans (hb6.mono (Nat.le_trans HBd0.out.size hb5.size)))))
              all_goals
                go_wp2_with (fail)
                go_ret2
                rw [HE.out, Hfs.out, hde, if_neg (by simp), if_neg (by simp), if_neg h60]
                exact ⟨⟨v6, q6, rfl, hO6, by rw [if_pos rfl]; exact hq6⟩, hB5.trans (hb6.mono hB5.size)⟩
          · have hdb : (dirE l (bs x.path) == 0) = false := by simpa using hde
            go_wp2_with (fail)
            go_ret2
            rw [HE.out, Hfs.out, if_neg (by simp), if_pos hde]
            exact ResX.no hde hB4w
        · go_wp2_with (fail)
          go_ret2
          rw [HE.out, hfs, if_pos rfl]
          exact ResX.no (E := 6) (by decide) hB3w
      · have hE : addE l x = 1 := by rw [addE, if_neg (fun h => h.2.2 (by rw [Hsl.out] at hpe; simpa using hpe))]
        clear hr hf
        go_wp2_with (fail)
        go_ret2
        rw [hE]
        exact ResX.no (E := 1) (by decide) hB2w
end Go.Proofs.YtpghaghmejgjbaaGreatDoor.Tree
