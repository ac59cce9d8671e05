/- Trees (chapter 7): TreeRefuses, walked. -/
import Derived.Test.YtpghaghmejgjbaaGreatDoorUc
import Derived.Test.YtpghaghmejgjbaaGreatDoorGb
namespace Go.Proofs.YtpghaghmejgjbaaGreatDoor.Tree
open Go.RowKit
open Path (Bs bs mk bs_mk mk_bs tl_bs splitE splitL MaxC parD parE parN nameL)
set_option linter.unusedSimpArgs false
set_option linter.unusedVariables false

theorem path_len {p : ByteArray} (h : splitE (bs p) = 0) : p.size ≤ 120 := by
  have h1 : (bs p).length ≤ 120 := by
    rw [splitE] at h
    by_cases hc : 120 < (bs p).length
    · rw [if_pos hc] at h; cases h
    · omega
  simpa [bs] using h1
set_option maxRecDepth 4000 in
set_option maxHeartbeats 16000000 in
theorem law_refuses (w : World) (v : Value) (l : List Nd) (at_ : Int) (name : ByteArray) (h : RdN w v l) (hn : l.length ≤ 8796093022208) (hM : MaxC w) (ha : inI at_) (hnm : name.size ≤ 140737488355328) :
    Calls Tryz.prog 6 #[v, .int .i64 at_, .string name] w fun e w' => e = .returned (.bool true) ∧ Below w.heap.size w w' := by
  have hex := ex_calls w hM
  have hfile := fun W p => fileF_calls W p
  have hdir := fun W p => dirF_calls W p
  have hri := fun W (hW : Below w.heap.size w W) => right_calls W v l (h.below hW) hn (hM.below hW)
  have hadd := fun W (hW : Below w.heap.size w W) n (hn0 : n.bv = .slice none 0 0) (hn1 : n.blocks = []) => add_calls W v l n (h.below hW) (by rw [hn0, hn1]; exact rdB_nil W) hn (hM.below hW)
  have hfind := fun W (hW : Below w.heap.size w W) key => find_calls W v l key (h.below hW) hn
  have hname := fun W => Path.name_calls W name
  have hfits := fun W (hW : Below w.heap.size w W) p => fits_calls W (fileN p) (rdB_nil W) (hM.below hW)
  obtain ⟨ao, cap, rfl, _, _, hcell⟩ := rd_cellsN h.rd
  have hbvs := fun x hx => bv_slice (h.bl x hx)
  have Hri := Lib.hid hri; have Hadd := Lib.hid hadd; have Hfind := Lib.hid hfind; have Hname := Lib.hid hname; have Hfits := Lib.hid hfits; have Hcell := Lib.hid hcell; have Hbvs := Lib.hid hbvs; have HM := Lib.hid hM
  clear hri hadd hfind hname hfits hcell hbvs h hM
  go_enter Tryz.func6, Tryz.ntmps6
  go_wp2_with (fail)
  refine hex.mono ?_
  rintro e w1 ⟨rfl, b1⟩
  clear hex
  go_wp2_with (fail)
  refine (Hri.out w1 b1).mono ?_
  rintro e w2 ⟨rfl, b2⟩
  have B2 := b1.trans (b2.mono b1.size)
  cases hr : rightT l
  · go_wp2_with (fail)
    refine (hfile _ _).mono ?_
    rintro e w3 ⟨rfl, b3⟩
    have B3 := B2.trans (b3.mono B2.size)
    have had := Hadd.out w3 B3 (fileN ⟨#[47, 120]⟩) rfl rfl
    rw [ref_arg hr] at had
    go_wp2_with (fail)
    refine had.mono ?_
    rintro e w4 ⟨⟨v4, q4, rfl, -⟩, b4⟩
    go_wp2_with (fail)
    go_ret
    exact ⟨rfl, B3.trans (b4.mono B3.size)⟩
  · have hl60 := right_len hr
    have hl0 : 0 < l.length := by obtain ⟨x, t, e, _⟩ := right_head hr; rw [e]; simp
    have Hr := Lib.hid hr; clear hr
    by_cases hneg : at_ < 0
    · have w1' : wrap64 (at_ + 1) = at_ + 1 := by obtain ⟨h1, h2⟩ := ha; simp only [wrap64]; omega
      have w2' : wrap64 (-(at_ + 1)) = -(at_ + 1) := by obtain ⟨h1, h2⟩ := ha; simp only [wrap64]; omega
      obtain ⟨k, hk, hkm⟩ : ∃ k : Nat, k < l.length ∧ (-(at_ + 1)).tmod (l.length : Int) = k := ⟨((-(at_ + 1)).tmod (l.length : Int)).toNat, by
        have h1 := Int.tmod_nonneg (l.length : Int) (show 0 ≤ -(at_ + 1) by omega)
        have h2 := Int.tmod_lt_of_pos (-(at_ + 1)) (show 0 < (l.length : Int) by omega)
        omega, by
        have h1 := Int.tmod_nonneg (l.length : Int) (show 0 ≤ -(at_ + 1) by omega)
        omega⟩
      obtain ⟨x, hx⟩ : ∃ x, l[k]? = some x := ⟨l[k], by simp [hk]⟩
      obtain ⟨b, off, rfl, _, c0, c1, c2, c3, c4⟩ := Hcell.out w2 B2 k x hx
      obtain ⟨ax, cx, hbv⟩ := Hbvs.out x (List.mem_of_getElem? hx)
      rw [hbv] at c3
      have h120 : x.path.size ≤ 120 := path_len (right_splits Hr.out (List.mem_of_getElem? hx))
      have Hx := Lib.hid hx
      clear hx hbv
      have hsl : (x.path.toList == [47]) = (bs x.path == [47]) := by rw [tl_bs]
      cases hxp : (x.path.toList == [47])
      · have hp47 : bs x.path ≠ [47] := fun e => by rw [hsl, e] at hxp; simp at hxp
        have hpp : bs (x.path ++ ⟨#[47]⟩ ++ name) = inD (bs x.path) ++ bs name := by rw [inD, if_neg hp47]; simp [bs, ByteArray.data_append]
        have hex := ref_exist Hr.out (List.mem_of_getElem? Hx.out) hp47
        have Hpp := Lib.hid hpp; have Hex := Lib.hid hex
        clear hpp hex hsl hp47
        go_wp2_with (fail)
        refine (hdir _ _).mono ?_
        rintro e w3 ⟨rfl, b3⟩
        have DW : Below (w2.alloc (.cells #[.string x.path, .bool x.dir, .int .i64 x.quota, .slice ax x.blocks.length cx, .int .i64 x.writer] 25 (0, 0))).heap.size (w2.alloc (.cells #[.string x.path, .bool x.dir, .int .i64 x.quota, .slice ax x.blocks.length cx, .int .i64 x.writer] 25 (0, 0))) w3 := b3
        have B3 : Below w.heap.size w w3 := (B2.alloc B2.size _).trans (b3.mono (by have := B2.size; simp; omega))
        have had := Hadd.out w3 B3 (dirN x.path) rfl rfl
        rw [Hex.out] at had
        have n3 : w3.heap[w2.heap.size]? = some (.cells #[.string x.path, .bool x.dir, .int .i64 x.quota, .slice ax x.blocks.length cx, .int .i64 x.writer] 25 (0, 0)) := (b3.block _ (by simp)).trans (heap_alloc_new _ _)
        have p0 : w3.cell? ⟨w2.heap.size, 0, none⟩ = some (.string x.path) := cell_of_blk n3
        go_wp2_with (fail)
        refine had.mono ?_
        rintro e W ⟨⟨v4, q4, rfl, -⟩, b4⟩
        have bW : Below w.heap.size w W := B3.trans (b4.mono B3.size)
        have nW : W.heap[w2.heap.size]? = some (.cells #[.string x.path, .bool x.dir, .int .i64 x.quota, .slice ax x.blocks.length cx, .int .i64 x.writer] 25 (0, 0)) := (b4.block _ (lt_of_block n3)).trans n3
        have q0 : W.cell? ⟨w2.heap.size, 0, none⟩ = some (.string x.path) := cell_of_blk nW
        clear had
        go_wp2_with (fail)
        generalize x.path ++ ⟨#[47]⟩ ++ name = pp at *
        have hqq : bs (pp ++ ⟨#[47, 121]⟩) = bs pp ++ 47 :: [121] := by simp [bs, ByteArray.data_append]
        (refine (Hname.out _).mono ?_); (rintro e w5 ⟨rfl, b5⟩); (have B5 := bW.trans (b5.mono bW.size)); (have D5 := b5); (cases hnl : nameL (bs name)); (go_wp2_with (fail); go_ret; exact ⟨rfl, B5⟩); (go_wp2_with (fail)); (refine (hfile _ _).mono ?_); (rintro e w6 ⟨rfl, b6⟩); (have B6 := B5.trans (b6.mono B5.size)); (have D6 := D5.trans (b6.mono D5.size)); (have hft := Hfits.out w6 B6 pp); (go_wp2_with (fail)); (refine hft.mono ?_); (rintro e w7 ⟨rfl, b7⟩); (clear hft); (have B7 := B6.trans (b7.mono B6.size)); (have D7 := D6.trans (b7.mono D6.size)); (cases hfp : fitsN (fileN pp)); (go_wp2_with (fail); go_ret; exact ⟨rfl, B7⟩); (have hfi := Hfind.out w7 B7 pp); (have hE1 := fun h => ref_new Hr.out (List.mem_of_getElem? Hx.out) Hpp.out hnl hfp h); (have hE2 := fun h => ref_below (l := l) (file_fits hfp).1 (file_fits hfp).2 hqq (n := [121]) (by decide) h); (have hp120 : pp.size ≤ 120 := path_len (file_fits hfp).1); (have HE1 := Lib.hid hE1); (have HE2 := Lib.hid hE2); (clear hE1 hE2 hnl hfp); (generalize findI (bs pp) l = fi at *); (go_wp2_with (fail)); (refine hfi.mono ?_); (rintro e w8 ⟨rfl, b8⟩); (clear hfi); (have B8 := B7.trans (b8.mono B7.size)); (have D8 := D7.trans (b8.mono D7.size)); (by_cases hfd : 0 ≤ fi); (go_wp2_with (fail); go_ret; exact ⟨rfl, B8⟩); (have hlt : fi < 0 := by omega); (have e1 := HE1.out hlt); (have e2 := HE2.out hlt); (go_wp2_with (fail)); (refine (hfile _ _).mono ?_); (rintro e w9 ⟨rfl, b9⟩); (have B9 := B8.trans (b9.mono B8.size)); (have D9 := D8.trans (b9.mono D8.size))
        cases hxd : x.dir
        · rw [hxd, if_neg (by simp)] at e1
          (have ha1 := Hadd.out w9 B9 (fileN pp) rfl rfl); (rw [e1] at ha1); (have ha2 := fun W hW => Hadd.out W hW (fileN (pp ++ ⟨#[47, 121]⟩)) rfl rfl); (generalize addE l (fileN (pp ++ ⟨#[47, 121]⟩)) = E2 at *); (have e2' : (E2 != 0) = true := by simpa using e2); (have Ha1 := Lib.hid ha1); (have Ha2 := Lib.hid ha2); (clear ha1 ha2 e1 e2 HE1 HE2); (go_wp2_with (fail)); (refine Ha1.out.mono ?_); (rintro e w10 ⟨⟨v10, q10, rfl, hO10, hq10⟩, b10⟩); (have B10 := B9.trans (b10.mono B9.size)); (have D10 := D9.trans (b10.mono D9.size)); (have HO10 := Lib.hid hO10); (have Hq10 := Lib.hid hq10); (clear hO10 hq10); (go_wp2_with (fail)); (refine (hfile _ _).mono ?_); (rintro e w11 ⟨rfl, b11⟩); (have B11 := B10.trans (b11.mono B10.size)); (have D11 := D10.trans (b11.mono D10.size)); (have F11 := b11); (have a2 := Ha2.out w11 B11); (go_wp2_with (fail)); (refine a2.mono ?_); (rintro e w12 ⟨⟨v12, q12, rfl, -⟩, b12⟩); (clear a2); (have B12 := B11.trans (b12.mono B11.size)); (have D12 := D11.trans (b12.mono D11.size)); (have F12 := F11.trans (b12.mono F11.size)); (have n12 := (D12.block _ (lt_of_block nW)).trans nW); (have r1 : w12.cell? ⟨w2.heap.size, 1, none⟩ = some (.bool x.dir) := cell_of_blk n12)
          rw [hxd] at r1
          go_wp2_with (fail)
          go_ret
          exact ⟨rfl, B12⟩
        · rw [hxd, if_pos rfl] at e1
          by_cases h60 : 60 ≤ l.length
          · rw [if_pos h60] at e1
            have hl : ((l.length : Int) == 60) = true := by
              have : l.length = 60 := by omega
              rw [this]; rfl
            (have ha1 := Hadd.out w9 B9 (fileN pp) rfl rfl); (rw [e1] at ha1); (have ha2 := fun W hW => Hadd.out W hW (fileN (pp ++ ⟨#[47, 121]⟩)) rfl rfl); (generalize addE l (fileN (pp ++ ⟨#[47, 121]⟩)) = E2 at *); (have e2' : (E2 != 0) = true := by simpa using e2); (have Ha1 := Lib.hid ha1); (have Ha2 := Lib.hid ha2); (clear ha1 ha2 e1 e2 HE1 HE2); (go_wp2_with (fail)); (refine Ha1.out.mono ?_); (rintro e w10 ⟨⟨v10, q10, rfl, hO10, hq10⟩, b10⟩); (have B10 := B9.trans (b10.mono B9.size)); (have D10 := D9.trans (b10.mono D9.size)); (have HO10 := Lib.hid hO10); (have Hq10 := Lib.hid hq10); (clear hO10 hq10); (go_wp2_with (fail)); (refine (hfile _ _).mono ?_); (rintro e w11 ⟨rfl, b11⟩); (have B11 := B10.trans (b11.mono B10.size)); (have D11 := D10.trans (b11.mono D10.size)); (have F11 := b11); (have a2 := Ha2.out w11 B11); (go_wp2_with (fail)); (refine a2.mono ?_); (rintro e w12 ⟨⟨v12, q12, rfl, -⟩, b12⟩); (clear a2); (have B12 := B11.trans (b12.mono B11.size)); (have D12 := D11.trans (b12.mono D11.size)); (have F12 := F11.trans (b12.mono F11.size)); (have n12 := (D12.block _ (lt_of_block nW)).trans nW); (have r1 : w12.cell? ⟨w2.heap.size, 1, none⟩ = some (.bool x.dir) := cell_of_blk n12)
            rw [hxd] at r1
            go_wp2_with (fail)
            go_ret
            exact ⟨rfl, B12⟩
          · rw [if_neg h60] at e1
            have hl : ¬ l.length = 60 := by omega
            (have ha1 := Hadd.out w9 B9 (fileN pp) rfl rfl); (rw [e1] at ha1); (have ha2 := fun W hW => Hadd.out W hW (fileN (pp ++ ⟨#[47, 121]⟩)) rfl rfl); (generalize addE l (fileN (pp ++ ⟨#[47, 121]⟩)) = E2 at *); (have e2' : (E2 != 0) = true := by simpa using e2); (have Ha1 := Lib.hid ha1); (have Ha2 := Lib.hid ha2); (clear ha1 ha2 e1 e2 HE1 HE2); (go_wp2_with (fail)); (refine Ha1.out.mono ?_); (rintro e w10 ⟨⟨v10, q10, rfl, hO10, hq10⟩, b10⟩); (have B10 := B9.trans (b10.mono B9.size)); (have D10 := D9.trans (b10.mono D9.size)); (have HO10 := Lib.hid hO10); (have Hq10 := Lib.hid hq10); (clear hO10 hq10); (go_wp2_with (fail)); (refine (hfile _ _).mono ?_); (rintro e w11 ⟨rfl, b11⟩); (have B11 := B10.trans (b11.mono B10.size)); (have D11 := D10.trans (b11.mono D10.size)); (have F11 := b11); (have a2 := Ha2.out w11 B11); (go_wp2_with (fail)); (refine a2.mono ?_); (rintro e w12 ⟨⟨v12, q12, rfl, -⟩, b12⟩); (clear a2); (have B12 := B11.trans (b12.mono B11.size)); (have D12 := D11.trans (b12.mono D11.size)); (have F12 := F11.trans (b12.mono F11.size)); (have n12 := (D12.block _ (lt_of_block nW)).trans nW); (have r1 : w12.cell? ⟨w2.heap.size, 1, none⟩ = some (.bool x.dir) := cell_of_blk n12)
            rw [hxd] at r1
            have hqa : q10.map pur = addL l (fileN pp) := by have := Hq10.out; simpa using this
            have hin := add_in hqa
            have hlen : q10.length ≤ 8796093022208 := by
              have h1 := congrArg List.length hqa
              rw [addL, List.length_map, List.length_map, (ins_perm _ _).length_eq, List.length_cons] at h1
              omega
            have hfm := find_calls w12 v10 q10 pp (HO10.out.rd.below F12) hlen
            have hin' : 0 ≤ findI (bs pp) q10 := hin
            generalize findI (bs pp) q10 = g at *
            clear hqa hin
            go_wp2_with (fail)
            refine hfm.mono ?_
            rintro e w13 ⟨rfl, b13⟩
            go_wp2_with (fail)
            go_ret
            exact ⟨rfl, B12.trans (b13.mono B12.size)⟩
      · have hp47 : bs x.path = [47] := by rw [hsl] at hxp; simpa using hxp
        have hpp : bs (⟨#[47]⟩ ++ name) = inD (bs x.path) ++ bs name := by rw [inD, if_pos hp47]; simp [bs, ByteArray.data_append]
        have Hpp := Lib.hid hpp
        clear hpp hsl hp47
        have bW : Below w.heap.size w (w2.alloc (.cells #[.string x.path, .bool x.dir, .int .i64 x.quota, .slice ax x.blocks.length cx, .int .i64 x.writer] 25 (0, 0))) := B2.alloc B2.size _
        have nW : (w2.alloc (.cells #[.string x.path, .bool x.dir, .int .i64 x.quota, .slice ax x.blocks.length cx, .int .i64 x.writer] 25 (0, 0))).heap[w2.heap.size]? = some (.cells #[.string x.path, .bool x.dir, .int .i64 x.quota, .slice ax x.blocks.length cx, .int .i64 x.writer] 25 (0, 0)) := heap_alloc_new _ _
        generalize hW : w2.alloc (.cells #[.string x.path, .bool x.dir, .int .i64 x.quota, .slice ax x.blocks.length cx, .int .i64 x.writer] 25 (0, 0)) = W at *
        have q0 : W.cell? ⟨w2.heap.size, 0, none⟩ = some (.string x.path) := cell_of_blk nW
        go_wp2_with (fail)
        generalize (⟨#[47]⟩ ++ name : ByteArray) = pp at *
        have hqq : bs (pp ++ ⟨#[47, 121]⟩) = bs pp ++ 47 :: [121] := by simp [bs, ByteArray.data_append]
        (refine (Hname.out _).mono ?_); (rintro e w5 ⟨rfl, b5⟩); (have B5 := bW.trans (b5.mono bW.size)); (have D5 := b5); (cases hnl : nameL (bs name)); (go_wp2_with (fail); go_ret; exact ⟨rfl, B5⟩); (go_wp2_with (fail)); (refine (hfile _ _).mono ?_); (rintro e w6 ⟨rfl, b6⟩); (have B6 := B5.trans (b6.mono B5.size)); (have D6 := D5.trans (b6.mono D5.size)); (have hft := Hfits.out w6 B6 pp); (go_wp2_with (fail)); (refine hft.mono ?_); (rintro e w7 ⟨rfl, b7⟩); (clear hft); (have B7 := B6.trans (b7.mono B6.size)); (have D7 := D6.trans (b7.mono D6.size)); (cases hfp : fitsN (fileN pp)); (go_wp2_with (fail); go_ret; exact ⟨rfl, B7⟩); (have hfi := Hfind.out w7 B7 pp); (have hE1 := fun h => ref_new Hr.out (List.mem_of_getElem? Hx.out) Hpp.out hnl hfp h); (have hE2 := fun h => ref_below (l := l) (file_fits hfp).1 (file_fits hfp).2 hqq (n := [121]) (by decide) h); (have hp120 : pp.size ≤ 120 := path_len (file_fits hfp).1); (have HE1 := Lib.hid hE1); (have HE2 := Lib.hid hE2); (clear hE1 hE2 hnl hfp); (generalize findI (bs pp) l = fi at *); (go_wp2_with (fail)); (refine hfi.mono ?_); (rintro e w8 ⟨rfl, b8⟩); (clear hfi); (have B8 := B7.trans (b8.mono B7.size)); (have D8 := D7.trans (b8.mono D7.size)); (by_cases hfd : 0 ≤ fi); (go_wp2_with (fail); go_ret; exact ⟨rfl, B8⟩); (have hlt : fi < 0 := by omega); (have e1 := HE1.out hlt); (have e2 := HE2.out hlt); (go_wp2_with (fail)); (refine (hfile _ _).mono ?_); (rintro e w9 ⟨rfl, b9⟩); (have B9 := B8.trans (b9.mono B8.size)); (have D9 := D8.trans (b9.mono D8.size))
        cases hxd : x.dir
        · rw [hxd, if_neg (by simp)] at e1
          (have ha1 := Hadd.out w9 B9 (fileN pp) rfl rfl); (rw [e1] at ha1); (have ha2 := fun W hW => Hadd.out W hW (fileN (pp ++ ⟨#[47, 121]⟩)) rfl rfl); (generalize addE l (fileN (pp ++ ⟨#[47, 121]⟩)) = E2 at *); (have e2' : (E2 != 0) = true := by simpa using e2); (have Ha1 := Lib.hid ha1); (have Ha2 := Lib.hid ha2); (clear ha1 ha2 e1 e2 HE1 HE2); (go_wp2_with (fail)); (refine Ha1.out.mono ?_); (rintro e w10 ⟨⟨v10, q10, rfl, hO10, hq10⟩, b10⟩); (have B10 := B9.trans (b10.mono B9.size)); (have D10 := D9.trans (b10.mono D9.size)); (have HO10 := Lib.hid hO10); (have Hq10 := Lib.hid hq10); (clear hO10 hq10); (go_wp2_with (fail)); (refine (hfile _ _).mono ?_); (rintro e w11 ⟨rfl, b11⟩); (have B11 := B10.trans (b11.mono B10.size)); (have D11 := D10.trans (b11.mono D10.size)); (have F11 := b11); (have a2 := Ha2.out w11 B11); (go_wp2_with (fail)); (refine a2.mono ?_); (rintro e w12 ⟨⟨v12, q12, rfl, -⟩, b12⟩); (clear a2); (have B12 := B11.trans (b12.mono B11.size)); (have D12 := D11.trans (b12.mono D11.size)); (have F12 := F11.trans (b12.mono F11.size)); (have n12 := (D12.block _ (lt_of_block nW)).trans nW); (have r1 : w12.cell? ⟨w2.heap.size, 1, none⟩ = some (.bool x.dir) := cell_of_blk n12)
          rw [hxd] at r1
          go_wp2_with (fail)
          go_ret
          exact ⟨rfl, B12⟩
        · rw [hxd, if_pos rfl] at e1
          by_cases h60 : 60 ≤ l.length
          · rw [if_pos h60] at e1
            have hl : ((l.length : Int) == 60) = true := by
              have : l.length = 60 := by omega
              rw [this]; rfl
            (have ha1 := Hadd.out w9 B9 (fileN pp) rfl rfl); (rw [e1] at ha1); (have ha2 := fun W hW => Hadd.out W hW (fileN (pp ++ ⟨#[47, 121]⟩)) rfl rfl); (generalize addE l (fileN (pp ++ ⟨#[47, 121]⟩)) = E2 at *); (have e2' : (E2 != 0) = true := by simpa using e2); (have Ha1 := Lib.hid ha1); (have Ha2 := Lib.hid ha2); (clear ha1 ha2 e1 e2 HE1 HE2); (go_wp2_with (fail)); (refine Ha1.out.mono ?_); (rintro e w10 ⟨⟨v10, q10, rfl, hO10, hq10⟩, b10⟩); (have B10 := B9.trans (b10.mono B9.size)); (have D10 := D9.trans (b10.mono D9.size)); (have HO10 := Lib.hid hO10); (have Hq10 := Lib.hid hq10); (clear hO10 hq10); (go_wp2_with (fail)); (refine (hfile _ _).mono ?_); (rintro e w11 ⟨rfl, b11⟩); (have B11 := B10.trans (b11.mono B10.size)); (have D11 := D10.trans (b11.mono D10.size)); (have F11 := b11); (have a2 := Ha2.out w11 B11); (go_wp2_with (fail)); (refine a2.mono ?_); (rintro e w12 ⟨⟨v12, q12, rfl, -⟩, b12⟩); (clear a2); (have B12 := B11.trans (b12.mono B11.size)); (have D12 := D11.trans (b12.mono D11.size)); (have F12 := F11.trans (b12.mono F11.size)); (have n12 := (D12.block _ (lt_of_block nW)).trans nW); (have r1 : w12.cell? ⟨w2.heap.size, 1, none⟩ = some (.bool x.dir) := cell_of_blk n12)
            rw [hxd] at r1
            go_wp2_with (fail)
            go_ret
            exact ⟨rfl, B12⟩
          · rw [if_neg h60] at e1
            have hl : ¬ l.length = 60 := by omega
            (have ha1 := Hadd.out w9 B9 (fileN pp) rfl rfl); (rw [e1] at ha1); (have ha2 := fun W hW => Hadd.out W hW (fileN (pp ++ ⟨#[47, 121]⟩)) rfl rfl); (generalize addE l (fileN (pp ++ ⟨#[47, 121]⟩)) = E2 at *); (have e2' : (E2 != 0) = true := by simpa using e2); (have Ha1 := Lib.hid ha1); (have Ha2 := Lib.hid ha2); (clear ha1 ha2 e1 e2 HE1 HE2); (go_wp2_with (fail)); (refine Ha1.out.mono ?_); (rintro e w10 ⟨⟨v10, q10, rfl, hO10, hq10⟩, b10⟩); (have B10 := B9.trans (b10.mono B9.size)); (have D10 := D9.trans (b10.mono D9.size)); (have HO10 := Lib.hid hO10); (have Hq10 := Lib.hid hq10); (clear hO10 hq10); (go_wp2_with (fail)); (refine (hfile _ _).mono ?_); (rintro e w11 ⟨rfl, b11⟩); (have B11 := B10.trans (b11.mono B10.size)); (have D11 := D10.trans (b11.mono D10.size)); (have F11 := b11); (have a2 := Ha2.out w11 B11); (go_wp2_with (fail)); (refine a2.mono ?_); (rintro e w12 ⟨⟨v12, q12, rfl, -⟩, b12⟩); (clear a2); (have B12 := B11.trans (b12.mono B11.size)); (have D12 := D11.trans (b12.mono D11.size)); (have F12 := F11.trans (b12.mono F11.size)); (have n12 := (D12.block _ (lt_of_block nW)).trans nW); (have r1 : w12.cell? ⟨w2.heap.size, 1, none⟩ = some (.bool x.dir) := cell_of_blk n12)
            rw [hxd] at r1
            have hqa : q10.map pur = addL l (fileN pp) := by have := Hq10.out; simpa using this
            have hin := add_in hqa
            have hlen : q10.length ≤ 8796093022208 := by
              have h1 := congrArg List.length hqa
              rw [addL, List.length_map, List.length_map, (ins_perm _ _).length_eq, List.length_cons] at h1
              omega
            have hfm := find_calls w12 v10 q10 pp (HO10.out.rd.below F12) hlen
            have hin' : 0 ≤ findI (bs pp) q10 := hin
            generalize findI (bs pp) q10 = g at *
            clear hqa hin
            go_wp2_with (fail)
            refine hfm.mono ?_
            rintro e w13 ⟨rfl, b13⟩
            go_wp2_with (fail)
            go_ret
            exact ⟨rfl, B12.trans (b13.mono B12.size)⟩
    · obtain ⟨k, hk, hkm⟩ : ∃ k : Nat, k < l.length ∧ at_.tmod (l.length : Int) = k := ⟨(at_.tmod (l.length : Int)).toNat, by
        have h1 := Int.tmod_nonneg (l.length : Int) (show 0 ≤ at_ by omega)
        have h2 := Int.tmod_lt_of_pos at_ (show 0 < (l.length : Int) by omega)
        omega, by
        have h1 := Int.tmod_nonneg (l.length : Int) (show 0 ≤ at_ by omega)
        omega⟩
      obtain ⟨x, hx⟩ : ∃ x, l[k]? = some x := ⟨l[k], by simp [hk]⟩
      obtain ⟨b, off, rfl, _, c0, c1, c2, c3, c4⟩ := Hcell.out w2 B2 k x hx
      obtain ⟨ax, cx, hbv⟩ := Hbvs.out x (List.mem_of_getElem? hx)
      rw [hbv] at c3
      have h120 : x.path.size ≤ 120 := path_len (right_splits Hr.out (List.mem_of_getElem? hx))
      have Hx := Lib.hid hx
      clear hx hbv
      have hsl : (x.path.toList == [47]) = (bs x.path == [47]) := by rw [tl_bs]
      cases hxp : (x.path.toList == [47])
      · have hp47 : bs x.path ≠ [47] := fun e => by rw [hsl, e] at hxp; simp at hxp
        have hpp : bs (x.path ++ ⟨#[47]⟩ ++ name) = inD (bs x.path) ++ bs name := by rw [inD, if_neg hp47]; simp [bs, ByteArray.data_append]
        have hex := ref_exist Hr.out (List.mem_of_getElem? Hx.out) hp47
        have Hpp := Lib.hid hpp; have Hex := Lib.hid hex
        clear hpp hex hsl hp47
        go_wp2_with (fail)
        refine (hdir _ _).mono ?_
        rintro e w3 ⟨rfl, b3⟩
        have DW : Below (w2.alloc (.cells #[.string x.path, .bool x.dir, .int .i64 x.quota, .slice ax x.blocks.length cx, .int .i64 x.writer] 25 (0, 0))).heap.size (w2.alloc (.cells #[.string x.path, .bool x.dir, .int .i64 x.quota, .slice ax x.blocks.length cx, .int .i64 x.writer] 25 (0, 0))) w3 := b3
        have B3 : Below w.heap.size w w3 := (B2.alloc B2.size _).trans (b3.mono (by have := B2.size; simp; omega))
        have had := Hadd.out w3 B3 (dirN x.path) rfl rfl
        rw [Hex.out] at had
        have n3 : w3.heap[w2.heap.size]? = some (.cells #[.string x.path, .bool x.dir, .int .i64 x.quota, .slice ax x.blocks.length cx, .int .i64 x.writer] 25 (0, 0)) := (b3.block _ (by simp)).trans (heap_alloc_new _ _)
        have p0 : w3.cell? ⟨w2.heap.size, 0, none⟩ = some (.string x.path) := cell_of_blk n3
        go_wp2_with (fail)
        refine had.mono ?_
        rintro e W ⟨⟨v4, q4, rfl, -⟩, b4⟩
        have bW : Below w.heap.size w W := B3.trans (b4.mono B3.size)
        have nW : W.heap[w2.heap.size]? = some (.cells #[.string x.path, .bool x.dir, .int .i64 x.quota, .slice ax x.blocks.length cx, .int .i64 x.writer] 25 (0, 0)) := (b4.block _ (lt_of_block n3)).trans n3
        have q0 : W.cell? ⟨w2.heap.size, 0, none⟩ = some (.string x.path) := cell_of_blk nW
        clear had
        go_wp2_with (fail)
        generalize x.path ++ ⟨#[47]⟩ ++ name = pp at *
        have hqq : bs (pp ++ ⟨#[47, 121]⟩) = bs pp ++ 47 :: [121] := by simp [bs, ByteArray.data_append]
        (refine (Hname.out _).mono ?_); (rintro e w5 ⟨rfl, b5⟩); (have B5 := bW.trans (b5.mono bW.size)); (have D5 := b5); (cases hnl : nameL (bs name)); (go_wp2_with (fail); go_ret; exact ⟨rfl, B5⟩); (go_wp2_with (fail)); (refine (hfile _ _).mono ?_); (rintro e w6 ⟨rfl, b6⟩); (have B6 := B5.trans (b6.mono B5.size)); (have D6 := D5.trans (b6.mono D5.size)); (have hft := Hfits.out w6 B6 pp); (go_wp2_with (fail)); (refine hft.mono ?_); (rintro e w7 ⟨rfl, b7⟩); (clear hft); (have B7 := B6.trans (b7.mono B6.size)); (have D7 := D6.trans (b7.mono D6.size)); (cases hfp : fitsN (fileN pp)); (go_wp2_with (fail); go_ret; exact ⟨rfl, B7⟩); (have hfi := Hfind.out w7 B7 pp); (have hE1 := fun h => ref_new Hr.out (List.mem_of_getElem? Hx.out) Hpp.out hnl hfp h); (have hE2 := fun h => ref_below (l := l) (file_fits hfp).1 (file_fits hfp).2 hqq (n := [121]) (by decide) h); (have hp120 : pp.size ≤ 120 := path_len (file_fits hfp).1); (have HE1 := Lib.hid hE1); (have HE2 := Lib.hid hE2); (clear hE1 hE2 hnl hfp); (generalize findI (bs pp) l = fi at *); (go_wp2_with (fail)); (refine hfi.mono ?_); (rintro e w8 ⟨rfl, b8⟩); (clear hfi); (have B8 := B7.trans (b8.mono B7.size)); (have D8 := D7.trans (b8.mono D7.size)); (by_cases hfd : 0 ≤ fi); (go_wp2_with (fail); go_ret; exact ⟨rfl, B8⟩); (have hlt : fi < 0 := by omega); (have e1 := HE1.out hlt); (have e2 := HE2.out hlt); (go_wp2_with (fail)); (refine (hfile _ _).mono ?_); (rintro e w9 ⟨rfl, b9⟩); (have B9 := B8.trans (b9.mono B8.size)); (have D9 := D8.trans (b9.mono D8.size))
        cases hxd : x.dir
        · rw [hxd, if_neg (by simp)] at e1
          (have ha1 := Hadd.out w9 B9 (fileN pp) rfl rfl); (rw [e1] at ha1); (have ha2 := fun W hW => Hadd.out W hW (fileN (pp ++ ⟨#[47, 121]⟩)) rfl rfl); (generalize addE l (fileN (pp ++ ⟨#[47, 121]⟩)) = E2 at *); (have e2' : (E2 != 0) = true := by simpa using e2); (have Ha1 := Lib.hid ha1); (have Ha2 := Lib.hid ha2); (clear ha1 ha2 e1 e2 HE1 HE2); (go_wp2_with (fail)); (refine Ha1.out.mono ?_); (rintro e w10 ⟨⟨v10, q10, rfl, hO10, hq10⟩, b10⟩); (have B10 := B9.trans (b10.mono B9.size)); (have D10 := D9.trans (b10.mono D9.size)); (have HO10 := Lib.hid hO10); (have Hq10 := Lib.hid hq10); (clear hO10 hq10); (go_wp2_with (fail)); (refine (hfile _ _).mono ?_); (rintro e w11 ⟨rfl, b11⟩); (have B11 := B10.trans (b11.mono B10.size)); (have D11 := D10.trans (b11.mono D10.size)); (have F11 := b11); (have a2 := Ha2.out w11 B11); (go_wp2_with (fail)); (refine a2.mono ?_); (rintro e w12 ⟨⟨v12, q12, rfl, -⟩, b12⟩); (clear a2); (have B12 := B11.trans (b12.mono B11.size)); (have D12 := D11.trans (b12.mono D11.size)); (have F12 := F11.trans (b12.mono F11.size)); (have n12 := (D12.block _ (lt_of_block nW)).trans nW); (have r1 : w12.cell? ⟨w2.heap.size, 1, none⟩ = some (.bool x.dir) := cell_of_blk n12)
          rw [hxd] at r1
          go_wp2_with (fail)
          go_ret
          exact ⟨rfl, B12⟩
        · rw [hxd, if_pos rfl] at e1
          by_cases h60 : 60 ≤ l.length
          · rw [if_pos h60] at e1
            have hl : ((l.length : Int) == 60) = true := by
              have : l.length = 60 := by omega
              rw [this]; rfl
            (have ha1 := Hadd.out w9 B9 (fileN pp) rfl rfl); (rw [e1] at ha1); (have ha2 := fun W hW => Hadd.out W hW (fileN (pp ++ ⟨#[47, 121]⟩)) rfl rfl); (generalize addE l (fileN (pp ++ ⟨#[47, 121]⟩)) = E2 at *); (have e2' : (E2 != 0) = true := by simpa using e2); (have Ha1 := Lib.hid ha1); (have Ha2 := Lib.hid ha2); (clear ha1 ha2 e1 e2 HE1 HE2); (go_wp2_with (fail)); (refine Ha1.out.mono ?_); (rintro e w10 ⟨⟨v10, q10, rfl, hO10, hq10⟩, b10⟩); (have B10 := B9.trans (b10.mono B9.size)); (have D10 := D9.trans (b10.mono D9.size)); (have HO10 := Lib.hid hO10); (have Hq10 := Lib.hid hq10); (clear hO10 hq10); (go_wp2_with (fail)); (refine (hfile _ _).mono ?_); (rintro e w11 ⟨rfl, b11⟩); (have B11 := B10.trans (b11.mono B10.size)); (have D11 := D10.trans (b11.mono D10.size)); (have F11 := b11); (have a2 := Ha2.out w11 B11); (go_wp2_with (fail)); (refine a2.mono ?_); (rintro e w12 ⟨⟨v12, q12, rfl, -⟩, b12⟩); (clear a2); (have B12 := B11.trans (b12.mono B11.size)); (have D12 := D11.trans (b12.mono D11.size)); (have F12 := F11.trans (b12.mono F11.size)); (have n12 := (D12.block _ (lt_of_block nW)).trans nW); (have r1 : w12.cell? ⟨w2.heap.size, 1, none⟩ = some (.bool x.dir) := cell_of_blk n12)
            rw [hxd] at r1
            go_wp2_with (fail)
            go_ret
            exact ⟨rfl, B12⟩
          · rw [if_neg h60] at e1
            have hl : ¬ l.length = 60 := by omega
            (have ha1 := Hadd.out w9 B9 (fileN pp) rfl rfl); (rw [e1] at ha1); (have ha2 := fun W hW => Hadd.out W hW (fileN (pp ++ ⟨#[47, 121]⟩)) rfl rfl); (generalize addE l (fileN (pp ++ ⟨#[47, 121]⟩)) = E2 at *); (have e2' : (E2 != 0) = true := by simpa using e2); (have Ha1 := Lib.hid ha1); (have Ha2 := Lib.hid ha2); (clear ha1 ha2 e1 e2 HE1 HE2); (go_wp2_with (fail)); (refine Ha1.out.mono ?_); (rintro e w10 ⟨⟨v10, q10, rfl, hO10, hq10⟩, b10⟩); (have B10 := B9.trans (b10.mono B9.size)); (have D10 := D9.trans (b10.mono D9.size)); (have HO10 := Lib.hid hO10); (have Hq10 := Lib.hid hq10); (clear hO10 hq10); (go_wp2_with (fail)); (refine (hfile _ _).mono ?_); (rintro e w11 ⟨rfl, b11⟩); (have B11 := B10.trans (b11.mono B10.size)); (have D11 := D10.trans (b11.mono D10.size)); (have F11 := b11); (have a2 := Ha2.out w11 B11); (go_wp2_with (fail)); (refine a2.mono ?_); (rintro e w12 ⟨⟨v12, q12, rfl, -⟩, b12⟩); (clear a2); (have B12 := B11.trans (b12.mono B11.size)); (have D12 := D11.trans (b12.mono D11.size)); (have F12 := F11.trans (b12.mono F11.size)); (have n12 := (D12.block _ (lt_of_block nW)).trans nW); (have r1 : w12.cell? ⟨w2.heap.size, 1, none⟩ = some (.bool x.dir) := cell_of_blk n12)
            rw [hxd] at r1
            have hqa : q10.map pur = addL l (fileN pp) := by have := Hq10.out; simpa using this
            have hin := add_in hqa
            have hlen : q10.length ≤ 8796093022208 := by
              have h1 := congrArg List.length hqa
              rw [addL, List.length_map, List.length_map, (ins_perm _ _).length_eq, List.length_cons] at h1
              omega
            have hfm := find_calls w12 v10 q10 pp (HO10.out.rd.below F12) hlen
            have hin' : 0 ≤ findI (bs pp) q10 := hin
            generalize findI (bs pp) q10 = g at *
            clear hqa hin
            go_wp2_with (fail)
            refine hfm.mono ?_
            rintro e w13 ⟨rfl, b13⟩
            go_wp2_with (fail)
            go_ret
            exact ⟨rfl, B12.trans (b13.mono B12.size)⟩
      · have hp47 : bs x.path = [47] := by rw [hsl] at hxp; simpa using hxp
        have hpp : bs (⟨#[47]⟩ ++ name) = inD (bs x.path) ++ bs name := by rw [inD, if_pos hp47]; simp [bs, ByteArray.data_append]
        have Hpp := Lib.hid hpp
        clear hpp hsl hp47
        have bW : Below w.heap.size w (w2.alloc (.cells #[.string x.path, .bool x.dir, .int .i64 x.quota, .slice ax x.blocks.length cx, .int .i64 x.writer] 25 (0, 0))) := B2.alloc B2.size _
        have nW : (w2.alloc (.cells #[.string x.path, .bool x.dir, .int .i64 x.quota, .slice ax x.blocks.length cx, .int .i64 x.writer] 25 (0, 0))).heap[w2.heap.size]? = some (.cells #[.string x.path, .bool x.dir, .int .i64 x.quota, .slice ax x.blocks.length cx, .int .i64 x.writer] 25 (0, 0)) := heap_alloc_new _ _
        generalize hW : w2.alloc (.cells #[.string x.path, .bool x.dir, .int .i64 x.quota, .slice ax x.blocks.length cx, .int .i64 x.writer] 25 (0, 0)) = W at *
        have q0 : W.cell? ⟨w2.heap.size, 0, none⟩ = some (.string x.path) := cell_of_blk nW
        go_wp2_with (fail)
        generalize (⟨#[47]⟩ ++ name : ByteArray) = pp at *
        have hqq : bs (pp ++ ⟨#[47, 121]⟩) = bs pp ++ 47 :: [121] := by simp [bs, ByteArray.data_append]
        (refine (Hname.out _).mono ?_); (rintro e w5 ⟨rfl, b5⟩); (have B5 := bW.trans (b5.mono bW.size)); (have D5 := b5); (cases hnl : nameL (bs name)); (go_wp2_with (fail); go_ret; exact ⟨rfl, B5⟩); (go_wp2_with (fail)); (refine (hfile _ _).mono ?_); (rintro e w6 ⟨rfl, b6⟩); (have B6 := B5.trans (b6.mono B5.size)); (have D6 := D5.trans (b6.mono D5.size)); (have hft := Hfits.out w6 B6 pp); (go_wp2_with (fail)); (refine hft.mono ?_); (rintro e w7 ⟨rfl, b7⟩); (clear hft); (have B7 := B6.trans (b7.mono B6.size)); (have D7 := D6.trans (b7.mono D6.size)); (cases hfp : fitsN (fileN pp)); (go_wp2_with (fail); go_ret; exact ⟨rfl, B7⟩); (have hfi := Hfind.out w7 B7 pp); (have hE1 := fun h => ref_new Hr.out (List.mem_of_getElem? Hx.out) Hpp.out hnl hfp h); (have hE2 := fun h => ref_below (l := l) (file_fits hfp).1 (file_fits hfp).2 hqq (n := [121]) (by decide) h); (have hp120 : pp.size ≤ 120 := path_len (file_fits hfp).1); (have HE1 := Lib.hid hE1); (have HE2 := Lib.hid hE2); (clear hE1 hE2 hnl hfp); (generalize findI (bs pp) l = fi at *); (go_wp2_with (fail)); (refine hfi.mono ?_); (rintro e w8 ⟨rfl, b8⟩); (clear hfi); (have B8 := B7.trans (b8.mono B7.size)); (have D8 := D7.trans (b8.mono D7.size)); (by_cases hfd : 0 ≤ fi); (go_wp2_with (fail); go_ret; exact ⟨rfl, B8⟩); (have hlt : fi < 0 := by omega); (have e1 := HE1.out hlt); (have e2 := HE2.out hlt); (go_wp2_with (fail)); (refine (hfile _ _).mono ?_); (rintro e w9 ⟨rfl, b9⟩); (have B9 := B8.trans (b9.mono B8.size)); (have D9 := D8.trans (b9.mono D8.size))
        cases hxd : x.dir
        · rw [hxd, if_neg (by simp)] at e1
          (have ha1 := Hadd.out w9 B9 (fileN pp) rfl rfl); (rw [e1] at ha1); (have ha2 := fun W hW => Hadd.out W hW (fileN (pp ++ ⟨#[47, 121]⟩)) rfl rfl); (generalize addE l (fileN (pp ++ ⟨#[47, 121]⟩)) = E2 at *); (have e2' : (E2 != 0) = true := by simpa using e2); (have Ha1 := Lib.hid ha1); (have Ha2 := Lib.hid ha2); (clear ha1 ha2 e1 e2 HE1 HE2); (go_wp2_with (fail)); (refine Ha1.out.mono ?_); (rintro e w10 ⟨⟨v10, q10, rfl, hO10, hq10⟩, b10⟩); (have B10 := B9.trans (b10.mono B9.size)); (have D10 := D9.trans (b10.mono D9.size)); (have HO10 := Lib.hid hO10); (have Hq10 := Lib.hid hq10); (clear hO10 hq10); (go_wp2_with (fail)); (refine (hfile _ _).mono ?_); (rintro e w11 ⟨rfl, b11⟩); (have B11 := B10.trans (b11.mono B10.size)); (have D11 := D10.trans (b11.mono D10.size)); (have F11 := b11); (have a2 := Ha2.out w11 B11); (go_wp2_with (fail)); (refine a2.mono ?_); (rintro e w12 ⟨⟨v12, q12, rfl, -⟩, b12⟩); (clear a2); (have B12 := B11.trans (b12.mono B11.size)); (have D12 := D11.trans (b12.mono D11.size)); (have F12 := F11.trans (b12.mono F11.size)); (have n12 := (D12.block _ (lt_of_block nW)).trans nW); (have r1 : w12.cell? ⟨w2.heap.size, 1, none⟩ = some (.bool x.dir) := cell_of_blk n12)
          rw [hxd] at r1
          go_wp2_with (fail)
          go_ret
          exact ⟨rfl, B12⟩
        · rw [hxd, if_pos rfl] at e1
          by_cases h60 : 60 ≤ l.length
          · rw [if_pos h60] at e1
            have hl : ((l.length : Int) == 60) = true := by
              have : l.length = 60 := by omega
              rw [this]; rfl
            (have ha1 := Hadd.out w9 B9 (fileN pp) rfl rfl); (rw [e1] at ha1); (have ha2 := fun W hW => Hadd.out W hW (fileN (pp ++ ⟨#[47, 121]⟩)) rfl rfl); (generalize addE l (fileN (pp ++ ⟨#[47, 121]⟩)) = E2 at *); (have e2' : (E2 != 0) = true := by simpa using e2); (have Ha1 := Lib.hid ha1); (have Ha2 := Lib.hid ha2); (clear ha1 ha2 e1 e2 HE1 HE2); (go_wp2_with (fail)); (refine Ha1.out.mono ?_); (rintro e w10 ⟨⟨v10, q10, rfl, hO10, hq10⟩, b10⟩); (have B10 := B9.trans (b10.mono B9.size)); (have D10 := D9.trans (b10.mono D9.size)); (have HO10 := Lib.hid hO10); (have Hq10 := Lib.hid hq10); (clear hO10 hq10); (go_wp2_with (fail)); (refine (hfile _ _).mono ?_); (rintro e w11 ⟨rfl, b11⟩); (have B11 := B10.trans (b11.mono B10.size)); (have D11 := D10.trans (b11.mono D10.size)); (have F11 := b11); (have a2 := Ha2.out w11 B11); (go_wp2_with (fail)); (refine a2.mono ?_); (rintro e w12 ⟨⟨v12, q12, rfl, -⟩, b12⟩); (clear a2); (have B12 := B11.trans (b12.mono B11.size)); (have D12 := D11.trans (b12.mono D11.size)); (have F12 := F11.trans (b12.mono F11.size)); (have n12 := (D12.block _ (lt_of_block nW)).trans nW); (have r1 : w12.cell? ⟨w2.heap.size, 1, none⟩ = some (.bool x.dir) := cell_of_blk n12)
            rw [hxd] at r1
            go_wp2_with (fail)
            go_ret
            exact ⟨rfl, B12⟩
          · rw [if_neg h60] at e1
            have hl : ¬ l.length = 60 := by omega
            (have ha1 := Hadd.out w9 B9 (fileN pp) rfl rfl); (rw [e1] at ha1); (have ha2 := fun W hW => Hadd.out W hW (fileN (pp ++ ⟨#[47, 121]⟩)) rfl rfl); (generalize addE l (fileN (pp ++ ⟨#[47, 121]⟩)) = E2 at *); (have e2' : (E2 != 0) = true := by simpa using e2); (have Ha1 := Lib.hid ha1); (have Ha2 := Lib.hid ha2); (clear ha1 ha2 e1 e2 HE1 HE2); (go_wp2_with (fail)); (refine Ha1.out.mono ?_); (rintro e w10 ⟨⟨v10, q10, rfl, hO10, hq10⟩, b10⟩); (have B10 := B9.trans (b10.mono B9.size)); (have D10 := D9.trans (b10.mono D9.size)); (have HO10 := Lib.hid hO10); (have Hq10 := Lib.hid hq10); (clear hO10 hq10); (go_wp2_with (fail)); (refine (hfile _ _).mono ?_); (rintro e w11 ⟨rfl, b11⟩); (have B11 := B10.trans (b11.mono B10.size)); (have D11 := D10.trans (b11.mono D10.size)); (have F11 := b11); (have a2 := Ha2.out w11 B11); (go_wp2_with (fail)); (refine a2.mono ?_); (rintro e w12 ⟨⟨v12, q12, rfl, -⟩, b12⟩); (clear a2); (have B12 := B11.trans (b12.mono B11.size)); (have D12 := D11.trans (b12.mono D11.size)); (have F12 := F11.trans (b12.mono F11.size)); (have n12 := (D12.block _ (lt_of_block nW)).trans nW); (have r1 : w12.cell? ⟨w2.heap.size, 1, none⟩ = some (.bool x.dir) := cell_of_blk n12)
            rw [hxd] at r1
            have hqa : q10.map pur = addL l (fileN pp) := by have := Hq10.out; simpa using this
            have hin := add_in hqa
            have hlen : q10.length ≤ 8796093022208 := by
              have h1 := congrArg List.length hqa
              rw [addL, List.length_map, List.length_map, (ins_perm _ _).length_eq, List.length_cons] at h1
              omega
            have hfm := find_calls w12 v10 q10 pp (HO10.out.rd.below F12) hlen
            have hin' : 0 ≤ findI (bs pp) q10 := hin
            generalize findI (bs pp) q10 = g at *
            clear hqa hin
            go_wp2_with (fail)
            refine hfm.mono ?_
            rintro e w13 ⟨rfl, b13⟩
            go_wp2_with (fail)
            go_ret
            exact ⟨rfl, B12.trans (b13.mono B12.size)⟩
theorem law_refusesR (v : Value) (l : List Nd) (at_ : Int) (name : ByteArray) (w : World) (hM : MaxC w) (h : RdN w v l ∧ (∀ x ∈ l, OkN w x) ∧ l.length ≤ 8796093022208) (ha : inI at_) (hnm : (bs name).length ≤ reachBytes) :
    Calls Tryz.prog 6 #[v, .int .i64 at_, .string name] w fun e w' => e = .returned (.bool true) ∧ Below w.heap.size w w' :=
  law_refuses w v l at_ name h.1 h.2.2 hM ha (by have h1 : (bs name).length = name.size := by simp [bs]
                                                 rw [h1] at hnm; unfold reachBytes at hnm; omega)
end Go.Proofs.YtpghaghmejgjbaaGreatDoor.Tree
