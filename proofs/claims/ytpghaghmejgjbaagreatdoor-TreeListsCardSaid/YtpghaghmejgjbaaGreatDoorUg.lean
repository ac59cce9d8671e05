/- Trees (chapter 7): TreeLists, walked. -/
import Derived.Test.YtpghaghmejgjbaaGreatDoorUf
import Derived.Test.YtpghaghmejgjbaaGreatDoorUd
import Derived.Deep.RegionHeld3
import Derived.Laws.Cover1
namespace Go.Proofs.YtpghaghmejgjbaaGreatDoor.Tree
open Go.RowKit
open Path (Bs bs mk bs_mk mk_bs tl_bs splitE splitL MaxC parD parE parN nameL rd_cellsS OwnS)
set_option linter.unusedSimpArgs false
set_option linter.unusedVariables false

set_option maxRecDepth 4000 in
set_option maxHeartbeats 16000000 in
theorem law_lists (v : Value) (l : List Nd) (w : World) (hM : MaxC w) (h0 : RdN w v l ∧ (∀ x ∈ l, OkN w x) ∧ l.length ≤ 8796093022208) :
    Calls Tryz.prog 5 #[v] w fun e w' => e = .returned (.bool true) ∧ Below w.heap.size w w' := by
  obtain ⟨h, _, hn⟩ := h0
  have hex := ex_calls w hM
  have hri := fun W (hW : Below w.heap.size w W) => right_calls W v l (h.below hW) hn (hM.below hW)
  have hfind := fun W (hW : Below w.heap.size w W) key => find_calls W v l key (h.below hW) hn
  have hlist := fun W (hW : Below w.heap.size w W) p => list_calls W v l p (h.below hW) hn (hM.below hW)
  obtain ⟨ao, cap, rfl, _, _, hcell⟩ := rd_cellsN h.rd
  have Hri := Lib.hid hri; have Hfind := Lib.hid hfind; have Hlist := Lib.hid hlist; have Hcell := Lib.hid hcell
  clear hri hfind hlist hcell h hM
  go_enter Tryz.func5, Tryz.ntmps5
  go_wp2_with (fail)
  refine hex.mono ?_
  rintro e w1 ⟨rfl, b1⟩
  clear hex
  go_wp2_with (fail)
  refine (Hri.out w1 b1).mono ?_
  rintro e w2 ⟨rfl, b2⟩
  have B2 := b1.trans (b2.mono b1.size)
  cases hr : rightT l
  · go_wp2_with (fail)
    go_ret
    exact ⟨rfl, B2⟩
  · have hl60 := right_len hr
    have Hr := Lib.hid hr; clear hr
    have Hall := Lib.hid (cnt_all Hr.out)
    generalize hm : l.length = m at *
    have Hm := Lib.hid hm; clear hm
    go_wp2_with (fail)
    go_loopw [4, 5, 6, 7, 8, 9] (fun v4 v5 _ _ _ _ wr => ∃ k c : Nat, v5 = .int .i64 k ∧ k ≤ m ∧ v4 = .int .i64 c ∧ c = cntL l k + 1 ∧ Below w.heap.size w wr) (fun _ v5 _ _ _ _ _ => m - (intOf v5).toNat)
    case atStart => exact ⟨0, 1, rfl, Nat.zero_le _, rfl, by simp [cntL], B2⟩
    case round =>
      obtain ⟨k, c, rfl, hk, rfl, hc, hb⟩ := hrel
      have hc61 : c ≤ 60 := by
        have := cnt_le Hr.out k
        rw [Hm.out] at this
        omega
      have Hc := Lib.hid hc; clear hc
      by_cases hlt : k < m
      · obtain ⟨x, hx⟩ : ∃ x, l[k]? = some x := ⟨l[k]'(by rw [Hm.out]; exact hlt), by rw [List.getElem?_eq_getElem]⟩
        have hxm := List.mem_of_getElem? hx
        obtain ⟨b', off', rfl, _, d0, d1, d2, d3, d4⟩ := Hcell.out wr hb k x hx
        have hl := Hlist.out wr hb x.path
        have hE := lists_e Hr.out hxm
        have Hx := Lib.hid hx; have Hxm := Lib.hid hxm
        clear hx hxm d1 d2 d3 d4
        have Hcn := Lib.hid (cnt_next Hx.out)
        cases hd : x.dir
        · rw [hd, if_neg (by simp)] at hE
          rw [hE] at hl
          have Hd := Lib.hid hd
          clear hE hd
          go_wp2_with (fail)
          refine hl.mono ?_
          rintro e w3 ⟨⟨v3, rfl, -⟩, b3⟩
          clear hl
          have B3 := hb.trans (b3.mono hb.size)
          obtain ⟨b2, off2, he2, _, f0, f1, f2, f3, f4⟩ := Hcell.out w3 B3 k x Hx.out
          simp only [Option.some.injEq, Addr.mk.injEq, and_true] at he2
          obtain ⟨rfl, rfl⟩ := he2
          rw [Hd.out] at f1
          clear f0 f2 f3 f4
          go_wp2_with (fail)
          go_roundw
          case rel => exact ⟨k + 1, c, by go_num, by omega, rfl, by rw [Hcn.out, Hc.out, child_file Hr.out Hxm.out Hd.out]; simp, B3⟩
          case measure => simp [intOf]; omega
        · rw [hd, if_pos rfl] at hE
          have hN : listN l (bs x.path) = (childL l (bs x.path)).map nameOf := by rw [listN, if_pos hE]
          rw [hE, hN] at hl
          have hnl : (childL l (bs x.path)).length ≤ 60 := by
            have := cnt_le Hr.out (k + 1)
            rw [Hcn.out, Hm.out] at this
            omega
          have Hd := Lib.hid hd
          have Hlen := Lib.hid (fun j s hs => names_len Hr.out (p := bs x.path) (j := j) (s := s) hs)
          have Hat := Lib.hid (fun j s hs => names_at Hr.out (p := bs x.path) (j := j) (s := s) hs)
          have Hup := Lib.hid (fun j s t hs ht => names_up Hr.out (p := bs x.path) (j := j) (s := s) (t := t) hs ht)
          have hln : ((childL l (bs x.path)).map nameOf).length = (childL l (bs x.path)).length := List.length_map _
          rw [← hln] at hnl Hcn
          clear hE hd hN hln
          generalize (childL l (bs x.path)).map nameOf = ns at *
          go_wp2_with (fail)
          refine hl.mono ?_
          rintro e w3 ⟨⟨v3, rfl, hO⟩, b3⟩
          clear hl
          have B3 := hb.trans (b3.mono hb.size)
          obtain ⟨b2, off2, he2, _, f0, f1, f2, f3, f4⟩ := Hcell.out w3 B3 k x Hx.out
          simp only [Option.some.injEq, Addr.mk.injEq, and_true] at he2
          obtain ⟨rfl, rfl⟩ := he2
          rw [Hd.out] at f1
          clear f0 f2 f3 f4
          obtain ⟨an, cn, rfl, _, _, hcn⟩ := rd_cellsS hO.rd
          have Hcs := Lib.hid hcn; clear hcn hO
          generalize hnn : ns.length = n at *
          have Hnn := Lib.hid hnn; clear hnn
          go_wp2_with (fail)
          clear f1
          go_loopw [8, 9] (fun v8 _ wr => ∃ j : Nat, v8 = .int .i64 j ∧ j ≤ n ∧ Below w3.heap.size w3 wr) (fun v8 _ _ => n - (intOf v8).toNat)
          case atStart => exact ⟨0, rfl, Nat.zero_le _, Below.refl _ _⟩
          case round =>
            obtain ⟨j, rfl, hj, hbj⟩ := hrel
            have BJ := B3.trans (hbj.mono B3.size)
            by_cases hltj : j < n
            · obtain ⟨s, hs⟩ : ∃ s, ns[j]? = some s := ⟨ns[j]'(by rw [Hnn.out]; exact hltj), by rw [List.getElem?_eq_getElem]⟩
              obtain ⟨bn, offn, rfl, hbn, n0⟩ := Hcs.out wr hbj j s hs
              obtain ⟨b3, off3, he3, _, g0, g1, g2, g3, g4⟩ := Hcell.out wr BJ k x Hx.out
              simp only [Option.some.injEq, Addr.mk.injEq, and_true] at he3
              obtain ⟨rfl, rfl⟩ := he3
              clear g1 g2 g3 g4
              have h120 : x.path.size ≤ 120 := path_len (right_splits Hr.out Hxm.out)
              have hs20 : s.size ≤ 20 := Hlen.out j s hs
              obtain ⟨y, hyl, hyp⟩ := Hat.out j s hs
              have Hs := Lib.hid hs; have Hyp := Lib.hid hyp
              clear hs hyp
              go_wp2_with (fail)
              go_quiet (fail)
              have hW1 := Path.below_drewN wr nq
              generalize wr.drewN nq = W at *
              have BQ := hbj.trans (hW1.mono hbj.size)
              have BW := B3.trans (BQ.mono B3.size)
              obtain ⟨b4, off4, he4, _, g0, g1, g2, g3, g4⟩ := Hcell.out W BW k x Hx.out
              simp only [Option.some.injEq, Addr.mk.injEq, and_true] at he4
              obtain ⟨rfl, rfl⟩ := he4
              obtain ⟨bn', offn', he5, hbn', n1⟩ := Hcs.out W BQ j s Hs.out
              simp only [Option.some.injEq, Addr.mk.injEq, and_true] at he5
              obtain ⟨rfl, rfl⟩ := he5
              clear g1 g2 g3 g4
              have hsl : (x.path.toList == [47]) = (bs x.path == [47]) := by rw [tl_bs]
              cases hxp : (x.path.toList == [47])
              · have hp47 : bs x.path ≠ [47] := fun e => by rw [hsl, e] at hxp; simp at hxp
                have hpp : bs (x.path ++ ⟨#[47]⟩ ++ s) = bs y.path := by rw [← Hyp.out, inD, if_neg hp47]; simp [bs, ByteArray.data_append]
                have Hpp := Lib.hid hpp
                clear hpp hp47 hsl
                go_wp2_with (fail)
                generalize x.path ++ ⟨#[47]⟩ ++ s = pp at *
                (have hg : 0 ≤ findI (bs pp) l := find_in hyl Hpp.out.symm); (have cF := fun d os => Calls.regrown_of (Hfind.out _ (BW.trans ((below_regrown W d os).mono BW.size)) pp)); (generalize findI (bs pp) l = g at *); (have hgd : decide (g < 0) = false := decide_eq_false (by omega)); (clear n0 g0); (have en := cell_regrown n1); (rcases j with _ | j); (focus (refine wp_region_quiet_below (by kernel_rfl) (by kernel_rfl) ?_; (repeat (go_big_quiet_step ((exact cF _ _)))); refine wpQuiet_nil ?_; intro _ hw'; obtain ⟨⟨dq, osq⟩, hw''⟩ := hw'; subst hw''; go_wp2_with (fail); (go_roundw); (case rel => exact ⟨1, by go_num, by omega, BQ.trans ((below_regrown W dq osq).mono BQ.size)⟩); (case measure => simp [intOf]; omega))); (focus (obtain ⟨t, ht⟩ : ∃ t, ns[j]? = some t := ⟨ns[j]'(by rw [Hnn.out]; omega), by rw [List.getElem?_eq_getElem]⟩); (obtain ⟨bn2, offn2, he6, hbn2, n2⟩ := Hcs.out W BQ j t ht); (simp only [Option.some.injEq, Addr.mk.injEq, and_true] at he6); (obtain ⟨rfl, rfl⟩ := he6); (have em := cell_regrown n2); (have hlt2 := Hup.out j t s ht Hs.out); (have hle1 : Op.bytesLess s.toList t.toList = false := by rw [tl_bs, tl_bs]; exact lt_asym hlt2); (have hle2 : (s.toList == t.toList) = false := by rw [tl_bs, tl_bs]; exact beq_false_of_ne (fun e => lt_ne hlt2 e.symm)); (clear ht hlt2); refine wp_region_quiet_below (by kernel_rfl) (by kernel_rfl) ?_; (repeat (go_big_quiet_step ((exact cF _ _)))); refine wpQuiet_nil ?_; intro _ hw'; obtain ⟨⟨dq, osq⟩, hw''⟩ := hw'; subst hw''; go_wp2_with (fail); (go_roundw); (case rel => exact ⟨j + 1 + 1, by go_num, by omega, BQ.trans ((below_regrown W dq osq).mono BQ.size)⟩); (case measure => simp [intOf]; omega))
              · have hp47 : bs x.path = [47] := by rw [hsl] at hxp; simpa using hxp
                have hpp : bs (⟨#[47]⟩ ++ s) = bs y.path := by rw [← Hyp.out, inD, if_pos hp47]; simp [bs, ByteArray.data_append]
                have Hpp := Lib.hid hpp
                clear hpp hp47 hsl
                go_wp2_with (fail)
                generalize (⟨#[47]⟩ ++ s : ByteArray) = pp at *
                (have hg : 0 ≤ findI (bs pp) l := find_in hyl Hpp.out.symm); (have cF := fun d os => Calls.regrown_of (Hfind.out _ (BW.trans ((below_regrown W d os).mono BW.size)) pp)); (generalize findI (bs pp) l = g at *); (have hgd : decide (g < 0) = false := decide_eq_false (by omega)); (clear n0 g0); (have en := cell_regrown n1); (rcases j with _ | j); (focus (refine wp_region_quiet_below (by kernel_rfl) (by kernel_rfl) ?_; (repeat (go_big_quiet_step ((exact cF _ _)))); refine wpQuiet_nil ?_; intro _ hw'; obtain ⟨⟨dq, osq⟩, hw''⟩ := hw'; subst hw''; go_wp2_with (fail); (go_roundw); (case rel => exact ⟨1, by go_num, by omega, BQ.trans ((below_regrown W dq osq).mono BQ.size)⟩); (case measure => simp [intOf]; omega))); (focus (obtain ⟨t, ht⟩ : ∃ t, ns[j]? = some t := ⟨ns[j]'(by rw [Hnn.out]; omega), by rw [List.getElem?_eq_getElem]⟩); (obtain ⟨bn2, offn2, he6, hbn2, n2⟩ := Hcs.out W BQ j t ht); (simp only [Option.some.injEq, Addr.mk.injEq, and_true] at he6); (obtain ⟨rfl, rfl⟩ := he6); (have em := cell_regrown n2); (have hlt2 := Hup.out j t s ht Hs.out); (have hle1 : Op.bytesLess s.toList t.toList = false := by rw [tl_bs, tl_bs]; exact lt_asym hlt2); (have hle2 : (s.toList == t.toList) = false := by rw [tl_bs, tl_bs]; exact beq_false_of_ne (fun e => lt_ne hlt2 e.symm)); (clear ht hlt2); refine wp_region_quiet_below (by kernel_rfl) (by kernel_rfl) ?_; (repeat (go_big_quiet_step ((exact cF _ _)))); refine wpQuiet_nil ?_; intro _ hw'; obtain ⟨⟨dq, osq⟩, hw''⟩ := hw'; subst hw''; go_wp2_with (fail); (go_roundw); (case rel => exact ⟨j + 1 + 1, by go_num, by omega, BQ.trans ((below_regrown W dq osq).mono BQ.size)⟩); (case measure => simp [intOf]; omega))
            · obtain rfl : j = n := by omega
              go_wp2_with (fail)
              go_roundw
              case rel => exact ⟨k + 1, c + j, by go_num, by omega, by go_num, by rw [Hcn.out, Hc.out]; omega, BJ⟩
              case measure => simp [intOf]; omega
      · obtain rfl : k = m := by omega
        have hcm : c = k := by rw [Hc.out]; exact Hall.out
        have hce : ((c : Int) == (k : Int)) = true := by rw [hcm]; exact beq_self_eq_true _
        clear hcm
        go_wp2_with (fail)
        go_ret
        exact ⟨rfl, hb⟩
end Go.Proofs.YtpghaghmejgjbaaGreatDoor.Tree
