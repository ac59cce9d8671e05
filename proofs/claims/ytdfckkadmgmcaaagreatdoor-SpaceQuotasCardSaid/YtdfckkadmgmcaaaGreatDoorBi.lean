/- Edits of spaces: SpaceQuotas, walked (printed by gen_bi.py). -/
import Derived.Test.YtdfckkadmgmcaaaGreatDoorBh
import Derived.Test.YtdfckkadmgmcaaaGreatDoorGd
namespace Go.Proofs.YtdfckkadmgmcaaaGreatDoor.Space
open Go.RowKit
open Path (Bs bs mk bs_mk mk_bs tl_bs MaxC splitE splitL parD)
open Tree
open Quota (cntT cntN)
set_option linter.unusedSimpArgs false
set_option linter.unusedVariables false
theorem count_calls' (w : World) (t : Sp) (p : ByteArray) {w0 : World} {g : Nat} {an avl : Option Addr} {cn cvl : Nat} (h : Cur w0 w g t an cn avl cvl) (hn : t.nodes.length ≤ 8796093022208) (hM : MaxC w) (hp : p.size ≤ maxLen) : Calls Tryz.prog 28 #[t.vn, .string p] w fun e w' => e = .returned (.int .i64 (cntT t.nodes (bs p))) ∧ Below w.heap.size w w' :=
  Quota.count_calls w t.vn t.nodes p h.rd.n hn hM hp
theorem rem_of {m : Int} (h : 0 ≤ m) : ∃ N : Int, m.tmod 70 = N ∧ 0 ≤ N ∧ N < 70 :=
  ⟨_, rfl, Int.tmod_nonneg 70 h, Int.tmod_lt_of_pos m (by decide)⟩
theorem q_of {p : ByteArray} : (bs p = [47] → bs (⟨#[47, 110, 101, 119]⟩ : ByteArray) = inD (bs p) ++ [110, 101, 119]) ∧ (bs p ≠ [47] → bs (p ++ ⟨#[47, 110, 101, 119]⟩) = inD (bs p) ++ [110, 101, 119]) := by
  refine ⟨fun h => by rw [h]; rfl, fun h => ?_⟩
  rw [inD, if_neg h]
  have : bs (p ++ (⟨#[47, 110, 101, 119]⟩ : ByteArray)) = bs p ++ [47, 110, 101, 119] := by simp [bs, ByteArray.data_append]
  rw [this, List.append_assoc]; rfl
set_option maxRecDepth 100000 in
set_option maxHeartbeats 8000000 in
theorem law_quotas (v : Value) (l : List Ed) (p : ByteArray) (n : Int) (w : World) (hM : MaxC w) (h : Rd w 7 encEd v l ∧ (∀ e ∈ l, OkEd w e) ∧ l.length ≤ 1600000000000) (hp : p.size ≤ maxLen) (hn : -9223372036854775808 ≤ n ∧ n ≤ 9223372036854775807) : Calls Tryz.prog 6 #[v, .string p, .int .i64 n] w fun e w' => e = .returned (.bool true) ∧ Below w.heap.size w w' := by
  obtain ⟨hl, hok, hln⟩ := h
  obtain ⟨lo, lc, rfl, hlc, hlm, hcell⟩ := rd_cellsEd hl
  have hex := exs_calls w hM
  have HM := Lib.hid hM; have Hok := Lib.hid hok; have Hcell := Lib.hid hcell; have Hex := Lib.hid hex
  clear hM hok hcell hex hl hlc hlm
  go_enter Tryz.func6, Tryz.ntmps6
  go_upto_block 0 with (first
    | (go_at_call 15; (with_reducible refine Hex.out.mono ?_); rintro e0 w0 ⟨rfl, hb0⟩; have Hb0 := Lib.hid hb0; clear hb0)
    | (go_at_call 16; (with_reducible refine (new2_calls _).mono ?_); rintro e1 w1 ⟨⟨an0, cn0, rfl, -, hO⟩, hb1⟩; have Hb1 := Lib.hid (Hb0.out.trans (hb1.mono Hb0.out.size)); have HO := Lib.hid (hO.up Hb0.out.size : OwnX w w1 _ _); clear hb1 hO))
  have hC := cur_start Hb1.out HO.out
  have HC0 := Lib.hid hC
  clear hC Hex
  generalize w1.alloc (.cells #[.int .i64 0, .int .i64 1, .int .i64 1, .int .i64 0, .slice an0 1 cn0, .slice none 0 0] 27 (0, 0)) = w2 at *
  generalize w1.heap.size = g at *
  go_cut [] from 9 to 43 (fun wx => ∃ (t : Sp) (an : Option Addr) (cn : Nat) (avl : Option Addr) (cvl : Nat), Cur w wx g t an cn avl cvl ∧ t.txid ≤ 50)
  case first =>
    go_wp2_with (fail)
    go_loopw [9] (fun vi wr => ∃ k : Nat, vi = .int .i64 k ∧ k ≤ l.length ∧ k ≤ 50 ∧ ∃ (t : Sp) (an : Option Addr) (cn : Nat) (avl : Option Addr) (cvl : Nat), Cur w wr g t an cn avl cvl ∧ t.txid ≤ k) (fun vi _ => l.length - (intOf vi).toNat)
    case atStart =>
      exact ⟨0, rfl, Nat.zero_le _, Nat.zero_le _, _, _, _, _, _, HC0.out, Int.le_refl _⟩
    case round =>
      obtain ⟨k, rfl, hk, hk50, t, an, cn, avl, cvl, hC, htx⟩ := hrel
      clear HC0
      by_cases hlt : k < l.length
      · by_cases h50 : k < 50
        · obtain ⟨e, he⟩ : ∃ e, l[k]? = some e := ⟨l[k], by simp [hlt]⟩
          have hoe := (Hok.out e (List.mem_of_getElem? he)).below hC.base
          obtain ⟨al, cl, hlv, -⟩ := Lease.rd_cellsI hoe.rd
          obtain ⟨bx, ox, rfl, hbl, e0, e1, e2, e3, e4, e5, e6⟩ := Hcell.out wr hC.base k e he
          have hcx := fun W (hW : Below w.heap.size w W) => (show W.cell? ⟨bx, ox + k * 7, none⟩ = some (.int .i64 e.kind) ∧ W.cell? ⟨bx, ox + k * 7 + 1, none⟩ = some (.string e.path) ∧ W.cell? ⟨bx, ox + k * 7 + 2, none⟩ = some (.string e.dst) ∧ W.cell? ⟨bx, ox + k * 7 + 3, none⟩ = some (.int .i64 e.client) ∧ W.cell? ⟨bx, ox + k * 7 + 4, none⟩ = some (.int .i64 e.call) ∧ W.cell? ⟨bx, ox + k * 7 + 5, none⟩ = some (.int .i64 e.n) ∧ W.cell? ⟨bx, ox + k * 7 + 6, none⟩ = some e.lv from by
            obtain ⟨b', o', e', -, l'⟩ := Hcell.out W hW k e he
            simp only [Option.some.injEq, Addr.mk.injEq, and_true] at e'
            obtain ⟨rfl, rfl⟩ := e'
            exact l')
          have Hcx := Lib.hid hcx
          clear hcx
          rw [hlv] at e6
          obtain ⟨s0, s1, s2, s3, s4, s5⟩ := sp_cells6 hC.blk
          have hgl := lt_of_block hC.blk
          have hbl2 : bx < wr.heap.size := by have := hC.base.size; omega
          have n1 : g ≠ wr.heap.size := by omega
          have n2 : bx ≠ wr.heap.size := by omega
          have n3 : g ≠ wr.heap.size + 1 := by omega
          have n4 : bx ≠ wr.heap.size + 1 := by omega
          have hss := fun W (hW : Below wr.heap.size wr W) => old_two hW hgl hbl2
          have ha := fun W (hW : Below wr.heap.size wr W) => app_calls W t e hC.vn hC.vl hlv (hC.rd.below hW) (hoe.rd.below hW (Nat.le_refl _)) hoe.len (HM.out.below (hC.base.trans (hW.mono hC.base.size)))
          have Hss := Lib.hid hss; have Ha := Lib.hid ha; have HC := Lib.hid hC; have He := Lib.hid he; have Hbx := Lib.hid hbl2
          clear hss hgl hbl2 hC ha hoe hlv hbl he
          go_upto_region 6 with (fail)
          go_cut [10, 11] (fun v6 v7 wx => ∃ (gt ga : Nat) (t' : Sp) (x : Nd) (an' : Option Addr) (cn' : Nat) (avl' : Option Addr) (cvl' : Nat) (ax : Option Addr) (cx : Nat), v6 = .pointer (some ⟨gt, 0, none⟩) ∧ v7 = .pointer (some ⟨ga, 0, none⟩) ∧ Told wr wx (applyE t e) gt ga t' x an' cn' avl' cvl' ax cx)
          case first =>
            go_region_held3 (fun w' => (∀ j, w'.cell? ⟨g, j, none⟩ = wr.cell? ⟨g, j, none⟩) ∧ (∀ j, w'.cell? ⟨bx, j, none⟩ = wr.cell? ⟨bx, j, none⟩)) (with_reducible exact Hss.out _ (by (repeat' (first | (with_reducible exact HB3.out) | (with_reducible exact hB3) | (with_reducible exact Below.refl _ _) | (with_reducible refine Below.drew ?_) | (with_reducible refine Below.setCell ?_ (by dsimp only; omega) _) | (with_reducible refine Below.alloc ?_ (by first | omega | (simp; done) | (simp; omega)) _)))))
              (first | (go_at_call 18; refine (Ha.out _ (by (repeat' (first | (with_reducible exact HB3.out) | (with_reducible exact hB3) | (with_reducible exact Below.refl _ _) | (with_reducible refine Below.drew ?_) | (with_reducible refine Below.setCell ?_ (by dsimp only; omega) _) | (with_reducible refine Below.alloc ?_ (by first | omega | (simp; done) | (simp; omega)) _))))).mono ?_; rintro e3' w3 hp; unfold AppP at hp; obtain ⟨⟨t3, x3, an3, cn3, avl3, cvl3, ax3, cx3, hT3, rfl⟩, hb3⟩ := hp; have hB3 : Below wr.heap.size wr w3 := below_call hb3 (by (repeat' (first | (with_reducible exact HB3.out) | (with_reducible exact hB3) | (with_reducible exact Below.refl _ _) | (with_reducible refine Below.drew ?_) | (with_reducible refine Below.setCell ?_ (by dsimp only; omega) _) | (with_reducible refine Below.alloc ?_ (by first | omega | (simp; done) | (simp; omega)) _)))); have hle := hB3.size; (first
                  | ((with_reducible have f0 := keepT2 hb3); have f1 := frz6 f0.1; have f2 := frz11 f0.2; obtain ⟨⟨z0, z1, z2, z3, z4, z5⟩, ⟨zb0, zb1, zb2, zb3, zb4, zb5⟩, ⟨za0, za1, za2, za3, za4, za5⟩, zc0, zc1, zc2, zc3, zc4, zc5⟩ := f1; obtain ⟨⟨y0, y1, y2, y3, y4, y5, y6, y7, y8, y9, y10⟩, ⟨yb0, yb1, yb2, yb3, yb4, yb5, yb6, yb7, yb8, yb9, yb10⟩, ⟨ya0, ya1, ya2, ya3, ya4, ya5, ya6, ya7, ya8, ya9, ya10⟩, yc0, yc1, yc2, yc3, yc4, yc5, yc6, yc7, yc8, yc9, yc10⟩ := f2)
                  | ((with_reducible have f0 := keepT2 hb3); have f1 := frz6 f0.2; have f2 := frz11 f0.1; obtain ⟨⟨z0, z1, z2, z3, z4, z5⟩, ⟨zb0, zb1, zb2, zb3, zb4, zb5⟩, ⟨za0, za1, za2, za3, za4, za5⟩, zc0, zc1, zc2, zc3, zc4, zc5⟩ := f1; obtain ⟨⟨y0, y1, y2, y3, y4, y5, y6, y7, y8, y9, y10⟩, ⟨yb0, yb1, yb2, yb3, yb4, yb5, yb6, yb7, yb8, yb9, yb10⟩, ⟨ya0, ya1, ya2, ya3, ya4, ya5, ya6, ya7, ya8, ya9, ya10⟩, yc0, yc1, yc2, yc3, yc4, yc5, yc6, yc7, yc8, yc9, yc10⟩ := f2)
                  | ((with_reducible have f0 := keepT1 hb3); have f1 := frz6 f0; have r1 := Nat.ne_of_lt (lt_of_block f0); have r2 := Ne.symm r1; obtain ⟨⟨z0, z1, z2, z3, z4, z5⟩, ⟨zb0, zb1, zb2, zb3, zb4, zb5⟩, ⟨za0, za1, za2, za3, za4, za5⟩, zc0, zc1, zc2, zc3, zc4, zc5⟩ := f1)
                  | ((with_reducible have f0 := keepT1 hb3); have f2 := frz11 f0; have r1 := Nat.ne_of_lt (lt_of_block f0); have r2 := Ne.symm r1; obtain ⟨⟨y0, y1, y2, y3, y4, y5, y6, y7, y8, y9, y10⟩, ⟨yb0, yb1, yb2, yb3, yb4, yb5, yb6, yb7, yb8, yb9, yb10⟩, ⟨ya0, ya1, ya2, ya3, ya4, ya5, ya6, ya7, ya8, ya9, ya10⟩, yc0, yc1, yc2, yc3, yc4, yc5, yc6, yc7, yc8, yc9, yc10⟩ := f2)
                  | skip); have Hb3 := Lib.hid hb3; have HT3 := Lib.hid hT3; have HB3 := Lib.hid hB3; clear hb3 hT3 hB3))
            all_goals
              go_wp2_with (fail)
              go_meet
              refine ⟨_, _, t3, x3, an3, cn3, avl3, cvl3, ax3, cx3, rfl, rfl, ?_⟩
              first
                | (with_reducible exact told1 HT3.out HB3.out)
                | (with_reducible exact told2 HT3.out HB3.out)
                | ((with_reducible have ht := told4 HT3.out HB3.out f0); simp only [setL, Nat.reduceAdd, Nat.zero_add] at ht; with_reducible exact ht)
                | ((with_reducible have ht := told6 HT3.out HB3.out f0); simp only [setL, Nat.reduceAdd, Nat.zero_add] at ht; with_reducible exact ht)
                | ((with_reducible have ht := told3 (v0 := .int .i64 0) (v1 := .int .i64 0) (v2 := .int .i64 0) (v3 := .int .i64 0) (v4 := .slice none 0 0) (v5 := .string ⟨#[]⟩) (v6 := .bool false) (v7 := .int .i64 0) (v8 := .slice none 0 0) (v9 := .int .i64 0) (v10 := .int .i64 0) HT3.out HB3.out f0); simp only [setL, Nat.reduceAdd, Nat.zero_add] at ht; with_reducible exact ht)
                | ((with_reducible have ht := told5 HT3.out HB3.out f0); simp only [setL, Nat.reduceAdd, Nat.zero_add] at ht; with_reducible exact ht)
          case rest =>
          obtain ⟨gt, ga, t', x, an', cn', avl', cvl', ax, cx, rfl, rfl, hT⟩ := hcut
          generalize wc = w6 at *
          clear n1 n2 n3 n4 e0 e1 e2 e3 e4 e5 e6 s0 s1 s2 s3 s4 s5 Hss Ha
          obtain ⟨a0, -⟩ := ans_cells hT.ka
          obtain ⟨p0, p1, p2, p3, p4, p5⟩ := sp_cells6 hT.kt
          have hC6 := HC.out.below hT.base
          obtain ⟨s0, s1, s2, s3, s4, s5⟩ := sp_cells6 hC6.blk
          obtain ⟨z0, z1, z2, z3, z4, z5⟩ := frz_of hC6.blk
          have HT := Lib.hid hT; have HC6 := Lib.hid hC6
          clear hT hC6
          by_cases h0 : (applyE t e).err = 0
          · have hr := HT.out.app.made.right h0
            have htx' : t'.txid = t.txid + 1 := by rw [HT.out.app.made.same.txid, (apply_right h0).2.1]
            have hst := Cur.store HC.out HT.out.app hr HT.out.base (Below.refl _ _)
            simp only [setL, Nat.reduceAdd, Nat.zero_add] at hst
            have Hst := Lib.hid hst
            rw [h0] at a0
            have hk1 : k + 1 ≤ l.length := hlt
            have hk2 : k + 1 ≤ 50 := h50
            have e1x : t'.txid ≤ ((k + 1 : Nat) : Int) := by rw [htx', Int.natCast_add]; exact Int.add_le_add_right htx 1
            have E1 := Lib.hid e1x
            clear hst hr e1x htx'
            go_wp2_with (fail)
            go_roundw
            case rel => exact ⟨k + 1, by go_num, hk1, hk2, t', an', cn', avl', cvl', Hst.out, E1.out⟩
            case measure => simp [intOf]; omega
          · have b0 : ((applyE t e).err == 0) = false := by simpa using h0
            go_wp2_with (fail)
            go_roundw
            case rel => exact ⟨k + 1, by go_num, hlt, h50, t, an, cn, avl, cvl, HC6.out, Int.le_trans htx (Int.ofNat_le.2 (Nat.le_succ k))⟩
            case measure => simp [intOf]; omega
        · go_wp2_with (fail)
          go_meet
          exact ⟨_, _, _, _, _, hC, by omega⟩
      · obtain rfl : k = l.length := by omega
        go_wp2_with (fail)
        go_meet
        exact ⟨_, _, _, _, _, hC, by omega⟩
  case rest =>
  obtain ⟨t, an, cn, avl, cvl, hC, htx⟩ := hcut
  generalize wc = W at *
  have HC := Lib.hid hC
  clear hC HC0
  go_upto_if 45 with (fail)
  go_cut [2] from 46 to 48 (fun v wx => ∃ m : Int, v = .int .i64 m ∧ 0 ≤ m ∧ W = wx)
  case first =>
    by_cases hneg : n < 0
    · have w1' : wrap64 (n + 1) = n + 1 := by obtain ⟨h1, h2⟩ := hn; simp only [wrap64]; omega
      have w2' : wrap64 (-(n + 1)) = -(n + 1) := by obtain ⟨h1, h2⟩ := hn; simp only [wrap64]; omega
      go_wp2_with (fail)
      go_meet
      exact ⟨-(n + 1), rfl, by omega, rfl⟩
    · go_wp2_with (fail)
      go_meet
      exact ⟨n, rfl, by omega, rfl⟩
  case rest =>
  obtain ⟨m, rfl, hm, rfl⟩ := hcut
  obtain ⟨N, hN, hN0, hN70⟩ := rem_of hm
  obtain ⟨s0, s1, s2, s3, s4, s5⟩ := sp_cells6 HC.out.blk
  have hfd := find_calls W t.vn t.nodes p HC.out.rd.n HC.out.right.lens.1
  rw [HC.out.vn] at hfd
  obtain ⟨A3, hA3⟩ : ∃ A, A = applyE t (quoEd p N nilV) := ⟨_, rfl⟩
  have ha := fun W' (hW : Below W.heap.size W W') => app_calls W' t (quoEd p N nilV) (al := none) (cl := 0) HC.out.vn HC.out.vl rfl (HC.out.rd.below hW) (rdI_nil _) (Nat.zero_le _) (HM.out.below (HC.out.base.trans (hW.mono HC.out.base.size)))
  rw [← hA3] at ha
  have Hfd := Lib.hid hfd; have Ha := Lib.hid ha; have HA3 := Lib.hid hA3
  clear hfd ha hA3
  go_upto_region 14 with (first
    | (go_at_call 27; (with_reducible refine Hfd.out.mono ?_); rintro e3 w3 ⟨rfl, hb3⟩; obtain ⟨s0, s1, s2, s3, s4, s5⟩ := sp_cells6 (HC.out.below hb3).blk; have Hb3 := Lib.hid hb3; clear hb3)
    | (go_at_call 18; (refine (Ha.out _ Hb3.out).mono ?_); rintro e4 w4 hp; unfold AppP at hp; obtain ⟨⟨t3, x3, an3, cn3, avl3, cvl3, ax3, cx3, hT3, rfl⟩, hb4⟩ := hp; have HT3 := Lib.hid hT3; have Hb4 := Lib.hid (Hb3.out.trans (hb4.mono Hb3.out.size)); clear hb4 hT3))
  obtain ⟨b5, k1, k2⟩ := two_new w4 (.cells #[.int .i64 t3.txid, .int .i64 t3.nb, .int .i64 t3.ng, .int .i64 t3.now, .slice an3 t3.nodes.length cn3, .slice avl3 t3.leases.length cvl3] 27 (0, 0)) (.cells #[.int .i64 A3.err, .int .i64 A3.b.id, .int .i64 A3.b.gen, .int .i64 A3.b.len, .slice none 0 0, .string x3.path, .bool x3.dir, .int .i64 x3.quota, .slice ax3 x3.blocks.length cx3, .int .i64 x3.writer, .int .i64 0] 37 (0, 0))
  generalize (w4.alloc (.cells #[.int .i64 t3.txid, .int .i64 t3.nb, .int .i64 t3.ng, .int .i64 t3.now, .slice an3 t3.nodes.length cn3, .slice avl3 t3.leases.length cvl3] 27 (0, 0))).alloc (.cells #[.int .i64 A3.err, .int .i64 A3.b.id, .int .i64 A3.b.gen, .int .i64 A3.b.len, .slice none 0 0, .string x3.path, .bool x3.dir, .int .i64 x3.quota, .slice ax3 x3.blocks.length cx3, .int .i64 x3.writer, .int .i64 0] 37 (0, 0)) = W5 at *
  have B5 := Lib.hid (Hb4.out.trans (b5.mono Hb4.out.size)); have K1 := Lib.hid k1; have K2 := Lib.hid k2; have N5 := Lib.hid b5
  clear b5 k1 k2 s0 s1 s2 s3 s4 s5
  have hC5 := HC.out.below B5.out
  obtain ⟨s0, s1, s2, s3, s4, s5⟩ := sp_cells6 hC5.blk
  obtain ⟨a0, -⟩ := ans_cells K2.out
  have HC5 := Lib.hid hC5
  have hlen := HC.out.right.lens.1
  clear hC5 Hfd Ha
  rcases fi_ways t.nodes (bs p) with ⟨hI, hno⟩ | ⟨k, x, hI, hx, hpx⟩
  · have hne : A3.err ≠ 0 := by rw [HA3.out]; exact quotas_none (.inl (by omega)) HC.out.right
    have b0 : (A3.err != 0) = true := by simpa using hne
    rw [hI]
    clear hI hno hne
    go_wp2_with (fail)
    go_ret
    exact ⟨rfl, HC5.out.base⟩
  · obtain ⟨an', cn', hv', -, -, hcell⟩ := rd_cellsN HC.out.rd.n.rd
    rw [HC.out.vn] at hv'
    simp only [Value.slice.injEq, true_and] at hv'
    obtain ⟨rfl, rfl⟩ := hv'
    obtain ⟨bn, on, rfl, -, -, l1, -⟩ := hcell W5 B5.out k x hx
    have hklt := (List.getElem?_eq_some_iff.1 hx).1
    rw [hI]
    have b14 : decide ((k : Int) < 0) = false := decide_eq_false (by omega)
    clear hcell
    cases hd : x.dir
    case false =>
      have hne : A3.err ≠ 0 := by rw [HA3.out]; exact quotas_none (.inr ⟨k, x, hI, hx, hd⟩) HC.out.right
      have b0 : (A3.err != 0) = true := by simpa using hne
      rw [hd] at l1
      clear hI hne hx hpx hd
      go_wp2_with (fail)
      go_ret
      exact ⟨rfl, HC5.out.base⟩
    case true =>
      rw [hd] at l1
      have hct := count_calls' W5 t p HC5.out hlen (HM.out.below HC5.out.base) hp
      rw [HC.out.vn] at hct
      obtain ⟨c, hc⟩ : ∃ c : Nat, c = cntT t.nodes (bs p) := ⟨_, rfl⟩
      rw [← hc] at hct
      have Hct := Lib.hid hct; have HcE := Lib.hid hc
      clear hct hc
      by_cases hlt : N < (c : Int)
      · have h8 : A3.err = 8 := by rw [HA3.out]; exact quo_less HC.out.right (by omega) ⟨hN0, hN70⟩ hx hpx hd (by rw [HcE.out, cntT, if_pos (p_right HC.out.right.tree)] at hlt; exact hlt)
        have b8 : (A3.err == 8) = true := by simpa using h8
        have b17 : decide (N < (c : Int)) = true := decide_eq_true hlt
        clear hI hx hpx hd h8 hlt
        go_wp2_with (go_at_call 28; (with_reducible refine Hct.out.mono ?_); rintro e6 w6 ⟨rfl, hb6⟩; obtain ⟨a0, -⟩ := ans_cells ((hb6.block _ (lt_of_block K2.out)).trans K2.out); have Hb6 := Lib.hid hb6; clear hb6)
        go_ret
        exact ⟨rfl, HC5.out.base.trans (Hb6.out.mono HC5.out.base.size)⟩
      · have hE0 : splitE (bs p) = 0 := by rw [← hpx]; exact fits_split (HC.out.right.tree.fits x (List.mem_of_getElem? hx))
        have hp120 : p.size ≤ 120 := by
          have h1 : (bs p).length = p.size := by simp [bs]
          rw [splitE] at hE0
          split at hE0
          · cases hE0
          · omega
        clear hE0
        have hS3 : SameS t3 (applyE t (quoEd p N nilV)).s := by have := HT3.out.made.same; rw [HA3.out] at this; exact this
        obtain ⟨Q, hQ1, hQ2⟩ : ∃ Q : ByteArray, bs Q = inD (bs p) ++ [110, 101, 119] ∧ Q = if bs p = [47] then ⟨#[47, 110, 101, 119]⟩ else p ++ ⟨#[47, 110, 101, 119]⟩ := by
          by_cases hroot : bs p = [47]
          · exact ⟨_, q_of.1 hroot, (if_pos hroot).symm⟩
          · exact ⟨_, q_of.2 hroot, (if_neg hroot).symm⟩
        have hqm := quotas_more (v' := nilV) HC.out.right (by omega) ⟨hN0, hN70⟩ hx hpx hd (by rw [← HcE.out]; exact hlt) hS3 hQ1
        rw [← HcE.out] at hqm
        obtain ⟨q1, q2, q3⟩ := hqm
        rw [← HA3.out] at q1
        obtain ⟨A4, hA4⟩ : ∃ A, A = applyE t3 (dirEd Q nilV) := ⟨_, rfl⟩
        rw [← hA4] at q3
        have hr3 : RdSp W5 t3 := HT3.out.made.rd.below N5.out
        have ha4 := fun W' (hW : Below W5.heap.size W5 W') => app_calls W' t3 (dirEd Q nilV) (al := none) (cl := 0) HT3.out.vn HT3.out.vl rfl (hr3.below hW) (rdI_nil _) (Nat.zero_le _) (HM.out.below (HC5.out.base.trans (hW.mono HC5.out.base.size)))
        rw [← hA4] at ha4
        have Ha4 := Lib.hid ha4; have Hr3 := Lib.hid hr3; have Q2 := Lib.hid q2; have Q3 := Lib.hid q3
        have b17 : decide (N < (c : Int)) = false := decide_eq_false hlt
        have b19 : (A3.err != 0) = false := by rw [q1]; rfl
        clear hI hx hpx hd hr3 ha4 hS3 hQ1 q1 q2 q3 hA4
        by_cases hroot : bs p = [47]
        all_goals
          first
            | (rw [if_pos hroot] at hQ2; have b22 : (p.toList == [47]) = true := by rw [tl_bs, hroot]; rfl)
            | (rw [if_neg hroot] at hQ2; have b22 : (p.toList == [47]) = false := by rw [tl_bs]; simpa using hroot)
          clear hroot
          subst hQ2
          go_upto_region 25 with (first
            | (go_at_call 28; (with_reducible refine Hct.out.mono ?_); rintro e6 w6 ⟨rfl, hb6⟩; obtain ⟨a0, -⟩ := ans_cells ((hb6.block _ (lt_of_block K2.out)).trans K2.out); obtain ⟨p0, p1, p2, p3, p4, p5⟩ := sp_cells6 ((hb6.block _ (lt_of_block K1.out)).trans K1.out); have Hb6 := Lib.hid hb6; clear hb6)
            | (go_at_call 18; (refine (Ha4.out _ Hb6.out).mono ?_); rintro e7 w7 hp7; unfold AppP at hp7; obtain ⟨⟨t4, x4, an4, cn4, avl4, cvl4, ax4, cx4, hT4, rfl⟩, hb7⟩ := hp7; have Hb7 := Lib.hid (Hb6.out.trans (hb7.mono Hb6.out.size)); clear hb7 hT4))
          obtain ⟨b8, k3, k4⟩ := two_new w7 (.cells #[.int .i64 t4.txid, .int .i64 t4.nb, .int .i64 t4.ng, .int .i64 t4.now, .slice an4 t4.nodes.length cn4, .slice avl4 t4.leases.length cvl4] 27 (0, 0)) (.cells #[.int .i64 A4.err, .int .i64 A4.b.id, .int .i64 A4.b.gen, .int .i64 A4.b.len, .slice none 0 0, .string x4.path, .bool x4.dir, .int .i64 x4.quota, .slice ax4 x4.blocks.length cx4, .int .i64 x4.writer, .int .i64 0] 37 (0, 0))
          generalize (w7.alloc (.cells #[.int .i64 t4.txid, .int .i64 t4.nb, .int .i64 t4.ng, .int .i64 t4.now, .slice an4 t4.nodes.length cn4, .slice avl4 t4.leases.length cvl4] 27 (0, 0))).alloc (.cells #[.int .i64 A4.err, .int .i64 A4.b.id, .int .i64 A4.b.gen, .int .i64 A4.b.len, .slice none 0 0, .string x4.path, .bool x4.dir, .int .i64 x4.quota, .slice ax4 x4.blocks.length cx4, .int .i64 x4.writer, .int .i64 0] 37 (0, 0)) = W8 at *
          have hb8 := Hb7.out.trans (b8.mono Hb7.out.size)
          obtain ⟨c0, -⟩ := ans_cells k4
          obtain ⟨p0, p1, p2, p3, p4, p5⟩ := sp_cells6 ((hb8.block _ (lt_of_block K1.out)).trans K1.out)
          have hr8 : RdSp W8 t3 := Hr3.out.below hb8
          have hb9 := HC5.out.base.trans (hb8.mono HC5.out.base.size)
          have hct := Quota.count_calls W8 t3.vn t3.nodes p hr8.n hr8.nn (HM.out.below hb9) hp
          rw [HT3.out.vn, Q2.out] at hct
          have Hct8 := Lib.hid hct; have Hb9 := Lib.hid hb9
          clear hct hr8 hb9 hb8 b8 k3 k4
          have hcc : ((c : Int) == (c : Int)) = true := by simp
          rcases Q3.out with h3 | h3
          · have b25 : decide ((c : Int) < N) = true := decide_eq_true h3
            clear h3
            go_wp2_with (go_at_call 28; (with_reducible refine Hct8.out.mono ?_); rintro e10 w10 ⟨rfl, hb10⟩; have Hb10 := Lib.hid hb10; clear hb10)
            go_ret
            exact ⟨rfl, Hb9.out.trans (Hb10.out.mono Hb9.out.size)⟩
          · have b26 : (A4.err != 0) = true := by simpa using h3
            clear h3
            by_cases h9 : (c : Int) < N
            all_goals
              first
                | (have b25 : decide ((c : Int) < N) = true := decide_eq_true h9)
                | (have b25 : decide ((c : Int) < N) = false := decide_eq_false h9)
              clear h9
              go_wp2_with (go_at_call 28; (with_reducible refine Hct8.out.mono ?_); rintro e10 w10 ⟨rfl, hb10⟩; have Hb10 := Lib.hid hb10; clear hb10)
              go_ret
              exact ⟨rfl, Hb9.out.trans (Hb10.out.mono Hb9.out.size)⟩
end Go.Proofs.YtdfckkadmgmcaaaGreatDoor.Space
