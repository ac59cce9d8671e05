/- Edits of spaces: SpaceLeases, walked (printed by gen_law.py). -/
import Derived.Test.YtdfckkadmgmcaaaGreatDoorGn
import Derived.Test.YtdfckkadmgmcaaaGreatDoorGh
import Derived.Test.YtdfckkadmgmcaaaGreatDoorGe
import Derived.Deep.DeepCutAuto
import Derived.Deep.CutBlock
import Derived.Deep.RegionHeld3
import Derived.Lib.QuietBelow
namespace Go.Proofs.YtdfckkadmgmcaaaGreatDoor.Space
open Go.RowKit
open Path (Bs bs mk bs_mk mk_bs tl_bs MaxC splitE splitL parD)
open Tree
set_option linter.unusedSimpArgs false
set_option linter.unusedVariables false
theorem frz_of {w : World} {N : Nat} {cs : Array Value} {t : TypeId} (h : w.heap[N]? = some (.cells cs t (0, 0))) : w.frozen? ⟨N, 0, none⟩ = false ∧ w.frozen? ⟨N, 1, none⟩ = false ∧ w.frozen? ⟨N, 2, none⟩ = false ∧ w.frozen? ⟨N, 3, none⟩ = false ∧ w.frozen? ⟨N, 4, none⟩ = false ∧ w.frozen? ⟨N, 5, none⟩ = false :=
  ⟨free_of_blk h, free_of_blk h, free_of_blk h, free_of_blk h, free_of_blk h, free_of_blk h⟩
theorem cur_start {w w1 : World} {an0 : Option Addr} {cn0 : Nat} (hb : Below w.heap.size w w1) (hO : OwnX w w1 (.slice an0 1 cn0) [rootN]) : Cur w (w1.alloc (.cells #[.int .i64 0, .int .i64 1, .int .i64 1, .int .i64 0, .slice an0 1 cn0, .slice none 0 0] 27 (0, 0))) w1.heap.size (newS (.slice an0 1 cn0)) an0 cn0 none 0 := by
  have b : Below w1.heap.size w1 (w1.alloc (.cells #[.int .i64 0, .int .i64 1, .int .i64 1, .int .i64 0, .slice an0 1 cn0, .slice none 0 0] 27 (0, 0))) := (Below.refl _ _).alloc (Nat.le_refl _) _
  exact ⟨heap_alloc_new w1 _, rfl, rfl, hO.below b, ⟨World.ownsRow_nil _ _ _ _, fun g h => by simp [Value.ownBlock, newS] at h⟩, new_rightS _, hb.trans (b.mono hb.size), hb.size⟩
set_option maxRecDepth 100000 in
set_option maxHeartbeats 8000000 in
theorem law_leases (v : Value) (l : List Ed) (w : World) (hM : MaxC w) (h : Rd w 7 encEd v l ∧ (∀ e ∈ l, OkEd w e) ∧ l.length ≤ 1600000000000) : Calls Tryz.prog 7 #[v] w fun e w' => e = .returned (.bool true) ∧ Below w.heap.size w w' := by
  obtain ⟨hl, hok, hn⟩ := h
  obtain ⟨lo, lc, rfl, hlc, hlm, hcell⟩ := rd_cellsEd hl
  have hex := exs_calls w hM
  have HM := Lib.hid hM; have Hok := Lib.hid hok; have Hcell := Lib.hid hcell; have Hex := Lib.hid hex
  clear hM hok hcell hex hl hlc hlm
  go_enter Tryz.func7, Tryz.ntmps7
  go_wp2_with (first
    | (go_at_call 15; (with_reducible refine Hex.out.mono ?_); rintro e0 w0 ⟨rfl, hb0⟩; have Hb0 := Lib.hid hb0; clear hb0)
    | (go_at_call 16; (with_reducible refine (new2_calls _).mono ?_); rintro e1 w1 ⟨⟨an0, cn0, rfl, -, hO⟩, hb1⟩; have Hb1 := Lib.hid (Hb0.out.trans (hb1.mono Hb0.out.size)); have HO := Lib.hid (hO.up Hb0.out.size : OwnX w w1 _ _); clear hb1 hO))
  have hC := cur_start Hb1.out HO.out
  have HC0 := Lib.hid hC
  clear hC Hex
  generalize w1.alloc (.cells #[.int .i64 0, .int .i64 1, .int .i64 1, .int .i64 0, .slice an0 1 cn0, .slice none 0 0] 27 (0, 0)) = w2 at *
  generalize w1.heap.size = g at *
  go_loopw [5] (fun vi wr => ∃ k : Nat, vi = .int .i64 k ∧ k ≤ l.length ∧ ∃ (t : Sp) (an : Option Addr) (cn : Nat) (avl : Option Addr) (cvl : Nat), Cur w wr g t an cn avl cvl) (fun vi _ => l.length - (intOf vi).toNat)
  case atStart =>
    exact ⟨0, rfl, Nat.zero_le _, _, _, _, _, _, HC0.out⟩
  case round =>
    obtain ⟨k, rfl, hk, t, an, cn, avl, cvl, hC⟩ := hrel
    clear HC0
    by_cases hlt : k < l.length
    · by_cases h50 : k < 50
      · obtain ⟨e, he⟩ : ∃ e, l[k]? = some e := ⟨l[k], by simp [hlt]⟩
        have hoe := (Hok.out e (List.mem_of_getElem? he)).below hC.base
        obtain ⟨al, cl, hlv, -⟩ := Lease.rd_cellsI hoe.rd
        obtain ⟨bx, ox, rfl, hbl, e0, e1, e2, e3, e4, e5, e6⟩ := Hcell.out wr hC.base k e he
        have hcx := fun W (hW : Below w.heap.size w W) => (show W.cell? ⟨bx, ox + k * 7, none⟩ = some (.int .i64 e.kind) ∧ W.cell? ⟨bx, ox + k * 7 + 1, none⟩ = some (.string e.path) ∧ W.cell? ⟨bx, ox + k * 7 + 2, none⟩ = some (.string e.dst) ∧ W.cell? ⟨bx, ox + k * 7 + 3, none⟩ = some (.int .i64 e.client) ∧ W.cell? ⟨bx, ox + k * 7 + 4, none⟩ = some (.int .i64 e.call) ∧ W.cell? ⟨bx, ox + k * 7 + 5, none⟩ = some (.int .i64 e.n) ∧ W.cell? ⟨bx, ox + k * 7 + 6, none⟩ = some e.lv from by
          obtain ⟨b', o', e', -, l'⟩ := Hcell.out W hW k e he
          simp only [Option.some.injEq, Addr.mk.injEq, and_true] at e'
          obtain ⟨rfl, rfl⟩ := e'
          exact l')
        have Hcx := Lib.hid hcx
        clear hcx
        rw [hlv] at e6
        obtain ⟨s0, s1, s2, s3, s4, s5⟩ := sp_cells6 hC.blk
        have hgl := lt_of_block hC.blk
        have hbl2 : bx < wr.heap.size := by have := hC.base.size; omega
        have n1 : g ≠ wr.heap.size := by omega
        have n2 : bx ≠ wr.heap.size := by omega
        have n3 : g ≠ wr.heap.size + 1 := by omega
        have n4 : bx ≠ wr.heap.size + 1 := by omega
        have hss := fun W (hW : Below wr.heap.size wr W) => old_two hW hgl hbl2
        have ha := fun W (hW : Below wr.heap.size wr W) => app_calls W t e hC.vn hC.vl hlv (hC.rd.below hW) (hoe.rd.below hW (Nat.le_refl _)) hoe.len (HM.out.below (hC.base.trans (hW.mono hC.base.size)))
        have Hss := Lib.hid hss; have Ha := Lib.hid ha; have HC := Lib.hid hC; have He := Lib.hid he; have Hbx := Lib.hid hbl2
        clear hss hgl hbl2 hC ha hoe hlv hbl he
        go_upto_region 6 with (fail)
        go_cut [6, 7] (fun v6 v7 wx => ∃ (gt ga : Nat) (t' : Sp) (x : Nd) (an' : Option Addr) (cn' : Nat) (avl' : Option Addr) (cvl' : Nat) (ax : Option Addr) (cx : Nat), v6 = .pointer (some ⟨gt, 0, none⟩) ∧ v7 = .pointer (some ⟨ga, 0, none⟩) ∧ Told wr wx (applyE t e) gt ga t' x an' cn' avl' cvl' ax cx)
        case first =>
          go_region_held3 (fun w' => (∀ j, w'.cell? ⟨g, j, none⟩ = wr.cell? ⟨g, j, none⟩) ∧ (∀ j, w'.cell? ⟨bx, j, none⟩ = wr.cell? ⟨bx, j, none⟩)) (with_reducible exact Hss.out _ (by (repeat' (first | (with_reducible exact HB3.out) | (with_reducible exact hB3) | (with_reducible exact Below.refl _ _) | (with_reducible refine Below.drew ?_) | (with_reducible refine Below.setCell ?_ (by dsimp only; omega) _) | (with_reducible refine Below.alloc ?_ (by first | omega | (simp; done) | (simp; omega)) _)))))
            (first | (go_at_call 18; refine (Ha.out _ (by (repeat' (first | (with_reducible exact HB3.out) | (with_reducible exact hB3) | (with_reducible exact Below.refl _ _) | (with_reducible refine Below.drew ?_) | (with_reducible refine Below.setCell ?_ (by dsimp only; omega) _) | (with_reducible refine Below.alloc ?_ (by first | omega | (simp; done) | (simp; omega)) _))))).mono ?_; rintro e3' w3 hp; unfold AppP at hp; obtain ⟨⟨t3, x3, an3, cn3, avl3, cvl3, ax3, cx3, hT3, rfl⟩, hb3⟩ := hp; have hB3 : Below wr.heap.size wr w3 := below_call hb3 (by (repeat' (first | (with_reducible exact HB3.out) | (with_reducible exact hB3) | (with_reducible exact Below.refl _ _) | (with_reducible refine Below.drew ?_) | (with_reducible refine Below.setCell ?_ (by dsimp only; omega) _) | (with_reducible refine Below.alloc ?_ (by first | omega | (simp; done) | (simp; omega)) _)))); have hle := hB3.size; (first
                | ((with_reducible have f0 := keepT2 hb3); have f1 := frz6 f0.1; have f2 := frz11 f0.2; obtain ⟨⟨z0, z1, z2, z3, z4, z5⟩, ⟨zb0, zb1, zb2, zb3, zb4, zb5⟩, ⟨za0, za1, za2, za3, za4, za5⟩, zc0, zc1, zc2, zc3, zc4, zc5⟩ := f1; obtain ⟨⟨y0, y1, y2, y3, y4, y5, y6, y7, y8, y9, y10⟩, ⟨yb0, yb1, yb2, yb3, yb4, yb5, yb6, yb7, yb8, yb9, yb10⟩, ⟨ya0, ya1, ya2, ya3, ya4, ya5, ya6, ya7, ya8, ya9, ya10⟩, yc0, yc1, yc2, yc3, yc4, yc5, yc6, yc7, yc8, yc9, yc10⟩ := f2)
                | ((with_reducible have f0 := keepT2 hb3); have f1 := frz6 f0.2; have f2 := frz11 f0.1; obtain ⟨⟨z0, z1, z2, z3, z4, z5⟩, ⟨zb0, zb1, zb2, zb3, zb4, zb5⟩, ⟨za0, za1, za2, za3, za4, za5⟩, zc0, zc1, zc2, zc3, zc4, zc5⟩ := f1; obtain ⟨⟨y0, y1, y2, y3, y4, y5, y6, y7, y8, y9, y10⟩, ⟨yb0, yb1, yb2, yb3, yb4, yb5, yb6, yb7, yb8, yb9, yb10⟩, ⟨ya0, ya1, ya2, ya3, ya4, ya5, ya6, ya7, ya8, ya9, ya10⟩, yc0, yc1, yc2, yc3, yc4, yc5, yc6, yc7, yc8, yc9, yc10⟩ := f2)
                | ((with_reducible have f0 := keepT1 hb3); have f1 := frz6 f0; have r1 := Nat.ne_of_lt (lt_of_block f0); have r2 := Ne.symm r1; obtain ⟨⟨z0, z1, z2, z3, z4, z5⟩, ⟨zb0, zb1, zb2, zb3, zb4, zb5⟩, ⟨za0, za1, za2, za3, za4, za5⟩, zc0, zc1, zc2, zc3, zc4, zc5⟩ := f1)
                | ((with_reducible have f0 := keepT1 hb3); have f2 := frz11 f0; have r1 := Nat.ne_of_lt (lt_of_block f0); have r2 := Ne.symm r1; obtain ⟨⟨y0, y1, y2, y3, y4, y5, y6, y7, y8, y9, y10⟩, ⟨yb0, yb1, yb2, yb3, yb4, yb5, yb6, yb7, yb8, yb9, yb10⟩, ⟨ya0, ya1, ya2, ya3, ya4, ya5, ya6, ya7, ya8, ya9, ya10⟩, yc0, yc1, yc2, yc3, yc4, yc5, yc6, yc7, yc8, yc9, yc10⟩ := f2)
                | skip); have Hb3 := Lib.hid hb3; have HT3 := Lib.hid hT3; have HB3 := Lib.hid hB3; clear hb3 hT3 hB3))
          all_goals
            go_wp2_with (fail)
            go_meet
            refine ⟨_, _, t3, x3, an3, cn3, avl3, cvl3, ax3, cx3, rfl, rfl, ?_⟩
            first
              | (with_reducible exact told1 HT3.out HB3.out)
              | (with_reducible exact told2 HT3.out HB3.out)
              | ((with_reducible have ht := told4 HT3.out HB3.out f0); simp only [setL, Nat.reduceAdd, Nat.zero_add] at ht; with_reducible exact ht)
              | ((with_reducible have ht := told6 HT3.out HB3.out f0); simp only [setL, Nat.reduceAdd, Nat.zero_add] at ht; with_reducible exact ht)
              | ((with_reducible have ht := told3 (v0 := .int .i64 0) (v1 := .int .i64 0) (v2 := .int .i64 0) (v3 := .int .i64 0) (v4 := .slice none 0 0) (v5 := .string ⟨#[]⟩) (v6 := .bool false) (v7 := .int .i64 0) (v8 := .slice none 0 0) (v9 := .int .i64 0) (v10 := .int .i64 0) HT3.out HB3.out f0); simp only [setL, Nat.reduceAdd, Nat.zero_add] at ht; with_reducible exact ht)
              | ((with_reducible have ht := told5 HT3.out HB3.out f0); simp only [setL, Nat.reduceAdd, Nat.zero_add] at ht; with_reducible exact ht)
        case rest =>
        obtain ⟨gt, ga, t', x, an', cn', avl', cvl', ax, cx, rfl, rfl, hT⟩ := hcut
        generalize wc = w6 at *
        clear n1 n2 n3 n4 e0 e1 e2 e3 e4 e5 e6 s0 s1 s2 s3 s4 s5 Hss Ha
        obtain ⟨a0, -⟩ := ans_cells hT.ka
        obtain ⟨p0, p1, p2, p3, p4, p5⟩ := sp_cells6 hT.kt
        have hC6 := HC.out.below hT.base
        obtain ⟨s0, s1, s2, s3, s4, s5⟩ := sp_cells6 hC6.blk
        obtain ⟨e0, -, -, e3, -, e5, -⟩ := Hcx.out w6 hC6.base
        have HT := Lib.hid hT; have HC6 := Lib.hid hC6
        clear hT hC6
        by_cases h0 : (applyE t e).err = 0
        · obtain ⟨q1, q2, q3, q4⟩ := leases_law h0 HT.out.app.made.same
          have hr := HT.out.app.made.right h0
          have Q3 := Lib.hid q3; have Q4 := Lib.hid q4; have Hr := Lib.hid hr
          rw [h0] at a0
          clear q3 q4 hr
          go_upto_region 8 with (fail)
          go_cut [67] (fun v wx => v = .bool false ∧ Below w6.heap.size w6 wx)
          case first =>
            have hb0' := Below.refl w6.heap.size w6
            have b2 : decide (t'.now < t.now) = false := decide_eq_false (by omega)
            by_cases hne : t'.now = t.now
            · have b1 : (t'.now != t.now) = false := by simp [hne]
              clear hne q1 q2
              go_quiet (fail)
              go_wp2_with (fail)
              go_meet
              exact ⟨rfl, hb0'.os, hb0'.tape, hb0'.output, hb0'.size, hb0'.block⟩
            · obtain ⟨hk8, hk9⟩ : e.kind = 8 ∧ t'.now = e.n := q1.resolve_left hne
              have b1 : (t'.now != t.now) = true := by simpa using hne
              have b3 : (e.kind != 8) = false := by simp [hk8]
              have b4 : (t'.now != e.n) = false := by simp [hk9]
              clear hne q1 q2 hk8 hk9
              go_quiet (fail)
              go_wp2_with (fail)
              go_meet
              exact ⟨rfl, hb0'.os, hb0'.tape, hb0'.output, hb0'.size, hb0'.block⟩
          case rest =>
          obtain ⟨rfl, hb8⟩ := hcut
          generalize wc = w8 at *
          clear q1 q2 a0 p0 p1 p2 p3 p4 p5 s0 s1 s2 s3 s4 s5 e0 e3 e5
          have HB8 := Lib.hid hb8
          clear hb8
          have hp := fun W (hW : Below w6.heap.size w6 W) => sp_cells6 ((hW.block _ (lt_of_block HT.out.kt)).trans HT.out.kt)
          have hu := fun W (hW : Below w6.heap.size w6 W) (c : Int) => Lease.until_calls W t'.vl t'.leases c (HT.out.app.made.rd.l.below hW (Nat.le_refl _)) HT.out.app.made.rd.ln
          rw [HT.out.app.vl] at hu
          obtain ⟨an'', cn'', hv'', -, -, hnc⟩ := rd_cellsN HT.out.app.made.rd.n.rd
          rw [HT.out.app.vn] at hv''
          simp only [Value.slice.injEq, true_and] at hv''
          obtain ⟨rfl, rfl⟩ := hv''
          have Hp := Lib.hid hp; have Hu := Lib.hid hu; have Hnc := Lib.hid hnc
          clear hp hu hnc
          obtain ⟨p0, p1, p2, p3, p4, p5⟩ := Hp.out w8 HB8.out
          go_wp2_with (fail)
          clear p0 p1 p2 p3 p4 p5
          have hnl := Hr.out.lens.1
          go_loopw [8] (fun vj wj => ∃ j : Nat, vj = .int .i64 j ∧ j ≤ t'.nodes.length ∧ Below w6.heap.size w6 wj) (fun vj _ => t'.nodes.length - (intOf vj).toNat)
          case atStart => exact ⟨0, rfl, Nat.zero_le _, HB8.out⟩
          case round =>
            obtain ⟨j, rfl, hj, hbj⟩ := hrel
            obtain ⟨p0, p1, p2, p3, p4, p5⟩ := Hp.out wr hbj
            have Hbj := Lib.hid hbj
            clear hbj
            by_cases hjl : j < t'.nodes.length
            · obtain ⟨y, hy⟩ : ∃ y, t'.nodes[j]? = some y := ⟨t'.nodes[j], by simp [hjl]⟩
              obtain ⟨bn, on, rfl, -, l0, l1, l2, l3, l4⟩ := Hnc.out wr Hbj.out j y hy
              have hw := Q3.out y (List.mem_of_getElem? hy)
              clear hy l0 l1 l2 l3
              by_cases hwr : 0 ≤ y.writer
              · have hw2 := hw hwr
                have b5 : decide (0 ≤ y.writer) = true := decide_eq_true hwr
                clear hw
                go_wp2_with (go_at_call 29; (with_reducible refine (Hu.out _ Hbj.out _).mono ?_); rintro e9 w9 ⟨rfl, hb9⟩; rw [hw2]; have Hb9 := Lib.hid (Hbj.out.trans (hb9.mono Hbj.out.size)); clear hb9)
                refine ⟨⟨j + 1, by go_num, by omega, Hb9.out⟩, ?_⟩
                simp [intOf]; omega
              · have b5 : decide (0 ≤ y.writer) = false := decide_eq_false hwr
                clear hw
                go_wp2_with (go_at_call 29; (with_reducible refine (Hu.out _ Hbj.out _).mono ?_); rintro e9 w9 ⟨rfl, hb9⟩; have Hb9 := Lib.hid (Hbj.out.trans (hb9.mono Hbj.out.size)); clear hb9)
                refine ⟨⟨j + 1, by go_num, by omega, Hb9.out⟩, ?_⟩
                simp [intOf]; omega
            · obtain rfl : j = t'.nodes.length := by omega
              have hC9 := HC6.out.below Hbj.out
              obtain ⟨e0, -, -, e3, -, e5, -⟩ := Hcx.out wr hC9.base
              obtain ⟨s0, s1, s2, s3, s4, s5⟩ := sp_cells6 hC9.blk
              obtain ⟨z0, z1, z2, z3, z4, z5⟩ := (show wr.frozen? ⟨g, 0, none⟩ = false ∧ wr.frozen? ⟨g, 1, none⟩ = false ∧ wr.frozen? ⟨g, 2, none⟩ = false ∧ wr.frozen? ⟨g, 3, none⟩ = false ∧ wr.frozen? ⟨g, 4, none⟩ = false ∧ wr.frozen? ⟨g, 5, none⟩ = false from ⟨free_of_blk hC9.blk, free_of_blk hC9.blk, free_of_blk hC9.blk, free_of_blk hC9.blk, free_of_blk hC9.blk, free_of_blk hC9.blk⟩)
              have hst := Cur.store HC.out HT.out.app Hr.out HT.out.base Hbj.out
              simp only [setL, Nat.reduceAdd, Nat.zero_add] at hst
              have hgt := lt_of_block ((Hbj.out.block _ (lt_of_block HT.out.kt)).trans HT.out.kt)
              have hbx9 : bx < wr.heap.size := by have := Hbx.out; have := HT.out.base.size; have := Hbj.out.size; omega
              have hss := fun W (hW : Below wr.heap.size wr W) => old_two hW hgt hbx9
              have hnw := Hr.out.nums.2.2.2.2.2.2
              have Hst := Lib.hid hst; have HC9 := Lib.hid hC9; have Hss := Lib.hid hss
              clear hst hC9 hss hgt hbx9
              have hways : (e.kind == 2) = true ∧ (e.kind = 2 ∨ e.kind = 10 ∨ e.kind = 8) ∨ (e.kind == 2) = false ∧ (e.kind == 10) = true ∧ (e.kind = 2 ∨ e.kind = 10 ∨ e.kind = 8) ∨ (e.kind == 2) = false ∧ (e.kind == 10) = false ∧ (e.kind == 8) = true ∧ (e.kind = 2 ∨ e.kind = 10 ∨ e.kind = 8) ∨ (e.kind == 2) = false ∧ (e.kind == 10) = false ∧ (e.kind == 8) = false := by
                by_cases h2 : e.kind = 2
                · exact .inl ⟨by simpa using h2, .inl h2⟩
                by_cases h10 : e.kind = 10
                · exact .inr (.inl ⟨by simpa using h2, by simpa using h10, .inr (.inl h10)⟩)
                by_cases h8 : e.kind = 8
                · exact .inr (.inr (.inl ⟨by simpa using h2, by simpa using h10, by simpa using h8, .inr (.inr h8)⟩))
                exact .inr (.inr (.inr ⟨by simpa using h2, by simpa using h10, by simpa using h8⟩))
              obtain ⟨hnw1, hnw2⟩ := hnw
              go_upto_region 17 with (fail)
              rcases hways with ⟨b2, hk⟩ | ⟨b2, b10, hk⟩ | ⟨b2, b10, b8, hk⟩ | ⟨b2, b10, b8⟩
              case inr.inr.inr =>
                clear z0 z1 z2 z3 z4 z5
                obtain ⟨z0, z1, z2, z3, z4, z5⟩ := frz_of HC9.out.blk
                go_wp2_with (fail)
                go_roundw
                case rel => exact ⟨k + 1, by go_num, by omega, _, _, _, _, _, Hst.out⟩
                case measure => simp [intOf]; omega
              all_goals
                obtain ⟨hu1, hu2⟩ := Q4.out hk
                have b20 : decide (Lease.untilU e.client t'.leases < t'.now + 10) = false := decide_eq_false (by omega)
                clear hk hu2
                go_upto_region 18 with (fail)
                go_region_held3 (fun w' => (∀ j, w'.cell? ⟨gt, j, none⟩ = wr.cell? ⟨gt, j, none⟩) ∧ (∀ j, w'.cell? ⟨bx, j, none⟩ = wr.cell? ⟨bx, j, none⟩)) (with_reducible exact Hss.out _ (by (repeat' (first | (with_reducible exact HB3.out) | (with_reducible exact hB3) | (with_reducible exact Below.refl _ _) | (with_reducible refine Below.drew ?_) | (with_reducible refine Below.setCell ?_ (by dsimp only; omega) _) | (with_reducible refine Below.alloc ?_ (by first | omega | (simp; done) | (simp; omega)) _)))))
                  (first | (go_at_call 29; refine (Hu.out _ Hbj.out.drew _).mono ?_; rintro e18 w18 ⟨rfl, hb18⟩; rw [hu1]; have hB3 : Below wr.heap.size wr w18 := below_call hb18 (by (repeat' (first | (with_reducible exact HB3.out) | (with_reducible exact hB3) | (with_reducible exact Below.refl _ _) | (with_reducible refine Below.drew ?_) | (with_reducible refine Below.setCell ?_ (by dsimp only; omega) _) | (with_reducible refine Below.alloc ?_ (by first | omega | (simp; done) | (simp; omega)) _)))); have HB3 := Lib.hid hB3; clear hb18 hB3))
                have hb18 := Hbj.out.trans (HB3.out.mono Hbj.out.size)
                obtain ⟨p0, p1, p2, p3, p4, p5⟩ := Hp.out w18 hb18
                have hC18 := HC9.out.below HB3.out
                obtain ⟨s0, s1, s2, s3, s4, s5⟩ := sp_cells6 hC18.blk
                obtain ⟨z0, z1, z2, z3, z4, z5⟩ := frz_of hC18.blk
                have hst := Cur.store HC.out HT.out.app Hr.out HT.out.base hb18
                simp only [setL, Nat.reduceAdd, Nat.zero_add] at hst
                have HstF := Lib.hid hst
                clear hst hC18 hb18
                go_wp2_with (fail)
                go_roundw
                case rel => exact ⟨k + 1, by go_num, by omega, _, _, _, _, _, HstF.out⟩
                case measure => simp [intOf]; omega
        · have b0 : ((applyE t e).err != 0) = true := by simpa using h0
          go_wp2_with (fail)
          go_roundw
          case rel => exact ⟨k + 1, by go_num, by omega, _, _, _, _, _, HC6.out⟩
          case measure => simp [intOf]; omega
      · go_wp2_with (fail)
        go_ret
        exact ⟨rfl, hC.base⟩
    · obtain rfl : k = l.length := by omega
      go_wp2_with (fail)
      go_ret
      exact ⟨rfl, hC.base⟩
end Go.Proofs.YtdfckkadmgmcaaaGreatDoor.Space
