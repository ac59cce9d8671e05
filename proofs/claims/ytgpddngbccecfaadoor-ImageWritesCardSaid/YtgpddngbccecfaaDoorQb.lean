/- Quotas: quota.counts. -/
import Derived.Test.YtgpddngbccecfaaDoorQa
namespace Go.Proofs.YtgpddngbccecfaaDoor.Quota
open Go.RowKit Go.Maps Go.WideMaps
open Path (Bs bs mk bs_mk mk_bs tl_bs splitE splitL MaxC parD parE parN underL under_iff under_anti)
open Tree
set_option linter.unusedSimpArgs false
set_option linter.unusedVariables false

def cntT (l : List Nd) (s : Bs) : Nat := if rightT l = true then cntN l s else 0
def CntPost (w : World) (l : List Nd) (e : Ending) (w' : World) : Prop :=
  ∃ b n, e = .returned (.map (some b)) ∧ MapI w' b n (!rightT l) (fun s => (cntT l s : Int)) ∧ Below w.heap.size w w'

theorem counts_no (w : World) (v : Value) (l : List Nd) (h : RdN w v l) (hn : l.length ≤ 8796093022208) (hM : MaxC w) (hr : rightT l = false) : Calls Tryd.prog 45 #[v] w (CntPost w l) := by
  have hb0 : Below w.heap.size w (w.alloc (.map #[] 0)) := (Below.refl _ _).alloc (Nat.le_refl _) _
  have h1 := right_calls (w.alloc (.map #[] 0)) v l (h.below hb0) hn (hM.below hb0)
  have hmm := @run_makeMap Tryd.prog
  obtain ⟨ao, cap, rfl, _, _, _⟩ := rd_cellsN h.rd
  have hm0 := MapI.made w
  rw [hr] at h1
  have Hr := Lib.hid hr; have Hm0 := Lib.hid hm0
  clear h hr hm0 hM
  go_enter Tryd.func45, Tryd.ntmps45
  go_wp2_with (fail)
  refine h1.mono ?_
  rintro e w1 ⟨rfl, hb1⟩
  go_wp2_with (fail)
  go_ret
  refine ⟨w.heap.size, 0, rfl, ?_, hb0.trans (hb1.mono hb0.size)⟩
  rw [Hr.out]
  exact (Hm0.out.below hb1 (by simp)).cong fun s => by rw [cntT, Hr.out]; rfl

/-- What rightT l says of each node. -/
theorem right_node {l : List Nd} (h : rightT l = true) : 1 ≤ l.length ∧ l.length ≤ 60 ∧ ∀ x ∈ l, splitE (bs x.path) = 0 := by
  simp only [rightT, rightA, Bool.and_eq_true] at h
  obtain ⟨⟨h1, h2⟩, _⟩ := h
  refine ⟨?_, ?_, fun x hx => ?_⟩
  · cases l
    · cases h1
    · simp
  · cases l
    · simp
    · simp only [headOk, Bool.and_eq_true, decide_eq_true_eq] at h1
      exact h1.1.1
  · obtain ⟨k, hk, rfl⟩ := List.mem_iff_getElem.1 hx
    have := (rightA_at (l := l) (fun j hj => List.all_eq_true.1 h2 j (List.mem_range.2 hj)) (k := k) (x := l[k]) (by simp [hk])).1
    simp only [fitsN, Bool.and_eq_true, decide_eq_true_eq] at this
    exact this.1.1.1
theorem path_size {p : ByteArray} (h : splitE (bs p) = 0) : p.size ≤ 120 := by
  rw [← Path.bs_len]
  rw [splitE] at h
  split at h
  · cases h
  · omega
theorem under_size {p X : Bs} (h : underL p X = true) : (mk p).size ≤ 120 := path_size (by rw [bs_mk]; exact (under_iff.1 h).1)
/-- The way up from a node's path. -/
structure Way (l : List Nd) (k : Nat) (X : Bs) (B : Nat) (w0 : World) (p : ByteArray) (wr : World) : Prop where
  up : underL (bs p) X = true
  map : ∃ m, m + (splitL (bs p)).length = (splitL X).length ∧ MapI wr B (7 * k + 1 + m) false (fun s => (cntN (l.take k) s : Int) + if onWay X (bs p) s = true then 1 else 0)
  below : Below B w0 wr
theorem Way.step {l : List Nd} {k : Nat} {X : Bs} {B : Nat} {w0 wr w1 w2 : World} {p : ByteArray} (h : Way l k X B w0 p wr) (hp : bs p ≠ [47]) (hb : Below wr.heap.size wr w1) {n : Nat}
    (hm : MapI w2 B (n + 1) false (fun s => if s = bs (Path.mk (parD (bs p))) then (cntN (l.take k) (parD (bs p)) : Int) + 1 else (cntN (l.take k) s : Int) + if onWay X (bs p) s = true then 1 else 0))
    (hg : w1.grownBy w2 (some B)) (hB : B ≤ wr.heap.size) (hk : n + (splitL (bs p)).length = 7 * k + 1 + (splitL X).length) : Way l k X B w0 (Path.mk (parD (bs p))) w2 := by
  have hu := up_of h.up hp
  refine ⟨by rw [bs_mk]; exact hu.up, ⟨n + 1 - (7 * k + 1), ?_, ?_⟩, ?_⟩
  · rw [bs_mk]; have := hu.less; obtain ⟨m, hm1, _⟩ := h.map; omega
  · have e : 7 * k + 1 + (n + 1 - (7 * k + 1)) = n + 1 := by have := (under_iff.1 h.up).2.2.length_le; omega
    rw [e]
    refine hm.cong fun s => ?_
    rw [bs_mk, hu.way s]
    by_cases e : s = parD (bs p)
    · subst e; rw [if_pos rfl, if_pos (by simp)]
    · rw [if_neg e, decide_eq_false e, Bool.or_false]
  · exact (h.below.trans (hb.mono hB)).grown hg (Nat.le_trans hB hb.size) (fun j hj => by cases hj; exact Nat.le_refl _)

def wayLeft : Value → Nat
  | .string p => (splitL (bs p)).length
  | _ => 0
theorem way_less {p : ByteArray} {d : Bs} (h : (splitL d).length + 1 = (splitL (bs p)).length) : wayLeft (.string (mk d)) < wayLeft (.string p) := by
  simp only [wayLeft, bs_mk]; omega

set_option maxRecDepth 4000 in
set_option maxHeartbeats 4000000 in
theorem counts_yes (w : World) (v : Value) (l : List Nd) (h : RdN w v l) (hn : l.length ≤ 8796093022208) (hM : MaxC w) (hr : rightT l = true) : Calls Tryd.prog 45 #[v] w (CntPost w l) := by
  have hb0 : Below w.heap.size w (w.alloc (.map #[] 0)) := (Below.refl _ _).alloc (Nat.le_refl _) _
  have h1 := right_calls (w.alloc (.map #[] 0)) v l (h.below hb0) hn (hM.below hb0)
  have hmm := @run_makeMap Tryd.prog
  obtain ⟨hl1, hl60, hpaths⟩ := right_node hr
  have hbvs : ∀ x ∈ l, ∃ ao cap, x.bv = .slice ao x.blocks.length cap := fun x hx => bv_slice (h.bl x hx)
  have hpar : ∀ W, Below w.heap.size w W → ∀ p, Calls Tryd.prog 61 #[.string p] W (Path.ParPost W (parD (bs p)) (parN (bs p)) (parE (bs p))) := fun W hW p => Path.parent_calls W p (hM.below hW)
  obtain ⟨ao, cap, rfl, _, _, hcell⟩ := rd_cellsN h.rd
  have hm0 := MapI.made w
  rw [hr] at h1
  have Hr := Lib.hid hr; have Hm0 := Lib.hid hm0; have Hpaths := Lib.hid hpaths; have Hbvs := Lib.hid hbvs; have Hpar := Lib.hid hpar; have Hcell := Lib.hid hcell
  clear h hr hm0 hM hpaths hbvs hpar hcell
  go_enter Tryd.func45, Tryd.ntmps45
  go_wp2_with (fail)
  refine h1.mono ?_
  rintro e w1 ⟨rfl, hb1⟩
  have Hm1 := Lib.hid (Hm0.out.below hb1 (by simp))
  have Hbw1 := Lib.hid (hb0.trans (hb1.mono hb0.size))
  have hsz1 : w.heap.size < w1.heap.size := Hm1.out.lt
  clear hb1 Hm0 hb0 h1
  go_wp2_with (fail)
  generalize hB : w.heap.size = B at *
  go_loopw [14] (fun vk wr => ∃ k : Nat, vk = .int .i64 k ∧ k ≤ l.length ∧ MapI wr B (7 * k) (decide (k = 0)) (fun s => (cntN (l.take k) s : Int)) ∧ Below B w wr) (fun vk _ => l.length - (intOf vk).toNat)
  case atStart => exact ⟨0, rfl, Nat.zero_le _, Hm1.out.cong (fun s => by simp [cntN]), Hbw1.out⟩
  case round =>
    obtain ⟨k, rfl, hk, hm, hb⟩ := hrel
    have Hm := Lib.hid hm; clear hm
    have hsz : B < wr.heap.size := Hm.out.lt
    by_cases hlt : k < l.length
    · obtain ⟨x, hx⟩ : ∃ x, l[k]? = some x := ⟨l[k], by simp [hlt]⟩
      obtain ⟨b, off, rfl, _, d0, d1, d2, d3, d4⟩ := Hcell.out wr hb k x hx
      have hxm := List.mem_of_getElem? hx
      obtain ⟨ax, cx, hbvx⟩ := Hbvs.out x hxm
      rw [hbvx] at d3
      have hX := Hpaths.out x hxm
      have hps := path_size hX
      have HX := Lib.hid hX
      have hcn := cnt_next hx
      have Hcn := Lib.hid hcn
      clear hx hxm hbvx hX hcn
      have Hb := Lib.hid hb
      have hA : Below B w (wr.alloc (.cells #[.string x.path, .bool x.dir, .int .i64 x.quota, .slice ax x.blocks.length cx, .int .i64 x.writer] 51 (0, 0))) := hb.alloc (Nat.le_of_lt hsz) _
      have hAk := heap_alloc_new wr (.cells #[.string x.path, .bool x.dir, .int .i64 x.quota, .slice ax x.blocks.length cx, .int .i64 x.writer] 51 (0, 0))
      have hmA : MapI (wr.alloc (.cells #[.string x.path, .bool x.dir, .int .i64 x.quota, .slice ax x.blocks.length cx, .int .i64 x.writer] 51 (0, 0))) B (7 * k) (decide (k = 0)) (fun s => (cntN (l.take k) s : Int)) := Hm.out.below ((Below.refl wr.heap.size wr).alloc (Nat.le_refl _) _) hsz
      have hl := hmA.look (key := x.path) (by unfold maxLen; omega)
      have hc0 : cntN (l.take k) (bs x.path) ≤ 60 := Nat.le_trans (cnt_le _ _) (Nat.le_trans (List.length_take_le _ _) (by omega))
      have HA := Lib.hid hA; have HAk := Lib.hid hAk; have HmA := Lib.hid hmA
      have hmx : x.path.size ≤ maxLen := by unfold maxLen; omega
      have Hb := Lib.hid hb
      clear hA hAk hmA hb
      generalize hcc : cntN (l.take k) (bs x.path) = c0 at *
      have Hcc := Lib.hid hcc; clear hcc
      have wf : (Lit.int .i64 ((c0 : Int) + 1)).wf = true := WalkArith.wf_i64 ⟨by omega, by omega⟩
      go_wp2_with (first | (at_mapUpdate; refine MapI.upd HmA.out (by unfold maxLen; omega) rfl _ _ _ rfl rfl rfl hmx rfl wf ?_; intro w2 hm2 hg2; have k2 := cell_of_blk (j := 0) ((hg2.block wr.heap.size (by simp) (by simp; omega)).trans HAk.out); simp only [List.getElem?_toArray, List.getElem?_cons_zero] at k2))
      have hway : Way l k (bs x.path) B w x.path w2 := by
        refine ⟨under_iff.2 ⟨HX.out, HX.out, List.prefix_refl _⟩, ⟨0, by omega, hm2.cong fun s => ?_⟩, HA.out.grown hg2 (by simp; omega) (fun j hj => by cases hj; exact Nat.le_refl _)⟩
        rw [way_start HX.out s]
        by_cases e : s = bs x.path
        · subst e; rw [if_pos rfl, Hcc.out]; simp
        · rw [if_neg e]; simp [e]
      have hsz2 : B < w2.heap.size := hm2.lt
      clear hm2 hg2 k2 hl d0 d1 d2 d3 d4
      generalize hXX : bs x.path = X at *
      have HXX := Lib.hid hXX; clear hXX
      have Hway := Lib.hid hway; clear hway
      obtain ⟨wo, rfl⟩ : ∃ wo : World, wo = w2 := ⟨_, rfl⟩
      go_loopw [6] (fun vp wr => ∃ p : ByteArray, vp = .string p ∧ Way l k X B w p wr) (fun vp _ => wayLeft vp)
      case atStart => exact ⟨x.path, rfl, Hway.out⟩
      case round =>
        obtain ⟨p, rfl, hw⟩ := hrel
        have Hw := Lib.hid hw
        obtain ⟨m, hm1, hm2⟩ := hw.map
        have Hm2 := Lib.hid hm2
        have Hm1 := Lib.hid hm1
        have hml : m ≤ (splitL X).length := by omega
        clear hm1
        have hszr : B < wr.heap.size := hm2.lt
        have hbr := hw.below
        by_cases hp : bs p = [47]
        · have hq : (p.toList == [47]) = true := by rw [tl_bs, hp]; rfl
          have hq' : (p.toList != [47]) = false := by rw [bne, hq]; rfl
          have Hp := Lib.hid hp
          have hX6 : (splitL X).length ≤ 6 := Path.split_six X
          have hnx : MapI wr B (7 * (k + 1)) (decide (k + 1 = 0)) (fun s => (cntN (l.take (k + 1)) s : Int)) := by
            rw [decide_eq_false (by omega)]
            refine (hm2.mono (by omega)).cong fun s => ?_
            rw [Hcn.out s, hp, way_end HX.out s]
            split <;> simp
          have Hnx := Lib.hid hnx
          clear hp hm2 hw hnx
          go_wp2_with (fail)
          go_roundw
          case rel => exact ⟨k + 1, by go_num, by omega, Hnx.out, hbr⟩
          case measure => simp [intOf]; omega
        · have hq : (p.toList == [47]) = false := by rw [tl_bs]; exact beq_false_of_ne hp
          have hq' : (p.toList != [47]) = true := by rw [bne, hq]; rfl
          have hu := up_of hw.up hp
          have Hp := Lib.hid hp
          have hpc := Hpar.out wr hbr p
          have hks : (mk (parD (bs p))).size ≤ 120 := under_size hu.up
          have hmx2 : (mk (parD (bs p))).size ≤ maxLen := by unfold maxLen; omega
          have hnew := hu.new
          have Hless := Lib.hid hu.less
          have hc1 : cntN (l.take k) (parD (bs p)) ≤ 60 := Nat.le_trans (cnt_le _ _) (Nat.le_trans (List.length_take_le _ _) (by omega))
          have HN := Lib.hid hnew
          clear hp hw hu hnew
          have hX6 : (splitL X).length ≤ 6 := Path.split_six X
          generalize hcc1 : cntN (l.take k) (parD (bs p)) = c1 at *
          have Hcc1 := Lib.hid hcc1; clear hcc1
          have wf1 : (Lit.int .i64 ((c1 : Int) + 1)).wf = true := WalkArith.wf_i64 ⟨by omega, by omega⟩
          go_wp2_with (fail)
          refine hpc.mono ?_
          rintro e w3 ⟨rfl, hb3⟩
          have hm3 := Hm2.out.below hb3 hszr
          have hl3 := hm3.look (key := mk (parD (bs p))) hmx2
          rw [bs_mk, HN.out, Hcc1.out, if_neg (by simp), Int.add_zero] at hl3
          have Hm3 := Lib.hid hm3
          clear hm2 hm3
          have hn1 : 7 * k + 1 + m < maxLen := by unfold maxLen; omega
          go_wp2_with (first | (at_mapUpdate; refine MapI.upd Hm3.out hn1 rfl _ _ _ rfl rfl rfl hmx2 rfl wf1 ?_; intro w4 hm4 hg4; simp only [Act.put]))
          go_roundw
          case rel => exact ⟨_, rfl, Hw.out.step Hp.out hb3 (hm4.cong fun s => by rw [Hcc1.out]) hg4 (by omega) (by have := Hm1.out; omega)⟩
          case measure => exact way_less Hless.out
    · obtain rfl : k = l.length := by omega
      go_wp2_with (fail)
      go_ret
      refine ⟨B, 7 * l.length, rfl, ?_, hB ▸ hb⟩
      have h0 := Hm.out
      rw [List.take_length, decide_eq_false (by omega)] at h0
      rw [Hr.out]
      exact h0.cong fun s => by rw [cntT, Hr.out]; rfl
end Go.Proofs.YtgpddngbccecfaaDoor.Quota
