/- Parts of the proof, one behind the other: Qa, Qb, Qc, Qd, Qe, Qf. -/
import Derived.Test.YtdfckkadmgmcaaaGreatDoorGb
import Derived.Test.YtdfckkadmgmcaaaGreatDoorGa
import Derived.Maps.OwnSet
import Derived.StringKeys
import Derived.Lib.QuietBelow
/- Quotas, in plain words: how many nodes stand under a path; a map from texts to numbers, told by a function. -/
namespace Go.Proofs.YtdfckkadmgmcaaaGreatDoor.Quota
open Go.RowKit Go.Maps Go.WideMaps
open Path (Bs bs mk bs_mk mk_bs tl_bs splitE splitL MaxC parD parE parN underL under_iff under_anti)
open Tree
set_option linter.unusedSimpArgs false
set_option linter.unusedVariables false

def cntN (l : List Nd) (p : Bs) : Nat := (l.filter fun x => underL p (bs x.path)).length
theorem cnt_le (l : List Nd) (p : Bs) : cntN l p ≤ l.length := List.length_filter_le _ _
theorem cnt_next {l : List Nd} {k : Nat} {x : Nd} (hx : l[k]? = some x) (p : Bs) : cntN (l.take (k + 1)) p = cntN (l.take k) p + if underL p (bs x.path) = true then 1 else 0 := by
  rw [cntN, List.take_add_one, hx, List.filter_append, List.length_append]
  cases h : underL p (bs x.path) <;> simp [h, cntN]

/-- The texts that have been counted when the way up from X has come to p: those that X is under, and that are under p. -/
def onWay (X p s : Bs) : Bool := underL s X && underL p s
theorem way_start {X : Bs} (hX : splitE X = 0) (s : Bs) : onWay X X s = decide (s = X) := by
  have hself : underL X X = true := under_iff.2 ⟨hX, hX, List.prefix_refl _⟩
  by_cases h : s = X
  · subst h; rw [onWay, hself]; simp
  · rw [decide_eq_false h, onWay, Bool.eq_false_iff]
    intro hh
    rw [Bool.and_eq_true] at hh
    exact h (under_anti hh.1 hh.2)
theorem way_end {X : Bs} (hX : splitE X = 0) (s : Bs) : onWay X [47] s = underL s X := by
  rw [onWay]
  cases h : underL s X
  · rfl
  · rw [Bool.true_and]
    exact under_iff.2 ⟨by decide, (under_iff.1 h).1, by rw [show splitL [47] = [] by decide]; exact List.nil_prefix⟩
/-- One step up. -/
structure Up (X p : Bs) : Prop where
  E : parE p = 0
  dE : splitE (parD p) = 0
  up : underL (parD p) X = true
  less : (splitL (parD p)).length + 1 = (splitL p).length
  new : onWay X p (parD p) = false
  way : ∀ s, onWay X (parD p) s = (onWay X p s || decide (s = parD p))
theorem up_of {X p : Bs} (h : underL p X = true) (hp : p ≠ [47]) : Up X p := by
  obtain ⟨hE, hX, hpre⟩ := under_iff.1 h
  have hL : splitL p ≠ [] := fun e => hp (Path.split_inj hE (by decide) (by rw [e]; decide))
  obtain ⟨init, n, pre, hpar⟩ := Path.par_yes hE hL
  have hm := Path.par_more hE hpar
  have hlen : (splitL (parD p)).length + 1 = (splitL p).length := by rw [hpar.D, hm.dL, hpar.L]; simp
  have hdp : underL (parD p) p = true := by rw [hpar.D]; exact hm.up
  have hdX := Path.under_trans hdp h
  have hnew : underL p (parD p) = false := by rw [hpar.D]; exact hm.down
  have hd : splitE (parD p) = 0 := by rw [hpar.D]; exact hm.dE
  refine ⟨hpar.E, hd, hdX, hlen, by rw [onWay, hnew, Bool.and_false], fun s => ?_⟩
  rw [Bool.eq_iff_iff]
  simp only [onWay, Bool.and_eq_true, Bool.or_eq_true, decide_eq_true_eq]
  constructor
  · rintro ⟨h1, h2⟩
    obtain ⟨s1, _, s3⟩ := under_iff.1 h1
    obtain ⟨_, _, t3⟩ := under_iff.1 h2
    by_cases hle : (splitL p).length ≤ (splitL s).length
    · exact .inl ⟨h1, under_iff.2 ⟨hE, s1, List.prefix_of_prefix_length_le hpre s3 hle⟩⟩
    · right
      have hl2 := t3.length_le
      exact Path.split_inj s1 hd (t3.eq_of_length (by omega)).symm
  · rintro (⟨h1, h2⟩ | rfl)
    · exact ⟨h1, Path.under_trans hdp h2⟩
    · exact ⟨hdX, under_iff.2 ⟨hd, hd, List.prefix_refl _⟩⟩
theorem way_count {X : Bs} (hX : splitE X = 0) : (splitL X).length ≤ 6 := Path.split_six X

theorem law : Keyed Tryz.prog 9 := string_keyed Tryz.underlying9
theorem zeroE (w : World) : (zeroValue 3).run Tryz.prog w = .ok (.int .i64 0) w := by kernel_rfl
structure MapI (w : World) (b n : Nat) (e : Bool) (f : Bs → Int) : Prop where
  own : ∃ D : DataW Unit, w.ownsMap Tryz.prog 9 (plainElem Tryz.prog 3) b n D ∧ (∀ s : Bs, D.atKey (.string s) (.lit (.int .i64 0)) = .lit (.int .i64 (f s))) ∧ ((((Maps.size D : Nat) : Int) == 0) = e)
section
variable {w : World} {b n : Nat} {e : Bool} {f : Bs → Int}
theorem MapI.made (w : World) : MapI (w.alloc (.map #[] 0)) w.heap.size 0 true (fun _ => 0) :=
  ⟨.map [], World.ownsMap_made _ _ _ _, fun _ => rfl, rfl⟩
theorem MapI.lt (h : MapI w b n e f) : b < w.heap.size := by obtain ⟨D, h1, _⟩ := h.own; exact h1.lt
theorem MapI.below {w' : World} {B : Nat} (h : MapI w b n e f) (hb : Below B w w') (hB : b < B) : MapI w' b n e f := by
  obtain ⟨D, ⟨es, clock, g1, g2⟩, h2⟩ := h.own
  exact ⟨D, ⟨es, clock, (hb.block b hB).trans g1, g2⟩, h2⟩
theorem MapI.mono {n' : Nat} (h : MapI w b n e f) (hn : n ≤ n') : MapI w b n' e f := by
  obtain ⟨D, h1, h2⟩ := h.own
  exact ⟨D, h1.mono hn, h2⟩
theorem MapI.cong {g : Bs → Int} (h : MapI w b n e f) (hg : ∀ s, g s = f s) : MapI w b n e g := by
  obtain rfl : g = f := funext hg
  exact h
theorem MapI.look (h : MapI w b n e f) {key : ByteArray} (hk : key.size ≤ maxLen) : (Instr.lookup 91 (.map (some b)) (.string key) false).run Tryz.prog w = .ok (.int .i64 (f (bs key))) w := by
  obtain ⟨D, h1, h2, _⟩ := h.own
  obtain ⟨c, hr, hat, _⟩ := h1.lookup_int law Tryz.underlying91 Tryz.underlying3 (zeroE w) (keyOf_string_mk Tryz.underlying9 hk)
  rw [hr, (Lit.int.inj (DataW.lit.inj (hat.symm.trans (h2 (bs key))))).2]
theorem MapI.len (h : MapI w b n e f) : ∃ m : Nat, (∀ ty, (Builtin.len_ #[91] ty #[.map (some b)]).run Tryz.prog w = .ok (.int .i64 (m : Int)) w) ∧ ((m : Int) == 0) = e := by
  obtain ⟨D, h1, _, h3⟩ := h.own
  exact ⟨_, fun ty => h1.len Tryz.underlying91 ty, h3⟩
theorem MapI.upd {ops : Array Oper} {rest : List Oper} {o : Oper} {a : Act} {Q : Exit → Act → World → Prop} (h : MapI w b n e f) (hn : n < maxLen) (hgd : o.guard = none) (m x v : Operand) (hop : o.op = Op.mapUpdate 91 m x v)
    (hm : a.eval m = .map (some b)) {key : ByteArray} (hx : a.eval x = .string key) (hk : key.size ≤ maxLen) {c : Int} (hv : a.eval v = .int .i64 c) (hc : (Lit.int .i64 c).wf = true)
    (hK : ∀ w', MapI w' b (n + 1) false (fun s => if s = bs key then c else f s) → w.grownBy w' (some b) → wpList Tryz.prog ops Q rest (a.put o.dst undef) w') : wpList Tryz.prog ops Q (o :: rest) a w := by
  obtain ⟨D, h1, h2, _⟩ := h.own
  have hkey := keyOf_string_mk (P := Tryz.prog) Tryz.underlying9 hk
  refine wpList_mapUpdate_own w hgd m x v 91 hop 9 3 law Tryz.underlying91 _ b n D hm h1 hn _ _ _ hx hv hkey _ [] (plainElem_int Tryz.underlying3 hc) ?_
  intro w1 hown hg
  refine hK w1 ⟨_, hown, fun s => ?_, ?_⟩ hg
  · by_cases e : s = bs key
    · subst e
      simp only [if_pos]
      exact atKey_put_same (k := .string key.data.toList) h1.isMap trivial _ _
    · rw [if_neg e, atKey_put_other (fun hh => e (by injection hh))]
      exact h2 s
  · rw [size_put (h1.tidy law)]
    refine beq_false_of_ne ?_
    split
    · rename_i hh
      intro h0
      obtain ⟨es, rfl, _⟩ := h1.tidy law
      have : es = [] := List.eq_nil_of_length_eq_zero (by simpa [Maps.size] using h0)
      subst this
      simp [Maps.has] at hh
    · omega
end
end Go.Proofs.YtdfckkadmgmcaaaGreatDoor.Quota

/- Quotas: quota.counts. -/
namespace Go.Proofs.YtdfckkadmgmcaaaGreatDoor.Quota
open Go.RowKit Go.Maps Go.WideMaps
open Path (Bs bs mk bs_mk mk_bs tl_bs splitE splitL MaxC parD parE parN underL under_iff under_anti)
open Tree
set_option linter.unusedSimpArgs false
set_option linter.unusedVariables false

def cntT (l : List Nd) (s : Bs) : Nat := if rightT l = true then cntN l s else 0
def CntPost (w : World) (l : List Nd) (e : Ending) (w' : World) : Prop :=
  ∃ b n, e = .returned (.map (some b)) ∧ MapI w' b n (!rightT l) (fun s => (cntT l s : Int)) ∧ Below w.heap.size w w'

theorem counts_no (w : World) (v : Value) (l : List Nd) (h : RdN w v l) (hn : l.length ≤ 8796093022208) (hM : MaxC w) (hr : rightT l = false) : Calls Tryz.prog 63 #[v] w (CntPost w l) := by
  have hb0 : Below w.heap.size w (w.alloc (.map #[] 0)) := (Below.refl _ _).alloc (Nat.le_refl _) _
  have h1 := right_calls (w.alloc (.map #[] 0)) v l (h.below hb0) hn (hM.below hb0)
  have hmm := @run_makeMap Tryz.prog
  obtain ⟨ao, cap, rfl, _, _, _⟩ := rd_cellsN h.rd
  have hm0 := MapI.made w
  rw [hr] at h1
  have Hr := Lib.hid hr; have Hm0 := Lib.hid hm0
  clear h hr hm0 hM
  go_enter Tryz.func63, Tryz.ntmps63
  go_wp2_with (fail)
  refine h1.mono ?_
  rintro e w1 ⟨rfl, hb1⟩
  go_wp2_with (fail)
  go_ret
  refine ⟨w.heap.size, 0, rfl, ?_, hb0.trans (hb1.mono hb0.size)⟩
  rw [Hr.out]
  exact (Hm0.out.below hb1 (by simp)).cong fun s => by rw [cntT, Hr.out]; rfl

/-- What rightT l says of each node. -/
theorem right_node {l : List Nd} (h : rightT l = true) : 1 ≤ l.length ∧ l.length ≤ 60 ∧ ∀ x ∈ l, splitE (bs x.path) = 0 := by
  simp only [rightT, rightA, Bool.and_eq_true] at h
  obtain ⟨⟨h1, h2⟩, _⟩ := h
  refine ⟨?_, ?_, fun x hx => ?_⟩
  · cases l
    · cases h1
    · simp
  · cases l
    · simp
    · simp only [headOk, Bool.and_eq_true, decide_eq_true_eq] at h1
      exact h1.1.1
  · obtain ⟨k, hk, rfl⟩ := List.mem_iff_getElem.1 hx
    have := (rightA_at (l := l) (fun j hj => List.all_eq_true.1 h2 j (List.mem_range.2 hj)) (k := k) (x := l[k]) (by simp [hk])).1
    simp only [fitsN, Bool.and_eq_true, decide_eq_true_eq] at this
    exact this.1.1.1
theorem path_size {p : ByteArray} (h : splitE (bs p) = 0) : p.size ≤ 120 := by
  rw [← Path.bs_len]
  rw [splitE] at h
  split at h
  · cases h
  · omega
theorem under_size {p X : Bs} (h : underL p X = true) : (mk p).size ≤ 120 := path_size (by rw [bs_mk]; exact (under_iff.1 h).1)
/-- The way up from a node's path. -/
structure Way (l : List Nd) (k : Nat) (X : Bs) (B : Nat) (w0 : World) (p : ByteArray) (wr : World) : Prop where
  up : underL (bs p) X = true
  map : ∃ m, m + (splitL (bs p)).length = (splitL X).length ∧ MapI wr B (7 * k + 1 + m) false (fun s => (cntN (l.take k) s : Int) + if onWay X (bs p) s = true then 1 else 0)
  below : Below B w0 wr
theorem Way.step {l : List Nd} {k : Nat} {X : Bs} {B : Nat} {w0 wr w1 w2 : World} {p : ByteArray} (h : Way l k X B w0 p wr) (hp : bs p ≠ [47]) (hb : Below wr.heap.size wr w1) {n : Nat}
    (hm : MapI w2 B (n + 1) false (fun s => if s = bs (Path.mk (parD (bs p))) then (cntN (l.take k) (parD (bs p)) : Int) + 1 else (cntN (l.take k) s : Int) + if onWay X (bs p) s = true then 1 else 0))
    (hg : w1.grownBy w2 (some B)) (hB : B ≤ wr.heap.size) (hk : n + (splitL (bs p)).length = 7 * k + 1 + (splitL X).length) : Way l k X B w0 (Path.mk (parD (bs p))) w2 := by
  have hu := up_of h.up hp
  refine ⟨by rw [bs_mk]; exact hu.up, ⟨n + 1 - (7 * k + 1), ?_, ?_⟩, ?_⟩
  · rw [bs_mk]; have := hu.less; obtain ⟨m, hm1, _⟩ := h.map; omega
  · have e : 7 * k + 1 + (n + 1 - (7 * k + 1)) = n + 1 := by have := (under_iff.1 h.up).2.2.length_le; omega
    rw [e]
    refine hm.cong fun s => ?_
    rw [bs_mk, hu.way s]
    by_cases e : s = parD (bs p)
    · subst e; rw [if_pos rfl, if_pos (by simp)]
    · rw [if_neg e, decide_eq_false e, Bool.or_false]
  · exact (h.below.trans (hb.mono hB)).grown hg (Nat.le_trans hB hb.size) (fun j hj => by cases hj; exact Nat.le_refl _)

def wayLeft : Value → Nat
  | .string p => (splitL (bs p)).length
  | _ => 0
theorem way_less {p : ByteArray} {d : Bs} (h : (splitL d).length + 1 = (splitL (bs p)).length) : wayLeft (.string (mk d)) < wayLeft (.string p) := by
  simp only [wayLeft, bs_mk]; omega

set_option maxRecDepth 4000 in
set_option maxHeartbeats 4000000 in
theorem counts_yes (w : World) (v : Value) (l : List Nd) (h : RdN w v l) (hn : l.length ≤ 8796093022208) (hM : MaxC w) (hr : rightT l = true) : Calls Tryz.prog 63 #[v] w (CntPost w l) := by
  have hb0 : Below w.heap.size w (w.alloc (.map #[] 0)) := (Below.refl _ _).alloc (Nat.le_refl _) _
  have h1 := right_calls (w.alloc (.map #[] 0)) v l (h.below hb0) hn (hM.below hb0)
  have hmm := @run_makeMap Tryz.prog
  obtain ⟨hl1, hl60, hpaths⟩ := right_node hr
  have hbvs : ∀ x ∈ l, ∃ ao cap, x.bv = .slice ao x.blocks.length cap := fun x hx => bv_slice (h.bl x hx)
  have hpar : ∀ W, Below w.heap.size w W → ∀ p, Calls Tryz.prog 94 #[.string p] W (Path.ParPost W (parD (bs p)) (parN (bs p)) (parE (bs p))) := fun W hW p => Path.parent_calls W p (hM.below hW)
  obtain ⟨ao, cap, rfl, _, _, hcell⟩ := rd_cellsN h.rd
  have hm0 := MapI.made w
  rw [hr] at h1
  have Hr := Lib.hid hr; have Hm0 := Lib.hid hm0; have Hpaths := Lib.hid hpaths; have Hbvs := Lib.hid hbvs; have Hpar := Lib.hid hpar; have Hcell := Lib.hid hcell
  clear h hr hm0 hM hpaths hbvs hpar hcell
  go_enter Tryz.func63, Tryz.ntmps63
  go_wp2_with (fail)
  refine h1.mono ?_
  rintro e w1 ⟨rfl, hb1⟩
  have Hm1 := Lib.hid (Hm0.out.below hb1 (by simp))
  have Hbw1 := Lib.hid (hb0.trans (hb1.mono hb0.size))
  have hsz1 : w.heap.size < w1.heap.size := Hm1.out.lt
  clear hb1 Hm0 hb0 h1
  go_wp2_with (fail)
  generalize hB : w.heap.size = B at *
  go_loopw [14] (fun vk wr => ∃ k : Nat, vk = .int .i64 k ∧ k ≤ l.length ∧ MapI wr B (7 * k) (decide (k = 0)) (fun s => (cntN (l.take k) s : Int)) ∧ Below B w wr) (fun vk _ => l.length - (intOf vk).toNat)
  case atStart => exact ⟨0, rfl, Nat.zero_le _, Hm1.out.cong (fun s => by simp [cntN]), Hbw1.out⟩
  case round =>
    obtain ⟨k, rfl, hk, hm, hb⟩ := hrel
    have Hm := Lib.hid hm; clear hm
    have hsz : B < wr.heap.size := Hm.out.lt
    by_cases hlt : k < l.length
    · obtain ⟨x, hx⟩ : ∃ x, l[k]? = some x := ⟨l[k], by simp [hlt]⟩
      obtain ⟨b, off, rfl, _, d0, d1, d2, d3, d4⟩ := Hcell.out wr hb k x hx
      have hxm := List.mem_of_getElem? hx
      obtain ⟨ax, cx, hbvx⟩ := Hbvs.out x hxm
      rw [hbvx] at d3
      have hX := Hpaths.out x hxm
      have hps := path_size hX
      have HX := Lib.hid hX
      have hcn := cnt_next hx
      have Hcn := Lib.hid hcn
      clear hx hxm hbvx hX hcn
      have Hb := Lib.hid hb
      have hA : Below B w (wr.alloc (.cells #[.string x.path, .bool x.dir, .int .i64 x.quota, .slice ax x.blocks.length cx, .int .i64 x.writer] 35 (0, 0))) := hb.alloc (Nat.le_of_lt hsz) _
      have hAk := heap_alloc_new wr (.cells #[.string x.path, .bool x.dir, .int .i64 x.quota, .slice ax x.blocks.length cx, .int .i64 x.writer] 35 (0, 0))
      have hmA : MapI (wr.alloc (.cells #[.string x.path, .bool x.dir, .int .i64 x.quota, .slice ax x.blocks.length cx, .int .i64 x.writer] 35 (0, 0))) B (7 * k) (decide (k = 0)) (fun s => (cntN (l.take k) s : Int)) := Hm.out.below ((Below.refl wr.heap.size wr).alloc (Nat.le_refl _) _) hsz
      have hl := hmA.look (key := x.path) (by unfold maxLen; omega)
      have hc0 : cntN (l.take k) (bs x.path) ≤ 60 := Nat.le_trans (cnt_le _ _) (Nat.le_trans (List.length_take_le _ _) (by omega))
      have HA := Lib.hid hA; have HAk := Lib.hid hAk; have HmA := Lib.hid hmA
      have hmx : x.path.size ≤ maxLen := by unfold maxLen; omega
      have Hb := Lib.hid hb
      clear hA hAk hmA hb
      generalize hcc : cntN (l.take k) (bs x.path) = c0 at *
      have Hcc := Lib.hid hcc; clear hcc
      have wf : (Lit.int .i64 ((c0 : Int) + 1)).wf = true := WalkArith.wf_i64 ⟨by omega, by omega⟩
      go_wp2_with (first | (at_mapUpdate; refine MapI.upd HmA.out (by unfold maxLen; omega) rfl _ _ _ rfl rfl rfl hmx rfl wf ?_; intro w2 hm2 hg2; have k2 := cell_of_blk (j := 0) ((hg2.block wr.heap.size (by simp) (by simp; omega)).trans HAk.out); simp only [List.getElem?_toArray, List.getElem?_cons_zero] at k2))
      have hway : Way l k (bs x.path) B w x.path w2 := by
        refine ⟨under_iff.2 ⟨HX.out, HX.out, List.prefix_refl _⟩, ⟨0, by omega, hm2.cong fun s => ?_⟩, HA.out.grown hg2 (by simp; omega) (fun j hj => by cases hj; exact Nat.le_refl _)⟩
        rw [way_start HX.out s]
        by_cases e : s = bs x.path
        · subst e; rw [if_pos rfl, Hcc.out]; simp
        · rw [if_neg e]; simp [e]
      have hsz2 : B < w2.heap.size := hm2.lt
      clear hm2 hg2 k2 hl d0 d1 d2 d3 d4
      generalize hXX : bs x.path = X at *
      have HXX := Lib.hid hXX; clear hXX
      have Hway := Lib.hid hway; clear hway
      obtain ⟨wo, rfl⟩ : ∃ wo : World, wo = w2 := ⟨_, rfl⟩
      go_loopw [6] (fun vp wr => ∃ p : ByteArray, vp = .string p ∧ Way l k X B w p wr) (fun vp _ => wayLeft vp)
      case atStart => exact ⟨x.path, rfl, Hway.out⟩
      case round =>
        obtain ⟨p, rfl, hw⟩ := hrel
        have Hw := Lib.hid hw
        obtain ⟨m, hm1, hm2⟩ := hw.map
        have Hm2 := Lib.hid hm2
        have Hm1 := Lib.hid hm1
        have hml : m ≤ (splitL X).length := by omega
        clear hm1
        have hszr : B < wr.heap.size := hm2.lt
        have hbr := hw.below
        by_cases hp : bs p = [47]
        · have hq : (p.toList == [47]) = true := by rw [tl_bs, hp]; rfl
          have hq' : (p.toList != [47]) = false := by rw [bne, hq]; rfl
          have Hp := Lib.hid hp
          have hX6 : (splitL X).length ≤ 6 := Path.split_six X
          have hnx : MapI wr B (7 * (k + 1)) (decide (k + 1 = 0)) (fun s => (cntN (l.take (k + 1)) s : Int)) := by
            rw [decide_eq_false (by omega)]
            refine (hm2.mono (by omega)).cong fun s => ?_
            rw [Hcn.out s, hp, way_end HX.out s]
            split <;> simp
          have Hnx := Lib.hid hnx
          clear hp hm2 hw hnx
          go_wp2_with (fail)
          go_roundw
          case rel => exact ⟨k + 1, by go_num, by omega, Hnx.out, hbr⟩
          case measure => simp [intOf]; omega
        · have hq : (p.toList == [47]) = false := by rw [tl_bs]; exact beq_false_of_ne hp
          have hq' : (p.toList != [47]) = true := by rw [bne, hq]; rfl
          have hu := up_of hw.up hp
          have Hp := Lib.hid hp
          have hpc := Hpar.out wr hbr p
          have hks : (mk (parD (bs p))).size ≤ 120 := under_size hu.up
          have hmx2 : (mk (parD (bs p))).size ≤ maxLen := by unfold maxLen; omega
          have hnew := hu.new
          have Hless := Lib.hid hu.less
          have hc1 : cntN (l.take k) (parD (bs p)) ≤ 60 := Nat.le_trans (cnt_le _ _) (Nat.le_trans (List.length_take_le _ _) (by omega))
          have HN := Lib.hid hnew
          clear hp hw hu hnew
          have hX6 : (splitL X).length ≤ 6 := Path.split_six X
          generalize hcc1 : cntN (l.take k) (parD (bs p)) = c1 at *
          have Hcc1 := Lib.hid hcc1; clear hcc1
          have wf1 : (Lit.int .i64 ((c1 : Int) + 1)).wf = true := WalkArith.wf_i64 ⟨by omega, by omega⟩
          go_wp2_with (fail)
          refine hpc.mono ?_
          rintro e w3 ⟨rfl, hb3⟩
          have hm3 := Hm2.out.below hb3 hszr
          have hl3 := hm3.look (key := mk (parD (bs p))) hmx2
          rw [bs_mk, HN.out, Hcc1.out, if_neg (by simp), Int.add_zero] at hl3
          have Hm3 := Lib.hid hm3
          clear hm2 hm3
          have hn1 : 7 * k + 1 + m < maxLen := by unfold maxLen; omega
          go_wp2_with (first | (at_mapUpdate; refine MapI.upd Hm3.out hn1 rfl _ _ _ rfl rfl rfl hmx2 rfl wf1 ?_; intro w4 hm4 hg4; simp only [Act.put]))
          go_roundw
          case rel => exact ⟨_, rfl, Hw.out.step Hp.out hb3 (hm4.cong fun s => by rw [Hcc1.out]) hg4 (by omega) (by have := Hm1.out; omega)⟩
          case measure => exact way_less Hless.out
    · obtain rfl : k = l.length := by omega
      go_wp2_with (fail)
      go_ret
      refine ⟨B, 7 * l.length, rfl, ?_, hB ▸ hb⟩
      have h0 := Hm.out
      rw [List.take_length, decide_eq_false (by omega)] at h0
      rw [Hr.out]
      exact h0.cong fun s => by rw [cntT, Hr.out]; rfl
end Go.Proofs.YtdfckkadmgmcaaaGreatDoor.Quota

/- Quotas: quota.Count, Over. -/
namespace Go.Proofs.YtdfckkadmgmcaaaGreatDoor.Quota
open Go.RowKit Go.Maps Go.WideMaps
open Path (Bs bs mk bs_mk mk_bs tl_bs splitE splitL MaxC parD parE parN underL under_iff under_anti OwnS flatS flatS_snoc etS)
open Tree
set_option linter.unusedSimpArgs false
set_option linter.unusedVariables false

theorem counts_calls (w : World) (v : Value) (l : List Nd) (h : RdN w v l) (hn : l.length ≤ 8796093022208) (hM : MaxC w) : Calls Tryz.prog 63 #[v] w (CntPost w l) := by
  cases hr : rightT l
  · exact counts_no w v l h hn hM hr
  · exact counts_yes w v l h hn hM hr

theorem count_calls (w : World) (v : Value) (l : List Nd) (p : ByteArray) (h : RdN w v l) (hn : l.length ≤ 8796093022208) (hM : MaxC w) (hp : p.size ≤ maxLen) :
    Calls Tryz.prog 28 #[v, .string p] w fun e w' => e = .returned (.int .i64 (cntT l (bs p))) ∧ Below w.heap.size w w' := by
  have h1 := counts_calls w v l h hn hM
  obtain ⟨ao, cap, rfl, _, _, _⟩ := rd_cellsN h.rd
  clear h hM
  go_enter Tryz.func28, Tryz.ntmps28
  go_wp2_with (fail)
  refine h1.mono ?_
  rintro e w1 ⟨b, n, rfl, hm, hb1⟩
  have hl := hm.look hp
  clear hm
  go_wp2_with (fail)
  go_ret
  exact ⟨rfl, hb1⟩

def overP (l : List Nd) (x : Nd) : Bool := x.dir && decide (0 ≤ x.quota) && decide (x.quota < cntN l (bs x.path))
def overL (l : List Nd) : List ByteArray := if rightT l = true then (l.filter (overP l)).map (·.path) else []
theorem over_ways (l : List Nd) (x : Nd) : (overP l x = false ∧ x.dir = false) ∨ (overP l x = false ∧ x.dir = true ∧ ¬ 0 ≤ x.quota) ∨ (overP l x = false ∧ x.dir = true ∧ 0 ≤ x.quota ∧ ¬ x.quota < cntN l (bs x.path)) ∨
    (overP l x = true ∧ x.dir = true ∧ 0 ≤ x.quota ∧ x.quota < cntN l (bs x.path)) := by
  rw [overP]
  cases x.dir
  · exact .inl ⟨rfl, rfl⟩
  · by_cases h1 : 0 ≤ x.quota
    · by_cases h2 : x.quota < cntN l (bs x.path)
      · exact .inr (.inr (.inr ⟨by simp [h1, h2], rfl, h1, h2⟩))
      · exact .inr (.inr (.inl ⟨by simp [h2], rfl, h1, h2⟩))
    · exact .inr (.inl ⟨by simp [h1], rfl, h1⟩)
def fst (l : List Nd) (k : Nat) : List ByteArray := ((l.take k).filter (overP l)).map (·.path)
theorem fst_no {l : List Nd} {k : Nat} {x : Nd} (hx : l[k]? = some x) (h : overP l x = false) : fst l (k + 1) = fst l k := by
  rw [fst, List.take_add_one, hx, List.filter_append]
  simp [h, fst]
theorem fst_yes {l : List Nd} {k : Nat} {x : Nd} (hx : l[k]? = some x) (h : overP l x = true) : fst l (k + 1) = fst l k ++ [x.path] := by
  rw [fst, List.take_add_one, hx, List.filter_append]
  simp [h, fst]
theorem fst_len (l : List Nd) (k : Nat) : (fst l k).length ≤ k := by
  rw [fst, List.length_map]
  exact Nat.le_trans (List.length_filter_le _ _) (List.length_take_le _ _)

set_option maxRecDepth 4000 in
set_option maxHeartbeats 4000000 in
theorem over_calls (w : World) (v : Value) (l : List Nd) (h : RdN w v l) (hn : l.length ≤ 8796093022208) (hM : MaxC w) :
    Calls Tryz.prog 25 #[v] w fun e w' => ∃ v', e = .returned v' ∧ OwnS w w' v' (overL l) ∧ Below w.heap.size w w' := by
  have h1 := counts_calls w v l h hn hM
  have hbvs : ∀ x ∈ l, ∃ ao cap, x.bv = .slice ao x.blocks.length cap := fun x hx => bv_slice (h.bl x hx)
  obtain ⟨ao, cap, rfl, hcap, _, hcell⟩ := rd_cellsN h.rd
  have Hbvs := Lib.hid hbvs; have Hcell := Lib.hid hcell
  clear h hM hbvs hcell
  cases hr : rightT l
  · rw [overL, hr, if_neg (by simp)]
    go_enter Tryz.func25, Tryz.ntmps25
    go_wp2_with (fail)
    refine h1.mono ?_
    rintro e w1 ⟨b, n, rfl, hm, hb1⟩
    rw [hr] at hm
    obtain ⟨m, hlen, h0⟩ := hm.len
    simp only [Bool.not_false] at h0
    clear hm hr
    go_wp2_with (fail)
    go_ret
    exact ⟨_, rfl, OwnS.nil _ _, hb1⟩
  · obtain ⟨hl1, hl60, _⟩ := right_node hr
    go_enter Tryz.func25, Tryz.ntmps25
    go_wp2_with (fail)
    refine h1.mono ?_
    rintro e w1 ⟨B, n, rfl, hm, hb1⟩
    rw [hr] at hm
    obtain ⟨m, hlen, h0⟩ := hm.len
    simp only [Bool.not_true] at h0
    have Hm := Lib.hid hm; have Hr := Lib.hid hr
    have hB := hm.lt
    clear hm hr
    go_wp2_with (fail)
    clear hlen h0
    go_loopw [3, 14] (fun vo vk wr => ∃ k : Nat, vk = .int .i64 k ∧ k ≤ l.length ∧ OwnS w1 wr vo (fst l k) ∧ Below w1.heap.size w1 wr) (fun _ vk _ => l.length - (intOf vk).toNat)
    case atStart => exact ⟨0, rfl, Nat.zero_le _, OwnS.nil _ _, Below.refl _ _⟩
    case round =>
      obtain ⟨k, rfl, hk, hO, hb⟩ := hrel
      have HO := Lib.hid hO; clear hO
      have hsz := hb.size
      by_cases hlt : k < l.length
      · obtain ⟨x, hx⟩ : ∃ x, l[k]? = some x := ⟨l[k], by simp [hlt]⟩
        have hbw : Below w.heap.size w wr := hb1.trans (hb.mono hb1.size)
        obtain ⟨b, off, rfl, hlb, d0, d1, d2, d3, d4⟩ := Hcell.out wr hbw k x hx
        have hxm := List.mem_of_getElem? hx
        obtain ⟨ax, cx, hbvx⟩ := Hbvs.out x hxm
        rw [hbvx] at d3
        have hps : x.path.size ≤ maxLen := by
          have := path_size ((right_node Hr.out).2.2 x hxm)
          unfold maxLen; omega
        have Hx := Lib.hid hx
        have hA : Below w1.heap.size w1 (wr.alloc (.cells #[.string x.path, .bool x.dir, .int .i64 x.quota, .slice ax x.blocks.length cx, .int .i64 x.writer] 35 (0, 0))) := hb.alloc hsz _
        have hmA := Hm.out.below hA hB
        have hl := hmA.look hps
        rw [cntT, if_pos Hr.out] at hl
        have hlen := fst_len l k
        have hbA := hb.alloc hsz (.cells #[.string x.path, .bool x.dir, .int .i64 x.quota, .slice ax x.blocks.length cx, .int .i64 x.writer] 35 (0, 0))
        have hc60 := cnt_le l (bs x.path)
        have hways := over_ways l x
        have HA := Lib.hid hA; have Hb := Lib.hid hb
        have hf0 := fun h => fst_no hx (l := l) h
        have hf1 := fun h => fst_yes hx (l := l) h
        generalize cntN l (bs x.path) = c at *
        have Hf0 := Lib.hid hf0; have Hf1 := Lib.hid hf1
        clear hx hxm hbvx hA hmA hb hbw hf0 hf1
        rcases hways with ⟨c0, c1⟩ | ⟨c0, c1, c2⟩ | ⟨c0, c1, c2, c3⟩ | ⟨c0, c1, c2, c3⟩
        rotate_right
        focus
          have Hc0 := Lib.hid c0
          clear c0
          have hown := HO.out.own
          have hzA := HA.out.size
          generalize hw : (fst l k).length = n1 at *
          have hkk : ((wr.alloc (.cells #[.string x.path, .bool x.dir, .int .i64 x.quota, .slice ax x.blocks.length cx, .int .i64 x.writer] 35 (0, 0))).alloc (.cells #[.string x.path] 9 (0, 0))).heap[wr.heap.size + 1]? = some (.cells #[.string x.path] 9 (0, 0)) := by
            have := heap_alloc_new (wr.alloc (.cells #[.string x.path, .bool x.dir, .int .i64 x.quota, .slice ax x.blocks.length cx, .int .i64 x.writer] 35 (0, 0))) (.cells #[.string x.path] 9 (0, 0))
            rwa [show (wr.alloc (.cells #[.string x.path, .bool x.dir, .int .i64 x.quota, .slice ax x.blocks.length cx, .int .i64 x.writer] 35 (0, 0))).heap.size = wr.heap.size + 1 by simp] at this
          have HW := Lib.hid (hown.alloc (.cells #[.string x.path, .bool x.dir, .int .i64 x.quota, .slice ax x.blocks.length cx, .int .i64 x.writer] 35 (0, 0))); have Hw := Lib.hid hw; have HK := Lib.hid hkk
          clear hkk
          clear hown hw
          rw [c1] at hl HA d1 HW HK
          go_wp2_with (at_builtin; (with_reducible refine etS.wpList1 (HW.out.alloc _) HK.out rfl (by simp [Value.oneCell']) (by omega) (by unfold maxLen; omega) rfl (.tmp 34) (.tmp 37) rfl rfl rfl ?_); intro g1 cap1 w2 hown1 hgrow hat hlt1)
          go_roundw
          case rel =>
            refine ⟨k + 1, by go_num, by omega, ?_, (HA.out.alloc HA.out.size _).grown hgrow (by simp; omega) (fun q hq => HO.out.new q hq)⟩
            rw [Hf1.out Hc0.out]
            refine ⟨?_, fun g hg => ?_⟩
            · rw [List.length_append, Hw.out, flatS_snoc]
              exact hown1
            · simp only [Value.ownBlock, Option.some.injEq] at hg
              subst hg
              rcases hat with h | h
              · exact HO.out.new _ h
              · simp at h; omega
          case measure => simp [intOf]; omega
        all_goals
          have Hc0 := Lib.hid c0
          rw [c1] at hl HA d1
          clear c0
          go_wp2_with (fail)
          go_roundw
          case rel => exact ⟨k + 1, by go_num, by omega, by rw [Hf0.out Hc0.out]; exact ⟨HO.out.own.alloc _, HO.out.new⟩, HA.out⟩
          case measure => simp [intOf]; omega
      · obtain rfl : k = l.length := by omega
        go_wp2_with (fail)
        go_ret
        refine ⟨_, rfl, ?_, hb1.trans (hb.mono hb1.size)⟩
        have hO := HO.out
        rw [fst, List.take_length] at hO
        rw [overL, if_pos Hr.out]
        exact ⟨hO.own, fun g hg => Nat.le_trans hb1.size (hO.new g hg)⟩
end Go.Proofs.YtdfckkadmgmcaaaGreatDoor.Quota

/- Quotas: quota.Room. -/
namespace Go.Proofs.YtdfckkadmgmcaaaGreatDoor.Quota
open Go.RowKit Go.Maps Go.WideMaps
open Path (Bs bs mk bs_mk mk_bs tl_bs splitE splitL MaxC parD parE parN underL under_iff under_anti OwnS flatS flatS_snoc etS)
open Tree
set_option linter.unusedSimpArgs false
set_option linter.unusedVariables false

def dirAt (l : List Nd) (p : Bs) : Bool := match l.find? (fun x => bs x.path == p) with
  | none => false
  | some x => x.dir
def roomStep (l : List Nd) (p : Bs) (n : Int) (x : Nd) : Int := if 0 ≤ x.quota ∧ underL (bs x.path) p = true then min n (x.quota - cntN l (bs x.path)) else n
def roomK (l : List Nd) (p : Bs) (k : Nat) : Int := (l.take k).foldl (roomStep l p) (60 - l.length)
def roomT (l : List Nd) (p : Bs) : Int := if rightT l = true ∧ dirAt l p = true then max (roomK l p l.length) 0 else 0
theorem room_next {l : List Nd} {p : Bs} {k : Nat} {x : Nd} (hx : l[k]? = some x) : roomK l p (k + 1) = roomStep l p (roomK l p k) x := by
  rw [roomK, List.take_add_one, hx, List.foldl_append]; rfl
theorem step_bd {l : List Nd} {p : Bs} {n : Int} {x : Nd} (hl : l.length ≤ 60) (hn : -60 ≤ n ∧ n ≤ 60) : -60 ≤ roomStep l p n x ∧ roomStep l p n x ≤ 60 := by
  have := cnt_le l (bs x.path)
  rw [roomStep]
  split
  · omega
  · exact hn
theorem room_bd {l : List Nd} {p : Bs} (hl : l.length ≤ 60) : ∀ k, -60 ≤ roomK l p k ∧ roomK l p k ≤ 60
  | 0 => by rw [roomK, List.take_zero]; simp only [List.foldl_nil]; omega
  | k + 1 => by
    by_cases hk : k < l.length
    · rw [room_next (x := l[k]) (by simp [hk])]
      exact step_bd hl (room_bd hl k)
    · have e : l.take (k + 1) = l.take k := by rw [List.take_of_length_le (by omega), List.take_of_length_le (by omega)]
      rw [roomK, e]
      exact room_bd hl k
theorem quota_bd {l : List Nd} (h : rightT l = true) {x : Nd} (hx : x ∈ l) : -1 ≤ x.quota ∧ x.quota ≤ 9007199254740991 := by
  simp only [rightT, rightA, Bool.and_eq_true] at h
  obtain ⟨⟨_, h2⟩, _⟩ := h
  obtain ⟨k, hk, rfl⟩ := List.mem_iff_getElem.1 hx
  have := (rightA_at (l := l) (fun j hj => List.all_eq_true.1 h2 j (List.mem_range.2 hj)) (k := k) (x := l[k]) (by simp [hk])).1
  simp only [fitsN, Bool.and_eq_true, decide_eq_true_eq] at this
  obtain ⟨⟨⟨_, h3⟩, _⟩, h4⟩ := this
  refine ⟨h3, ?_⟩
  split at h4
  · simp only [Bool.and_eq_true, decide_eq_true_eq] at h4; exact h4.2
  · simp only [Bool.and_eq_true, decide_eq_true_eq] at h4; omega

theorem room_ways (l : List Nd) (p : Bs) (n : Int) (x : Nd) : (¬ 0 ≤ x.quota ∧ roomStep l p n x = n) ∨ (0 ≤ x.quota ∧ underL (bs x.path) p = false ∧ roomStep l p n x = n) ∨ (0 ≤ x.quota ∧ underL (bs x.path) p = true ∧ roomStep l p n x = min n (x.quota - cntN l (bs x.path))) := by
  rw [roomStep]
  by_cases h1 : 0 ≤ x.quota
  · cases h2 : underL (bs x.path) p
    · exact .inr (.inl ⟨h1, rfl, by simp⟩)
    · exact .inr (.inr ⟨h1, rfl, by simp [h1]⟩)
  · exact .inl ⟨h1, by simp [h1]⟩

set_option maxHeartbeats 4000000 in
theorem room_no (w : World) (v : Value) (l : List Nd) (p : ByteArray) (h : RdN w v l) (hn : l.length ≤ 8796093022208) (hM : MaxC w) (hd : (rightT l = true ∧ dirAt l (bs p) = true) → False) :
    Calls Tryz.prog 95 #[v, .string p] w fun e w' => e = .returned (.int .i64 0) ∧ Below w.heap.size w w' := by
  have h1 := counts_calls w v l h hn hM
  have h2 : ∀ W, Below w.heap.size w W → _ := fun W hW => find_calls W v l p (h.below hW) hn
  have hff := find_facts (bs p) l
  obtain ⟨ao, cap, rfl, hcap, _, hcell⟩ := rd_cellsN h.rd
  have H2 := Lib.hid h2; have Hcell := Lib.hid hcell; have Hff := Lib.hid hff
  clear h hM h2 hcell hff
  generalize findI (bs p) l = fi at *
  go_enter Tryz.func95, Tryz.ntmps95
  go_wp2_with (fail)
  refine h1.mono ?_
  rintro e w1 ⟨B, n, rfl, hm, hb1⟩
  go_wp2_with (fail)
  refine (H2.out w1 hb1).mono ?_
  rintro e w2 ⟨rfl, hb2⟩
  have hm2 := hm.below hb2 hm.lt
  have hbw := hb1.trans (hb2.mono hb1.size)
  obtain ⟨m, hlen, h0⟩ := hm2.len
  clear hm hm2
  cases hr : rightT l
  · rw [hr] at h0
    simp only [Bool.not_false] at h0
    clear hr hd
    go_wp2_with (fail)
    go_ret
    exact ⟨rfl, hbw⟩
  · rw [hr] at h0
    simp only [Bool.not_true] at h0
    rcases Hff.out with ⟨rfl, _⟩ | ⟨i, x, rfl, hx, hf⟩
    · clear hr hd Hff
      go_wp2_with (fail)
      go_ret
      exact ⟨rfl, hbw⟩
    · have hxd : x.dir = false := by
        cases hdd : x.dir
        · rfl
        · exact (hd ⟨hr, by rw [dirAt, hf]; exact hdd⟩).elim
      obtain ⟨b, off, rfl, hlb, d0, d1, d2, d3, d4⟩ := Hcell.out w2 hbw i x hx
      rw [hxd] at d1
      have hil := (List.getElem?_eq_some_iff.1 hx).1
      have hi0 : ¬ (i : Int) < 0 := by omega
      clear hr hd Hff hx hf hxd
      go_wp2_with (fail)
      go_ret
      exact ⟨rfl, hbw⟩

set_option maxRecDepth 4000 in
set_option maxHeartbeats 4000000 in
theorem room_yes (w : World) (v : Value) (l : List Nd) (p : ByteArray) (h : RdN w v l) (hn : l.length ≤ 8796093022208) (hM : MaxC w) (hr : rightT l = true) (hd : dirAt l (bs p) = true) :
    Calls Tryz.prog 95 #[v, .string p] w fun e w' => e = .returned (.int .i64 (max (roomK l (bs p) l.length) 0)) ∧ Below w.heap.size w w' := by
  have h1 := counts_calls w v l h hn hM
  have h2 : ∀ W, Below w.heap.size w W → _ := fun W hW => find_calls W v l p (h.below hW) hn
  have hun : ∀ W, Below w.heap.size w W → ∀ a : ByteArray, _ := fun W hW a => Path.under_calls W a p (hM.below hW)
  have hbvs : ∀ x ∈ l, ∃ ao cap, x.bv = .slice ao x.blocks.length cap := fun x hx => bv_slice (h.bl x hx)
  obtain ⟨hl1, hl60, _⟩ := right_node hr
  obtain ⟨i, x0, hfi, hx0, hxd⟩ : ∃ (i : Nat) (x : Nd), findI (bs p) l = i ∧ l[i]? = some x ∧ x.dir = true := by
    rcases find_facts (bs p) l with ⟨_, hf⟩ | ⟨i, x, h1, h2, h3⟩
    · rw [dirAt, hf] at hd; cases hd
    · rw [dirAt, h3] at hd; exact ⟨i, x, h1, h2, hd⟩
  obtain ⟨ao, cap, rfl, hcap, _, hcell⟩ := rd_cellsN h.rd
  have H2 := Lib.hid h2; have Hcell := Lib.hid hcell; have Hun := Lib.hid hun; have Hbvs := Lib.hid hbvs; have Hr := Lib.hid hr
  have hbd := fun k => room_bd (l := l) (p := bs p) hl60 k
  have Hbd := Lib.hid hbd
  have hil := (List.getElem?_eq_some_iff.1 hx0).1
  have Hx0 := Lib.hid hx0
  rw [hfi] at H2
  clear h hM h2 hcell hun hbvs hr hd hbd hfi hx0
  go_enter Tryz.func95, Tryz.ntmps95
  go_wp2_with (fail)
  refine h1.mono ?_
  rintro e w1 ⟨B, n, rfl, hm, hb1⟩
  go_wp2_with (fail)
  refine (H2.out w1 hb1).mono ?_
  rintro e w2 ⟨rfl, hb2⟩
  have hm2 := hm.below hb2 hm.lt
  have hbw := hb1.trans (hb2.mono hb1.size)
  obtain ⟨m, hlen, h0⟩ := hm2.len
  rw [Hr.out] at h0
  simp only [Bool.not_true] at h0
  have hB := hm2.lt
  have Hm2 := Lib.hid hm2
  have Hbw := Lib.hid hbw
  obtain ⟨b, off, rfl, hlb, d0, d1, d2, d3, d4⟩ := Hcell.out w2 hbw i x0 Hx0.out
  rw [hxd] at d1
  have hi0 : ¬ (i : Int) < 0 := by omega
  clear hm hm2 hbw hxd
  go_wp2_with (fail)
  clear hlen h0 d0 d1 d2 d3 d4
  go_loopw [7, 35] (fun vn vk wr => ∃ k : Nat, vk = .int .i64 k ∧ k ≤ l.length ∧ vn = .int .i64 (roomK l (bs p) k) ∧ Below w2.heap.size w2 wr) (fun _ vk _ => l.length - (intOf vk).toNat)
  case atStart => exact ⟨0, rfl, Nat.zero_le _, rfl, Below.refl _ _⟩
  case round =>
    obtain ⟨k, rfl, hk, rfl, hb⟩ := hrel
    have hsz := hb.size
    have hbdk := Hbd.out k
    by_cases hlt : k < l.length
    · obtain ⟨x, hx⟩ : ∃ x, l[k]? = some x := ⟨l[k], by simp [hlt]⟩
      have hbr : Below w.heap.size w wr := Hbw.out.trans (hb.mono Hbw.out.size)
      obtain ⟨b', off', he, _, d0, d1, d2, d3, d4⟩ := Hcell.out wr hbr k x hx
      simp only [Option.some.injEq, Addr.mk.injEq, and_true] at he
      obtain ⟨rfl, rfl⟩ := he
      have hxm := List.mem_of_getElem? hx
      obtain ⟨ax, cx, hbvx⟩ := Hbvs.out x hxm
      rw [hbvx] at d3
      have hps : x.path.size ≤ maxLen := by
        have := path_size ((right_node Hr.out).2.2 x hxm)
        unfold maxLen; omega
      have hq := quota_bd Hr.out hxm
      have hA : Below w2.heap.size w2 (wr.alloc (.cells #[.string x.path, .bool x.dir, .int .i64 x.quota, .slice ax x.blocks.length cx, .int .i64 x.writer] 35 (0, 0))) := hb.alloc hsz _
      have hAk := heap_alloc_new wr (.cells #[.string x.path, .bool x.dir, .int .i64 x.quota, .slice ax x.blocks.length cx, .int .i64 x.writer] 35 (0, 0))
      have hua := Hun.out (wr.alloc (.cells #[.string x.path, .bool x.dir, .int .i64 x.quota, .slice ax x.blocks.length cx, .int .i64 x.writer] 35 (0, 0))) (Hbw.out.trans (hA.mono Hbw.out.size)) x.path
      have hways := room_ways l (bs p) (roomK l (bs p) k) x
      rw [← room_next hx] at hways
      have hmA := fun W (hW : Below w2.heap.size w2 W) => (Hm2.out.below hW hB).look hps
      rw [cntT, if_pos Hr.out] at hmA
      have hc60 := cnt_le l (bs x.path)
      have hbd1 := Hbd.out (k + 1)
      generalize cntN l (bs x.path) = c at *
      generalize roomK l (bs p) k = r0 at *
      generalize hr1 : roomK l (bs p) (k + 1) = r1 at *
      have HA := Lib.hid hA; have HAk := Lib.hid hAk; have HmA := Lib.hid hmA; have Hr1 := Lib.hid hr1
      clear hx hxm hbvx hA hmA hAk hbr hr1
      rcases hways with ⟨c1, rfl⟩ | ⟨c1, c2, rfl⟩ | ⟨c1, c2, c3⟩
      · go_wp2_with (fail)
        go_roundw
        case rel => exact ⟨k + 1, by go_num, by omega, by rw [Hr1.out], HA.out⟩
        case measure => simp [intOf]; omega
      · rw [c2] at hua
        clear c2
        go_wp2_with (fail)
        refine hua.mono ?_
        rintro e w3 ⟨rfl, hb3⟩
        go_wp2_with (fail)
        go_roundw
        case rel => exact ⟨k + 1, by go_num, by omega, by rw [Hr1.out], HA.out.trans (hb3.mono HA.out.size)⟩
        case measure => simp [intOf]; omega
      · rw [c2] at hua
        have Hc3 := Lib.hid c3
        clear c2 c3
        go_wp2_with (fail)
        refine hua.mono ?_
        rintro e w3 ⟨rfl, hb3⟩
        have hB3 := HA.out.trans (hb3.mono HA.out.size)
        have hl3 := HmA.out w3 hB3
        have hk3 := (hb3.block wr.heap.size (by simp)).trans HAk.out
        have k0 := cell_of_blk (j := 0) hk3
        have k2 := cell_of_blk (j := 2) hk3
        simp only [List.getElem?_toArray, List.getElem?_cons_zero, List.getElem?_cons_succ] at k0 k2
        clear hk3
        go_wp2_with (fail)
        go_roundw
        case rel => exact ⟨k + 1, by go_num, by omega, by rw [Hr1.out, Hc3.out], hB3⟩
        case measure => simp [intOf]; omega
    · obtain rfl : k = l.length := by omega
      go_wp2_with (fail)
      go_ret
      exact ⟨rfl, Hbw.out.trans (hb.mono Hbw.out.size)⟩
theorem room_calls (w : World) (v : Value) (l : List Nd) (p : ByteArray) (h : RdN w v l) (hn : l.length ≤ 8796093022208) (hM : MaxC w) :
    Calls Tryz.prog 95 #[v, .string p] w fun e w' => e = .returned (.int .i64 (roomT l (bs p))) ∧ Below w.heap.size w w' := by
  rw [roomT]
  by_cases hd : rightT l = true ∧ dirAt l (bs p) = true
  · rw [if_pos hd]; exact room_yes w v l p h hn hM hd.1 hd.2
  · rw [if_neg hd]; exact room_no w v l p h hn hM hd
end Go.Proofs.YtdfckkadmgmcaaaGreatDoor.Quota

/- Quotas: the document's Count, Over, Room. -/
namespace Go.Proofs.YtdfckkadmgmcaaaGreatDoor.Quota
open Go.RowKit
open Path (Bs bs mk bs_mk mk_bs tl_bs splitE splitL MaxC parD parE parN underL under_iff under_anti OwnS flatS flatS_snoc etS)
open Tree
set_option linter.unusedSimpArgs false
set_option linter.unusedVariables false

theorem own_lt' {w : World} {base e size n : Nat} {v : Value} {xs : List Value} (h : w.ownsRow base e size v n xs) (g : Nat) (hg : v.ownBlock = some g) : g < w.heap.size := by
  rcases h.2 with ⟨rfl, _⟩ | ⟨g', cap, cur, rfl, _, hgg, _⟩
  · simp [Value.ownBlock] at hg
  · have : g' = g := by simpa [Value.ownBlock] using hg
    subst this
    exact lt_of_block hgg
theorem ownS_below {w w' w'' : World} {v : Value} {q : List ByteArray} (h : OwnS w w' v q) (hb : Below w'.heap.size w' w'') : OwnS w w'' v q :=
  ⟨below_ownsRow hb h.own (fun g hg => own_lt' h.own g hg), h.new⟩
theorem cntT_no {l : List Nd} (h : rightT l = false) (p : Bs) : cntT l p = 0 := by rw [cntT, h]; rfl
theorem cntT_yes {l : List Nd} (h : rightT l = true) (p : Bs) : cntT l p = cntN l p := by rw [cntT, if_pos h]

set_option maxHeartbeats 4000000 in
theorem rcount_calls (w : World) (v : Value) (l : List Nd) (p : ByteArray) (h : RdN w v l) (hn : l.length ≤ 8796093022208) :
    Calls Tryz.prog 105 #[v, .string p] w fun e w' => e = .returned (.int .i64 (cntT l (bs p))) ∧ Below w.heap.size w w' := by
  have h1 := rright_calls w v l h hn
  obtain ⟨ao, cap, rfl, hcap, _, hcell⟩ := rd_cellsN h.rd
  have Hcell := Lib.hid hcell
  clear h hcell
  cases hr : rightT l
  · rw [hr] at h1
    have Hc := Lib.hid (cntT_no hr (bs p))
    clear hr
    go_enter Tryz.func105, Tryz.ntmps105
    go_wp2_with (fail)
    refine h1.mono ?_
    rintro e w1 ⟨rfl, hb1⟩
    go_wp2_with (fail)
    go_loopw [6, 7] (fun vn vk wr => vk = .int .i64 ((0 : Nat) : Int) ∧ vn = .int .i64 ((0 : Nat) : Int) ∧ wr = w1) (fun _ _ _ => 0)
    case atStart => exact ⟨rfl, rfl, rfl⟩
    case round =>
      obtain ⟨rfl, rfl, rfl⟩ := hrel
      by_cases hz : 0 < l.length
      all_goals
        go_wp2_with (fail)
        go_ret
        exact ⟨by rw [Hc.out]; rfl, hb1⟩
  · rw [hr] at h1
    have Hc := Lib.hid (cntT_yes hr (bs p))
    obtain ⟨hl1, hl60, _⟩ := right_node hr
    clear hr
    go_enter Tryz.func105, Tryz.ntmps105
    go_wp2_with (fail)
    refine h1.mono ?_
    rintro e w1 ⟨rfl, hb1⟩
    go_wp2_with (fail)
    go_loopw [6, 7] (fun vn vk wr => ∃ k : Nat, vk = .int .i64 k ∧ k ≤ l.length ∧ vn = .int .i64 (cntN (l.take k) (bs p)) ∧ Below w.heap.size w wr) (fun _ vk _ => l.length - (intOf vk).toNat)
    case atStart => exact ⟨0, rfl, Nat.zero_le _, rfl, hb1⟩
    case round =>
      obtain ⟨k, rfl, hk, rfl, hb⟩ := hrel
      have hc60 : cntN (l.take k) (bs p) ≤ 60 := Nat.le_trans (cnt_le _ _) (Nat.le_trans (List.length_take_le _ _) (by omega))
      by_cases hlt : k < l.length
      · obtain ⟨x, hx⟩ : ∃ x, l[k]? = some x := ⟨l[k], by simp [hlt]⟩
        obtain ⟨b, off, rfl, hlb, d0, d1, d2, d3, d4⟩ := Hcell.out wr hb k x hx
        have hu := Path.runder_calls wr p x.path
        have hcn := cnt_next hx (bs p)
        generalize cntN (l.take k) (bs p) = c at *
        generalize hc1 : cntN (l.take (k + 1)) (bs p) = c1 at *
        have Hc1 := Lib.hid hc1
        clear hx hc1
        cases hq : underL (bs p) (bs x.path)
        · rw [hq] at hu hcn
          rw [if_neg (by simp)] at hcn
          have Hcn := Lib.hid hcn
          clear hq hcn
          go_wp2_with (fail)
          refine hu.mono ?_
          rintro e w2 ⟨rfl, hb2⟩
          go_wp2_with (fail)
          go_roundw
          case rel => exact ⟨k + 1, by go_num, by omega, by rw [Hc1.out, Hcn.out]; rfl, hb.trans (hb2.mono hb.size)⟩
          case measure => simp [intOf]; omega
        · rw [hq] at hu hcn
          rw [if_pos rfl] at hcn
          have Hcn := Lib.hid hcn
          clear hq hcn
          go_wp2_with (fail)
          refine hu.mono ?_
          rintro e w2 ⟨rfl, hb2⟩
          go_wp2_with (fail)
          go_roundw
          case rel => exact ⟨k + 1, by go_num, by omega, by rw [Hc1.out, Hcn.out]; go_num, hb.trans (hb2.mono hb.size)⟩
          case measure => simp [intOf]; omega
      · obtain rfl : k = l.length := by omega
        have hcc : cntN (l.take l.length) (bs p) = cntN l (bs p) := by rw [List.take_length]
        have Hcc := Lib.hid hcc
        clear hcc
        go_wp2_with (fail)
        go_ret
        exact ⟨by rw [Hc.out, ← Hcc.out]; rfl, hb⟩

set_option maxRecDepth 4000 in
set_option maxHeartbeats 8000000 in
theorem rover_calls (w : World) (v : Value) (l : List Nd) (h : RdN w v l) (hn : l.length ≤ 8796093022208) :
    Calls Tryz.prog 61 #[v] w fun e w' => ∃ v', e = .returned v' ∧ OwnS w w' v' (overL l) ∧ Below w.heap.size w w' := by
  have h1 := rright_calls w v l h hn
  have hcnt : ∀ W, Below w.heap.size w W → ∀ p : ByteArray, _ := fun W hW p => rcount_calls W v l p (h.below hW) hn
  obtain ⟨ao, cap, rfl, hcap, _, hcell⟩ := rd_cellsN h.rd
  have Hcell := Lib.hid hcell; have Hcnt := Lib.hid hcnt
  clear h hcell hcnt
  cases hr : rightT l
  · rw [overL, hr, if_neg (by simp)]
    rw [hr] at h1
    clear hr
    go_enter Tryz.func61, Tryz.ntmps61
    go_wp2_with (fail)
    refine h1.mono ?_
    rintro e w1 ⟨rfl, hb1⟩
    go_wp2_with (fail)
    go_loopw [4, 5] (fun vo vk wr => vk = .int .i64 ((0 : Nat) : Int) ∧ vo = .slice none 0 0 ∧ wr = w1) (fun _ _ _ => 0)
    case atStart => exact ⟨rfl, rfl, rfl⟩
    case round =>
      obtain ⟨rfl, rfl, rfl⟩ := hrel
      by_cases hz : 0 < l.length
      all_goals
        go_wp2_with (fail)
        go_ret
        exact ⟨_, rfl, OwnS.nil _ _, hb1⟩
  · obtain ⟨hl1, hl60, _⟩ := right_node hr
    rw [hr] at h1
    have Hr := Lib.hid hr
    clear hr
    go_enter Tryz.func61, Tryz.ntmps61
    go_wp2_with (fail)
    refine h1.mono ?_
    rintro e w1 ⟨rfl, hb1⟩
    go_wp2_with (fail)
    go_loopw [4, 5] (fun vo vk wr => ∃ k : Nat, vk = .int .i64 k ∧ k ≤ l.length ∧ OwnS w wr vo (fst l k) ∧ Below w.heap.size w wr) (fun _ vk _ => l.length - (intOf vk).toNat)
    case atStart => exact ⟨0, rfl, Nat.zero_le _, OwnS.nil _ _, hb1⟩
    case round =>
      obtain ⟨k, rfl, hk, hO, hb⟩ := hrel
      have HO := Lib.hid hO; clear hO
      have hsz := hb.size
      by_cases hlt : k < l.length
      · obtain ⟨x, hx⟩ : ∃ x, l[k]? = some x := ⟨l[k], by simp [hlt]⟩
        obtain ⟨b, off, rfl, hlb, d0, d1, d2, d3, d4⟩ := Hcell.out wr hb k x hx
        have hlen := fst_len l k
        have hways := over_ways l x
        have hq := quota_bd Hr.out (List.mem_of_getElem? hx)
        have Hf0 := Lib.hid fun h => fst_no hx (l := l) h
        have Hf1 := Lib.hid fun h => fst_yes hx (l := l) h
        have hc60 := cnt_le l (bs x.path)
        have hcc := fun W hW => Hcnt.out W hW x.path
        rw [cntT_yes Hr.out] at hcc
        generalize cntN l (bs x.path) = c at *
        have cF := fun d os => Calls.regrown_of (hcc _ (hb.trans ((below_regrown wr d os).mono hsz)))
        have e0 := cell_regrown d0
        have e1 := cell_regrown d1
        have e2 := cell_regrown d2
        have Hx := Lib.hid hx
        clear hx hcc
        rcases hways with ⟨c0, c1⟩ | ⟨c0, c1, c2⟩ | ⟨c0, c1, c2, c3⟩ | ⟨c0, c1, c2, c3⟩
        rotate_right
        focus
          rw [c1] at e1 d1
          have Hc0 := Lib.hid c0
          clear c0 c1
          go_wp2_with (fail)
          refine wp_region_quiet_below (by kernel_rfl) (by kernel_rfl) ?_; (repeat (go_big_quiet_step ((exact cF _ _)))); refine wpQuiet_nil ?_; intro _ hw'; obtain ⟨⟨dq, osq⟩, hw''⟩ := hw'; subst hw''
          have hbq := hb.trans ((below_regrown wr dq osq).mono hsz)
          have hOq := ownS_below HO.out (below_regrown wr dq osq)
          have g0 := e0 dq osq
          clear d0 d1 d2 d3 d4 e0 e1 e2 cF
          generalize Go.Sort.grow (redrawn wr dq) osq = wq at *
          have hown := hOq.own
          generalize hw : (fst l k).length = n1 at *
          have HW := Lib.hid hown; have Hw := Lib.hid hw; have HOn := Lib.hid hOq.new
          have hbsz := hbq.size
          clear hown hw hOq
          go_wp2_with (at_builtin; (with_reducible refine etS.wpList1 (HW.out.alloc _) (heap_alloc_new _ _) rfl (by simp [Value.oneCell']) (by omega) (by unfold maxLen; omega) rfl (.tmp 45) (.tmp 51) rfl rfl rfl ?_); intro g1 cap1 w2 hown1 hgrow hat hlt1)
          go_roundw
          case rel =>
            refine ⟨k + 1, by go_num, by omega, ?_, (hbq.alloc hbsz _).grown hgrow (by simp; omega) (fun q hq => HOn.out q hq)⟩
            rw [Hf1.out Hc0.out]
            refine ⟨?_, fun g hg => ?_⟩
            · rw [List.length_append, Hw.out, flatS_snoc]
              exact hown1
            · simp only [Value.ownBlock, Option.some.injEq] at hg
              subst hg
              rcases hat with h | h
              · exact HOn.out _ h
              · simp at h; omega
          case measure => simp [intOf]; omega
        all_goals
          rw [c1] at e1 d1
          have Hc0 := Lib.hid c0
          clear c0 c1
          try have c2' : decide (0 ≤ x.quota) = false := decide_eq_false c2
          go_wp2_with (fail)
          refine wp_region_quiet_below (by kernel_rfl) (by kernel_rfl) ?_; (repeat (go_big_quiet_step ((exact cF _ _)))); refine wpQuiet_nil ?_; intro _ hw'; obtain ⟨⟨dq, osq⟩, hw''⟩ := hw'; subst hw''
          go_wp2_with (fail)
          go_roundw
          case rel => exact ⟨k + 1, by go_num, by omega, by rw [Hf0.out Hc0.out]; exact ownS_below HO.out (below_regrown wr dq osq), hb.trans ((below_regrown wr dq osq).mono hsz)⟩
          case measure => simp [intOf]; omega
      · obtain rfl : k = l.length := by omega
        go_wp2_with (fail)
        go_ret
        refine ⟨_, rfl, ?_, hb⟩
        have hO := HO.out
        rw [fst, List.take_length] at hO
        rw [overL, if_pos Hr.out]
        exact hO
end Go.Proofs.YtdfckkadmgmcaaaGreatDoor.Quota

/- Quotas: the document's Room. -/
namespace Go.Proofs.YtdfckkadmgmcaaaGreatDoor.Quota
open Go.RowKit
open Path (Bs bs mk bs_mk mk_bs tl_bs splitE splitL MaxC parD parE parN underL under_iff under_anti OwnS flatS flatS_snoc etS)
open Tree
set_option linter.unusedSimpArgs false
set_option linter.unusedVariables false

set_option maxHeartbeats 4000000 in
theorem rroom_no (w : World) (v : Value) (l : List Nd) (p : ByteArray) (h : RdN w v l) (hn : l.length ≤ 8796093022208) (hd : (rightT l = true ∧ dirAt l (bs p) = true) → False) :
    Calls Tryz.prog 148 #[v, .string p] w fun e w' => e = .returned (.int .i64 0) ∧ Below w.heap.size w w' := by
  have h1 := rright_calls w v l h hn
  have h2 : ∀ W, Below w.heap.size w W → _ := fun W hW => rfind_calls W v l p (h.below hW).rd hn
  have hff := find_facts (bs p) l
  obtain ⟨ao, cap, rfl, hcap, _, hcell⟩ := rd_cellsN h.rd
  have H2 := Lib.hid h2; have Hcell := Lib.hid hcell; have Hff := Lib.hid hff
  clear h h2 hcell hff
  generalize findI (bs p) l = fi at *
  cases hr : rightT l
  · rw [hr] at h1
    clear hr hd
    go_enter Tryz.func148, Tryz.ntmps148
    go_wp2_with (fail)
    refine h1.mono ?_
    rintro e w1 ⟨rfl, hb1⟩
    go_wp2_with (fail)
    go_ret
    exact ⟨rfl, hb1⟩
  · rw [hr] at h1
    go_enter Tryz.func148, Tryz.ntmps148
    go_wp2_with (fail)
    refine h1.mono ?_
    rintro e w1 ⟨rfl, hb1⟩
    clear h1
    go_wp2_with (fail)
    refine (H2.out w1 hb1).mono ?_
    rintro e w2 ⟨rfl, hb2⟩
    have hbw := hb1.trans (hb2.mono hb1.size)
    rcases Hff.out with ⟨rfl, _⟩ | ⟨i, x, rfl, hx, hf⟩
    · clear hr hd Hff
      go_wp2_with (fail)
      go_ret
      exact ⟨rfl, hbw⟩
    · have hxd : x.dir = false := by
        cases hdd : x.dir
        · rfl
        · exact (hd ⟨hr, by rw [dirAt, hf]; exact hdd⟩).elim
      obtain ⟨b, off, rfl, hlb, d0, d1, d2, d3, d4⟩ := Hcell.out w2 hbw i x hx
      rw [hxd] at d1
      have hil := (List.getElem?_eq_some_iff.1 hx).1
      have hi0 : ¬ (i : Int) < 0 := by omega
      clear hr hd Hff hx hf hxd
      go_wp2_with (fail)
      go_ret
      exact ⟨rfl, hbw⟩

set_option maxRecDepth 4000 in
set_option maxHeartbeats 8000000 in
theorem rroom_yes (w : World) (v : Value) (l : List Nd) (p : ByteArray) (h : RdN w v l) (hn : l.length ≤ 8796093022208) (hr : rightT l = true) (hd : dirAt l (bs p) = true) :
    Calls Tryz.prog 148 #[v, .string p] w fun e w' => e = .returned (.int .i64 (max (roomK l (bs p) l.length) 0)) ∧ Below w.heap.size w w' := by
  have h1 := rright_calls w v l h hn
  have h2 : ∀ W, Below w.heap.size w W → _ := fun W hW => rfind_calls W v l p (h.below hW).rd hn
  have hcnt : ∀ W, Below w.heap.size w W → ∀ p : ByteArray, _ := fun W hW p => rcount_calls W v l p (h.below hW) hn
  obtain ⟨hl1, hl60, _⟩ := right_node hr
  obtain ⟨i, x0, hfi, hx0, hxd⟩ : ∃ (i : Nat) (x : Nd), findI (bs p) l = i ∧ l[i]? = some x ∧ x.dir = true := by
    rcases find_facts (bs p) l with ⟨_, hf⟩ | ⟨i, x, h1, h2, h3⟩
    · rw [dirAt, hf] at hd; cases hd
    · rw [dirAt, h3] at hd; exact ⟨i, x, h1, h2, hd⟩
  obtain ⟨ao, cap, rfl, hcap, _, hcell⟩ := rd_cellsN h.rd
  have H2 := Lib.hid h2; have Hcell := Lib.hid hcell; have Hr := Lib.hid hr; have Hcnt := Lib.hid hcnt
  have Hbd := Lib.hid fun k => room_bd (l := l) (p := bs p) hl60 k
  have hil := (List.getElem?_eq_some_iff.1 hx0).1
  have Hx0 := Lib.hid hx0
  rw [hfi] at H2
  rw [hr] at h1
  clear h h2 hcell hr hd hfi hx0 hcnt
  go_enter Tryz.func148, Tryz.ntmps148
  go_wp2_with (fail)
  refine h1.mono ?_
  rintro e w1 ⟨rfl, hb1⟩
  clear h1
  go_wp2_with (fail)
  refine (H2.out w1 hb1).mono ?_
  rintro e w2 ⟨rfl, hb2⟩
  have hbw := hb1.trans (hb2.mono hb1.size)
  obtain ⟨b, off, rfl, hlb, d0, d1, d2, d3, d4⟩ := Hcell.out w2 hbw i x0 Hx0.out
  rw [hxd] at d1
  have hi0 : ¬ (i : Int) < 0 := by omega
  clear hxd
  go_wp2_with (fail)
  clear d0 d1 d2 d3 d4
  go_loopw [7, 8] (fun vn vk wr => ∃ k : Nat, vk = .int .i64 k ∧ k ≤ l.length ∧ vn = .int .i64 (roomK l (bs p) k) ∧ Below w.heap.size w wr) (fun _ vk _ => l.length - (intOf vk).toNat)
  case atStart => exact ⟨0, rfl, Nat.zero_le _, rfl, hbw⟩
  case round =>
    obtain ⟨k, rfl, hk, rfl, hb⟩ := hrel
    have hsz := hb.size
    have hbdk := Hbd.out k
    by_cases hlt : k < l.length
    · obtain ⟨x, hx⟩ : ∃ x, l[k]? = some x := ⟨l[k], by simp [hlt]⟩
      obtain ⟨b', off', he, _, d0, d1, d2, d3, d4⟩ := Hcell.out wr hb k x hx
      simp only [Option.some.injEq, Addr.mk.injEq, and_true] at he
      obtain ⟨rfl, rfl⟩ := he
      have hq := quota_bd Hr.out (List.mem_of_getElem? hx)
      have hua := Path.runder_calls wr x.path p
      have hways := room_ways l (bs p) (roomK l (bs p) k) x
      rw [← room_next hx] at hways
      have hcc := fun W hW => Hcnt.out W hW x.path
      rw [cntT_yes Hr.out] at hcc
      have hc60 := cnt_le l (bs x.path)
      have hcel := fun W (hW : Below w.heap.size w W) => Hcell.out W hW k x hx
      generalize cntN l (bs x.path) = c at *
      generalize roomK l (bs p) k = r0 at *
      generalize hr1 : roomK l (bs p) (k + 1) = r1 at *
      have Hcc := Lib.hid hcc; have Hr1 := Lib.hid hr1; have Hcel := Lib.hid hcel
      clear hx hcc hr1 hcel
      have key : (¬ 0 ≤ x.quota ∧ r1 = r0) ∨ (underL (bs x.path) (bs p) = false ∧ r1 = r0) ∨ (0 ≤ x.quota ∧ underL (bs x.path) (bs p) = true ∧ r1 = min r0 (x.quota - c)) := by
        rcases hways with ⟨c1, c2⟩ | ⟨c1, c2, c3⟩ | ⟨c1, c2, c3⟩
        · exact .inl ⟨c1, c2⟩
        · exact .inr (.inl ⟨c2, c3⟩)
        · exact .inr (.inr ⟨c1, c2, c3⟩)
      clear hways
      rcases key with ⟨c1, rfl⟩ | ⟨c2, rfl⟩ | ⟨c1, c2, c3⟩
      · have c1' : decide (0 ≤ x.quota) = false := decide_eq_false c1
        cases hu : underL (bs x.path) (bs p)
        all_goals
          rw [hu] at hua
          clear hu
          go_wp2_with (fail)
          refine hua.mono ?_
          rintro e w3 ⟨rfl, hb3⟩
          have hb3' := hb.trans (hb3.mono hsz)
          obtain ⟨b', off', he, _, d0, d1, d2, d3, d4⟩ := Hcel.out w3 hb3'
          simp only [Option.some.injEq, Addr.mk.injEq, and_true] at he
          obtain ⟨rfl, rfl⟩ := he
          go_wp2_with (fail)
          go_roundw
          case rel => exact ⟨k + 1, by go_num, by omega, by rw [Hr1.out], hb3'⟩
          case measure => simp [intOf]; omega
      · rw [c2] at hua
        clear c2
        go_wp2_with (fail)
        refine hua.mono ?_
        rintro e w3 ⟨rfl, hb3⟩
        go_wp2_with (fail)
        go_roundw
        case rel => exact ⟨k + 1, by go_num, by omega, by rw [Hr1.out], hb.trans (hb3.mono hsz)⟩
        case measure => simp [intOf]; omega
      · rw [c2] at hua
        have Hc3 := Lib.hid c3
        clear c2 c3
        go_wp2_with (fail)
        refine hua.mono ?_
        rintro e w3 ⟨rfl, hb3⟩
        have hb3' := hb.trans (hb3.mono hsz)
        obtain ⟨b', off', he, _, d0, d1, d2, d3, d4⟩ := Hcel.out w3 hb3'
        simp only [Option.some.injEq, Addr.mk.injEq, and_true] at he
        obtain ⟨rfl, rfl⟩ := he
        have cF := fun d os => Calls.regrown_of (Hcc.out _ (hb3'.trans ((below_regrown w3 d os).mono hb3'.size)))
        have e0 := cell_regrown d0
        have e2 := cell_regrown d2
        have hwr : IntKind.i64.wrap (x.quota - (c : Int)) = x.quota - (c : Int) := by rw [IntKind.wrap_i64]; omega
        go_wp2_with (fail)
        refine wp_region_quiet_below (by kernel_rfl) (by kernel_rfl) ?_; (repeat (go_big_quiet_step ((exact cF _ _)))); refine wpQuiet_nil ?_; intro _ hw'; obtain ⟨⟨dq, osq⟩, hw''⟩ := hw'; subst hw''
        go_wp2_with (fail)
        go_roundw
        case rel => exact ⟨k + 1, by go_num, by omega, by rw [Hr1.out, Hc3.out], hb3'.trans ((below_regrown w3 dq osq).mono hb3'.size)⟩
        case measure => simp [intOf]; omega
    · obtain rfl : k = l.length := by omega
      go_wp2_with (fail)
      go_ret
      exact ⟨rfl, hb⟩
theorem rroom_calls (w : World) (v : Value) (l : List Nd) (p : ByteArray) (h : RdN w v l) (hn : l.length ≤ 8796093022208) :
    Calls Tryz.prog 148 #[v, .string p] w fun e w' => e = .returned (.int .i64 (roomT l (bs p))) ∧ Below w.heap.size w w' := by
  rw [roomT]
  by_cases hd : rightT l = true ∧ dirAt l (bs p) = true
  · rw [if_pos hd]; exact rroom_yes w v l p h hn hd.1 hd.2
  · rw [if_neg hd]; exact rroom_no w v l p h hn hd
end Go.Proofs.YtdfckkadmgmcaaaGreatDoor.Quota
