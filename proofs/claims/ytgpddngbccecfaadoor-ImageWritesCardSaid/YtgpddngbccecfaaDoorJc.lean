/- Images: image.read, walked. -/
import Derived.Test.YtgpddngbccecfaaDoorJb
import Derived.Test.YtgpddngbccecfaaDoorGa
import Derived.Test.YtgpddngbccecfaaDoorUn
import Derived.Test.YtgpddngbccecfaaDoorLg
import Derived.BigQuiet
import Derived.Deep.DeepCutAuto
namespace Go.Proofs.YtgpddngbccecfaaDoor.Image
open Go.RowKit
open Path (Bs bs mk bs_mk mk_bs tl_bs MaxC rd_cellsS)
open Tree Space
open Wire (numB textB sealB takeN textT)
set_option linter.unusedSimpArgs false
set_option linter.unusedVariables false
/-- What the reading comes to. -/
def ReadPost (w : World) (r : Option Sp) (n : Nat) (e : Ending) (w' : World) : Prop :=
  ((∃ s : Sp, e = .returned (.tuple #[.agg (spC s), .bool true]) ∧ r = some (purS s) ∧ OwnX w w' s.vn s.nodes ∧ Lease.OwnL w w' s.vl s.leases ∧ s.nodes.length ≤ n ∧ s.leases.length ≤ n) ∨
    (r = none ∧ ∃ s : Sp, e = .returned (.tuple #[.agg (spC s), .bool false]) ∧ (∃ a n c, s.vn = .slice a n c) ∧ ∃ a n c, s.vl = .slice a n c)) ∧ Below w.heap.size w w'
theorem mem0 (w : World) (v : Value) : Mem w ((((w.alloc (.cells #[v] 59 (0, 0))).alloc (.cells #[.int .i64 0, .int .i64 0, .int .i64 0, .int .i64 0, .slice none 0 0, .slice none 0 0] 25 (0, 0))).alloc (.cells #[.bool true] 4 (0, 0))).alloc (.cells #[.string ⟨#[]⟩] 9 (0, 0))) v #[.int .i64 0, .int .i64 0, .int .i64 0, .int .i64 0, .slice none 0 0, .slice none 0 0] true [] := by
  have up : ∀ (W : World) (o : Obj), Below W.heap.size W (W.alloc o) := fun W o => (Below.refl _ _).alloc (Nat.le_refl _) o
  have s1 : ∀ (W : World) (o : Obj), (W.alloc o).heap.size = W.heap.size + 1 := fun W o => by simp
  refine ⟨?_, ?_, ?_, ?_, ?_⟩
  · refine ((up _ _).block _ (by simp only [s1]; omega)).trans (((up _ _).block _ (by simp only [s1]; omega)).trans (((up _ _).block _ (by simp)).trans (heap_alloc_new w _)))
  · refine ((up _ _).block _ (by simp only [s1]; omega)).trans (((up _ _).block _ (by simp only [s1]; omega)).trans ?_)
    have := heap_alloc_new (w.alloc (.cells #[v] 59 (0, 0))) (.cells #[.int .i64 0, .int .i64 0, .int .i64 0, .int .i64 0, .slice none 0 0, .slice none 0 0] 25 (0, 0))
    rwa [s1] at this
  · refine ((up _ _).block _ (by simp)).trans ?_
    have := heap_alloc_new ((w.alloc (.cells #[v] 59 (0, 0))).alloc (.cells #[.int .i64 0, .int .i64 0, .int .i64 0, .int .i64 0, .slice none 0 0, .slice none 0 0] 25 (0, 0))) (.cells #[.bool true] 4 (0, 0))
    rwa [s1, s1] at this
  · have := heap_alloc_new (((w.alloc (.cells #[v] 59 (0, 0))).alloc (.cells #[.int .i64 0, .int .i64 0, .int .i64 0, .int .i64 0, .slice none 0 0, .slice none 0 0] 25 (0, 0))).alloc (.cells #[.bool true] 4 (0, 0))) (.cells #[.string ⟨#[]⟩] 9 (0, 0))
    rwa [s1, s1, s1] at this
  · exact ((((Below.refl _ _).alloc (Nat.le_refl _) _).alloc (by simp) _).alloc (by simp; omega) _).alloc (by simp; omega) _
theorem pre_calls (w : World) (s : Bs) : Calls Tryd.prog 40 #[.string (mk s), .string ⟨#[84]⟩] w fun e w' => e = .returned (.bool (decide (s.head? = some 84))) ∧ w' = w := by
  refine (Tryd.strings_HasPrefix (mk s) ⟨#[84]⟩ w).mono ?_
  rintro e w' ⟨rfl, rfl⟩
  refine ⟨ret_bool ?_, rfl⟩
  show List.isPrefixOf [84] s = _
  cases s with
  | nil => rfl
  | cons b t => rw [List.isPrefixOf_cons_cons]; simp [Bool.beq_eq_decide_eq, eq_comm]
theorem cells6 {W : World} {g : Nat} {v0 v1 v2 v3 v4 v5 : Value} {t : TypeId} (h : W.heap[g]? = some (.cells #[v0, v1, v2, v3, v4, v5] t (0, 0))) : W.cell? ⟨g, 0, none⟩ = some v0 ∧ W.cell? ⟨g, 1, none⟩ = some v1 ∧ W.cell? ⟨g, 2, none⟩ = some v2 ∧ W.cell? ⟨g, 3, none⟩ = some v3 ∧ W.cell? ⟨g, 4, none⟩ = some v4 ∧ W.cell? ⟨g, 5, none⟩ = some v5 :=
  ⟨cell_of_blk h, cell_of_blk h, cell_of_blk h, cell_of_blk h, cell_of_blk h, cell_of_blk h⟩
theorem cells5 {W : World} {g : Nat} {v0 v1 v2 v3 v4 : Value} {t : TypeId} (h : W.heap[g]? = some (.cells #[v0, v1, v2, v3, v4] t (0, 0))) : W.cell? ⟨g, 0, none⟩ = some v0 ∧ W.cell? ⟨g, 1, none⟩ = some v1 ∧ W.cell? ⟨g, 2, none⟩ = some v2 ∧ W.cell? ⟨g, 3, none⟩ = some v3 ∧ W.cell? ⟨g, 4, none⟩ = some v4 :=
  ⟨cell_of_blk h, cell_of_blk h, cell_of_blk h, cell_of_blk h, cell_of_blk h⟩
theorem cells3 {W : World} {g : Nat} {v0 v1 v2 : Value} {t : TypeId} (h : W.heap[g]? = some (.cells #[v0, v1, v2] t (0, 0))) : W.cell? ⟨g, 0, none⟩ = some v0 ∧ W.cell? ⟨g, 1, none⟩ = some v1 ∧ W.cell? ⟨g, 2, none⟩ = some v2 :=
  ⟨cell_of_blk h, cell_of_blk h, cell_of_blk h⟩
theorem free_all {W : World} {g : Nat} {cs : Array Value} {t : TypeId} (h : W.heap[g]? = some (.cells cs t (0, 0))) : ∀ i, W.frozen? ⟨g, i, none⟩ = false := fun i => free_of_blk h
/-- One cell of a block that is none of the variables is written. -/
theorem step_set {w wr W : World} {vp : Value} {cs : Array Value} {f : Bool} {l : Bs} {g : Nat} {ds : Array Value} {t : TypeId} (M : Mem w W vp cs f l) (U : Upd (Vs w) wr W) (K : W.heap[g]? = some (.cells ds t (0, 0))) (hg : w.heap.size + 4 ≤ g) (hr : wr.heap.size ≤ g) (i : Nat) (u : Value) :
    Mem w (W.setCell ⟨g, i, none⟩ u) vp cs f l ∧ Upd (Vs w) wr (W.setCell ⟨g, i, none⟩ u) ∧ (W.setCell ⟨g, i, none⟩ u).heap[g]? = some (.cells (ds.setIfInBounds i u) t (0, 0)) :=
  ⟨M.kept (F := fun k => k = g) (Upd.setCell (F := fun k => k = g) (Upd.refl _ W) (p := ⟨g, i, none⟩) (.inl rfl) u) (fun k hk => hk ▸ hg), U.setCell (.inr hr) u, heap_setCell_same _ _ i _ _ u K⟩
/-- What a number's taking leaves of such a block. -/
theorem step_num {w wr W W' : World} {g : Nat} {ds : Array Value} {t : TypeId} (U : Upd (Vs w) wr W) (hU : Upd (Vs w) W W') (K : W.heap[g]? = some (.cells ds t (0, 0))) (hg : w.heap.size + 4 ≤ g) : Upd (Vs w) wr W' ∧ W'.heap[g]? = some (.cells ds t (0, 0)) :=
  ⟨U.trans hU, hU.block_eq K (fun h => by have := h.2; omega)⟩
/-- A row of its own grows; a cell of a block that is none of the variables is written behind it. -/
theorem step_app {w wr X W8 : World} {vp : Value} {cs : Array Value} {f : Bool} {l : Bs} {o : Obj} {row : Option Nat} (M : Mem w X vp cs f l) (U : Upd (Vs w) wr X) (hgrow : (X.alloc o).grownBy W8 row) {B : Nat} (hB : w.heap.size + 4 ≤ B) (hr : wr.heap.size ≤ B) (hrow : ∀ k, row = some k → B ≤ k) : Mem w W8 vp cs f l ∧ Upd (Vs w) wr W8 := by
  have h1 : Upd (fun k => B ≤ k) X W8 := ((Upd.refl _ _).alloc o).grown hgrow (fun k hk => .inl (hrow k hk))
  exact ⟨M.kept h1 (fun i hi => Nat.le_trans hB hi), (U.alloc o).grown hgrow (fun k hk => .inr (Nat.le_trans hr (hrow k hk)))⟩
theorem step_appM {w X W8 : World} {vp : Value} {cs : Array Value} {f : Bool} {l : Bs} {o : Obj} {row : Option Nat} (M : Mem w X vp cs f l) (hgrow : (X.alloc o).grownBy W8 row) {B : Nat} (hB : w.heap.size + 4 ≤ B) (hrow : ∀ k, row = some k → B ≤ k) : Mem w W8 vp cs f l := by
  exact M.kept (F := fun k => B ≤ k) (((Upd.refl _ _).alloc o).grown hgrow (fun k hk => .inl (hrow k hk))) (fun i hi => Nat.le_trans hB hi)
theorem grown_block {X W8 : World} {o oc : Obj} {row : Option Nat} (hgrow : (X.alloc o).grownBy W8 row) {g : Nat} (h : X.heap[g]? = some oc) (hne : some g ≠ row) : W8.heap[g]? = some oc := by
  have hlt := lt_of_block h
  exact (hgrow.block g (by simp; omega) hne).trans (((Below.refl X.heap.size X).alloc (Nat.le_refl _) o).block g hlt |>.trans h)
theorem cells2 {W : World} {g : Nat} {v0 v1 : Value} {t : TypeId} (h : W.heap[g]? = some (.cells #[v0, v1] t (0, 0))) : W.cell? ⟨g, 0, none⟩ = some v0 ∧ W.cell? ⟨g, 1, none⟩ = some v1 := ⟨cell_of_blk h, cell_of_blk h⟩
theorem ownL_upd {F : Nat → Prop} {w w' w'' : World} {v : Value} {q : List Lease.Le} (h : Lease.OwnL w w' v q) (hu : Upd F w' w'') (hF : ∀ i, F i → i < w.heap.size) : Lease.OwnL w w'' v q :=
  ⟨hu.ownsRow h.own fun g hg hf => by have := hF g hf; have := h.new g hg; omega, h.new⟩
theorem ownL_up {w w1 w' : World} {v : Value} {q : List Lease.Le} (h : Lease.OwnL w1 w' v q) (hw : w.heap.size ≤ w1.heap.size) : Lease.OwnL w w' v q := ⟨h.own, fun g hg => Nat.le_trans hw (h.new g hg)⟩
theorem ownX_keep {w W7 wz Z Z' : World} {v : Value} {q : List Nd} (h : OwnX W7 Z v q) (h0 : OwnX W7 wz v q) (hU : Upd (fun k => wz.heap.size ≤ k ∨ Vs w k) Z Z') (hb : w.heap.size + 3 < W7.heap.size) : OwnX W7 Z' v q :=
  ⟨hU.ownsRow h.own fun g hg hf => by
      have h1 := own_ltN h0.own g hg
      have h2 := h.new g hg
      rcases hf with hf | hf
      · omega
      · have := hf.2; omega, h.new, fun x hx => ⟨hU.ownsRow (h.bl x hx).own fun g hg hf => by
      have h1 := own_ltN (h0.bl x hx).own g hg
      have h2 := (h.bl x hx).new g hg
      rcases hf with hf | hf
      · omega
      · have := hf.2; omega, (h.bl x hx).new⟩⟩
theorem results_read (tmps : Array Value) (W : World) (g q : Nat) (cs : Array Value) (b : Bool) (hp : tmps.getD 2 undef = .pointer (some ⟨g, 0, none⟩)) (hq : tmps.getD 3 undef = .pointer (some ⟨q, 0, none⟩))
    (hg : W.heap[g]? = some (.cells cs 25 (0, 0))) (hb : W.heap[q]? = some (.cells #[.bool b] 4 (0, 0))) (hs : cs.size = 6) : (results Tryd.f21 tmps).run Tryd.prog W = .ok (.tuple #[.agg cs, .bool b]) W := by
  have hp' : tmps[2]?.getD undef = .pointer (some ⟨g, 0, none⟩) := by simpa using hp
  have hq' : tmps[3]?.getD undef = .pointer (some ⟨q, 0, none⟩) := by simpa using hq
  have hi : (Tryd.prog.info? 25).map (·.size) = some cs.size := by rw [hs]; kernel_rfl
  have c := cell_of_blk (j := 0) hb
  simp only [List.getElem?_toArray, List.getElem?_cons_zero] at c
  have h1 := run_loadVar_row (P := Tryd.prog) W g 25 25 cs (0, 0) _ hg Tryd.underlying25 rfl hi
  have h2 : (loadVar 4 ⟨q, 0, none⟩).run Tryd.prog W = .ok (.bool b) W := by simp [loadVar, Tryd.isAgg4, c, go_sem]
  simp [results, Tryd.results21, hp', hq', asAddr, h1, h2]
set_option maxRecDepth 8000 in
set_option maxHeartbeats 16000000 in
theorem read_calls (w : World) (v : Value) (ps : List ByteArray) (hR : Rd w 1 Path.encS v ps) (hn : ps.length ≤ 1000000) (hsz : ∀ p ∈ ps, (bs p).length ≤ 10000000) : Calls Tryd.prog 21 #[v] w (ReadPost w (readP (ps.map bs)) ps.length) := by
  have hM := mem0 w v
  have hpart := mpart_calls hM hR
  obtain ⟨ao, cap, rfl, -, -, -⟩ := rd_cellsS hR
  have Hpart := Lib.hid hpart; have HR := Lib.hid hR; have Hsz := Lib.hid hsz
  clear hM hpart hR hsz
  go_enter Tryd.func21, Tryd.ntmps21
  go_wp2_with (fail)
  refine Hpart.out.mono ?_
  rintro e W0 ⟨rfl, ⟨vp0, hM0, hR0⟩, hU0⟩
  obtain ⟨c2, c3, z2, z3, z1⟩ := hM0.cell
  have hpre := fun l => pre_calls W0 l
  have hret : ∀ (W : World) (vp : Value) (cs : Array Value) (f : Bool) (l : Bs), Mem w W vp cs f l → ∀ i, i < cs.size → W.cell? ⟨w.heap.size + 1, i, none⟩ = cs[i]? := fun W vp cs f l h i _ => cell_of_blk h.R
  have HM0 := Lib.hid hM0; have HR0 := Lib.hid hR0; have Hpre := Lib.hid hpre
  clear Hpart hM0 hR0 hU0 hpre hret
  cases ps with
  | nil =>
    have hno : readP ([].map bs) = none := rfl
    rw [hno]
    have hl0 : partL true ([] : List ByteArray) [] = [] := rfl
    have hf0 : partF true ([] : List ByteArray) = false := rfl
    rw [hl0] at c3; rw [hf0] at c2
    obtain ⟨r0, r1, r2, r3, r4, r5⟩ := cells6 HM0.out.R
    have hp := Hpre.out []
    have Hp := Lib.hid hp
    clear hp hno hl0 hf0
    go_wp2_with (fail)
    refine Hp.out.mono ?_
    rintro e W1 ⟨rfl, rfl⟩
    go_wp2_with (fail)
    have M1 := ((((((HM0.out.setR 0 (.int .i64 0)).setR 1 (.int .i64 0)).setR 2 (.int .i64 0)).setR 3 (.int .i64 0)).setR 4 (.slice none 0 0)).setR 5 (.slice none 0 0)).setF false
    refine bodyPost_ret (v := .tuple #[.agg #[.int .i64 0, .int .i64 0, .int .i64 0, .int .i64 0, .slice none 0 0, .slice none 0 0], .bool false]) (results_read _ _ _ _ _ _ rfl rfl M1.R M1.F rfl) rfl ?_
    exact ⟨.inr ⟨rfl, ⟨0, 0, 0, 0, [], [], .slice none 0 0, .slice none 0 0⟩, rfl, ⟨_, _, _, rfl⟩, _, _, _, rfl⟩, M1.below⟩
  | cons p t =>
    have hl0 : partL true (p :: t) [] = bs p := rfl
    have hf0 : partF true (p :: t) = true := rfl
    have hp0 : partP true (p :: t) = t := rfl
    have hM1 := HM0.out
    have hR1 := HR0.out
    rw [hl0, hf0] at hM1
    rw [hp0] at hR1
    rw [hl0] at c3; rw [hf0] at c2
    have HM1 := Lib.hid hM1; have HR1 := Lib.hid hR1
    have hps := Hsz.out p (by simp)
    have hts : ∀ x ∈ t, (bs x).length ≤ 10000000 := fun x hx => Hsz.out x (List.mem_cons_of_mem _ hx)
    have Hts := Lib.hid hts
    have hlen : t.length + 1 ≤ 1000000 := by simpa using hn
    obtain ⟨r0, r1, r2, r3, r4, r5⟩ := cells6 hM1.R
    have hp := Hpre.out (bs p)
    have hms : mk (bs p) = p := mk_bs p
    clear HM0 HR0 hl0 hf0 hp0 hM1 hR1 Hsz hts hn HR
    by_cases hh : (bs p).head? = some 84
    · have hp' := hp
      rw [decide_eq_true hh] at hp'
      have hdp : p.extract 1 p.size = mk (bs p).tail := (by have := Wire.drop_bs p 1; rw [List.drop_one] at this; exact this)
      have hp1 : 1 ≤ p.size := by
        rw [← Path.bs_len]
        cases hb : bs p with
        | nil => rw [hb] at hh; cases hh
        | cons _ _ => simp
      have Hp := Lib.hid hp'; have Hh := Lib.hid hh; have Hdp := Lib.hid hdp
      have htl : (bs p).tail.length ≤ 10000000 := by rw [List.length_tail]; omega
      rw [hms] at c3
      clear hp hp' hh hdp Hpre
      go_wp2_with (fail)
      rw [← hms]
      refine Hp.out.mono ?_
      rintro e W1 ⟨rfl, rfl⟩
      rw [hms]
      clear hms
      go_wp2_with (fail)
      rw [Hdp.out]
      have M1 := HM1.out.setL (bs p).tail
      generalize hl1e : (bs p).tail = l1 at *
      have Hl1e := Lib.hid hl1e
      clear hl1e
      have N1 := Lib.hid M1
      clear M1 c2 c3 z2 z3 z1 r0 r1 r2 r3 r4 r5
      refine (mnum_calls N1.out (by omega)).mono ?_
      rintro e W2 ⟨rfl, hM1, hU1⟩
      have hl2 : (numR l1).length ≤ 10000000 := Nat.le_trans (numR_len _) (by omega)
      have hi1 := numV_in l1
      have zr := hM1.cell.2.2.2.2 0
      obtain ⟨r0, r1, r2, r3, r4, r5⟩ := cells6 hM1.R
      have N1 := Lib.hid hM1
      clear hM1 hU1
      generalize hlr1 : numR l1 = l2 at *
      generalize hvr1 : numV l1 = n1 at *
      have Hlr1 := Lib.hid hlr1; have Hvr1 := Lib.hid hvr1; have Hi1 := Lib.hid hi1
      clear hlr1 hvr1 hi1
      go_wp2_with (fail)
      have M2 : Mem w (W2.setCell ⟨w.heap.size + 1, 0, none⟩ (.int .i64 n1)) _ #[.int .i64 n1, .int .i64 0, .int .i64 0, .int .i64 0, .slice none 0 0, .slice none 0 0] _ _ := N1.out.setR 0 (.int .i64 n1)
      have N2 := Lib.hid M2
      clear M2 zr r0 r1 r2 r3 r4 r5 N1
      refine (mnum_calls N2.out (by omega)).mono ?_
      rintro e W3 ⟨rfl, hM2, hU2⟩
      have hl3 : (numR l2).length ≤ 10000000 := Nat.le_trans (numR_len _) (by omega)
      have hi2 := numV_in l2
      have zr := hM2.cell.2.2.2.2 1
      obtain ⟨r0, r1, r2, r3, r4, r5⟩ := cells6 hM2.R
      have N2 := Lib.hid hM2
      clear hM2 hU2
      generalize hlr2 : numR l2 = l3 at *
      generalize hvr2 : numV l2 = n2 at *
      have Hlr2 := Lib.hid hlr2; have Hvr2 := Lib.hid hvr2; have Hi2 := Lib.hid hi2
      clear hlr2 hvr2 hi2
      go_wp2_with (fail)
      have M3 : Mem w (W3.setCell ⟨w.heap.size + 1, 1, none⟩ (.int .i64 n2)) _ #[.int .i64 n1, .int .i64 n2, .int .i64 0, .int .i64 0, .slice none 0 0, .slice none 0 0] _ _ := N2.out.setR 1 (.int .i64 n2)
      have N3 := Lib.hid M3
      clear M3 zr r0 r1 r2 r3 r4 r5 N2
      refine (mnum_calls N3.out (by omega)).mono ?_
      rintro e W4 ⟨rfl, hM3, hU3⟩
      have hl4 : (numR l3).length ≤ 10000000 := Nat.le_trans (numR_len _) (by omega)
      have hi3 := numV_in l3
      have zr := hM3.cell.2.2.2.2 2
      obtain ⟨r0, r1, r2, r3, r4, r5⟩ := cells6 hM3.R
      have N3 := Lib.hid hM3
      clear hM3 hU3
      generalize hlr3 : numR l3 = l4 at *
      generalize hvr3 : numV l3 = n3 at *
      have Hlr3 := Lib.hid hlr3; have Hvr3 := Lib.hid hvr3; have Hi3 := Lib.hid hi3
      clear hlr3 hvr3 hi3
      go_wp2_with (fail)
      have M4 : Mem w (W4.setCell ⟨w.heap.size + 1, 2, none⟩ (.int .i64 n3)) _ #[.int .i64 n1, .int .i64 n2, .int .i64 n3, .int .i64 0, .slice none 0 0, .slice none 0 0] _ _ := N3.out.setR 2 (.int .i64 n3)
      have N4 := Lib.hid M4
      clear M4 zr r0 r1 r2 r3 r4 r5 N3
      refine (mnum_calls N4.out (by omega)).mono ?_
      rintro e W5 ⟨rfl, hM4, hU4⟩
      have hl5 : (numR l4).length ≤ 10000000 := Nat.le_trans (numR_len _) (by omega)
      have hi4 := numV_in l4
      have zr := hM4.cell.2.2.2.2 3
      obtain ⟨r0, r1, r2, r3, r4, r5⟩ := cells6 hM4.R
      have N4 := Lib.hid hM4
      clear hM4 hU4
      generalize hlr4 : numR l4 = l5 at *
      generalize hvr4 : numV l4 = n4 at *
      have Hlr4 := Lib.hid hlr4; have Hvr4 := Lib.hid hvr4; have Hi4 := Lib.hid hi4
      clear hlr4 hvr4 hi4
      go_wp2_with (fail)
      have M5 : Mem w (W5.setCell ⟨w.heap.size + 1, 3, none⟩ (.int .i64 n4)) _ #[.int .i64 n1, .int .i64 n2, .int .i64 n3, .int .i64 n4, .slice none 0 0, .slice none 0 0] _ _ := N4.out.setR 3 (.int .i64 n4)
      have N5 := Lib.hid M5
      clear M5 zr r0 r1 r2 r3 r4 r5 N4
      refine (mnum_calls N5.out (by omega)).mono ?_
      rintro e W6 ⟨rfl, hM5, hU5⟩
      have hl6 : (numR l5).length ≤ 10000000 := Nat.le_trans (numR_len _) (by omega)
      have hi5 := numV_in l5
      have N6 := Lib.hid hM5
      clear hM5 hU5 N5
      generalize hlr5 : numR l5 = l6 at *
      generalize hvr5 : numV l5 = n5 at *
      have Hlr5 := Lib.hid hlr5; have Hvr5 := Lib.hid hvr5; have Hi5 := Lib.hid hi5
      clear hlr5 hvr5 hi5
      go_wp2_with (fail)
      refine (mnum_calls N6.out (by omega)).mono ?_
      rintro e W7 ⟨rfl, hM6, hU6⟩
      have hl7 : (numR l6).length ≤ 10000000 := Nat.le_trans (numR_len _) (by omega)
      have hi6 := numV_in l6
      have N7 := Lib.hid hM6
      clear hM6 hU6 N6
      generalize hlr6 : numR l6 = l7 at *
      generalize hvr6 : numV l6 = n6 at *
      have Hlr6 := Lib.hid hlr6; have Hvr6 := Lib.hid hvr6; have Hi6 := Lib.hid hi6
      clear hlr6 hvr6 hi6
      obtain ⟨f0, hf0⟩ : ∃ f, f = (true && numK l1 && numK l2 && numK l3 && numK l4 && numK l5 && numK l6) := ⟨_, rfl⟩
      have hM7 := N7.out
      rw [← hf0] at hM7
      have hX0 : OwnX W7 W7 (.slice none 0 0) [] := OwnX.nil _ _
      have hNI := NodI.start f0 t
      have hlt7 := hM7.lt
      have N8 := Lib.hid hM7; have HX0 := Lib.hid hX0; have HNI := Lib.hid hNI; have Hf0 := Lib.hid hf0
      clear hM7 N7 hX0 hNI hf0
      have hin5 : n5 ≤ 9223372036854775807 := Hi5.out.2
      have hin6 : n6 ≤ 9223372036854775807 := Hi6.out.2
      go_wp2_with (fail)
      go_loopw [9] (fun vi wr => ∃ (k : Nat) (q : List Nd) (qs : List ByteArray) (f : Bool) (l : Bs) (vp vn : Value), vi = .int .i64 k ∧ k ≤ n5.toNat ∧ l.length ≤ 10000000 ∧ Mem w wr vp #[.int .i64 n1, .int .i64 n2, .int .i64 n3, .int .i64 n4, vn, .slice none 0 0] f l ∧ Rd w 1 Path.encS vp qs ∧ OwnX W7 wr vn q ∧ NodI f0 t k q qs f ∧ W7.heap.size ≤ wr.heap.size) (fun vi _ => n5.toNat - (intOf vi).toNat)
      case atStart => exact ⟨0, [], t, f0, l7, vp0, _, rfl, Nat.zero_le _, hl7, N8.out, HR1.out, HX0.out, HNI.out, Nat.le_refl _⟩
      case round =>
        obtain ⟨k, q, qs, f, l, vp, vn, rfl, hk, hl, hM, hRd, hX, hI, hsz7⟩ := hrel
        obtain ⟨c2, c3, z2, z3, z1⟩ := hM.cell
        have HM := Lib.hid hM; have HRd := Lib.hid hRd; have HX := Lib.hid hX; have HI := Lib.hid hI
        clear hM hRd hX hI c3 z2 z3 z1
        have hways : (decide ((k : Int) < n5) = true ∧ f = true) ∨ (decide ((k : Int) < n5) = true ∧ f = false) ∨ (decide ((k : Int) < n5) = false) := by
          cases f
          · cases decide ((k : Int) < n5) <;> simp
          · cases decide ((k : Int) < n5) <;> simp
        rcases hways with ⟨e1, rfl⟩ | hways
        · have hI := HI.out
          have hqs : ∀ p ∈ qs, (bs p).length ≤ 10000000 := fun p hp => Hts.out p (hI.sub p hp)
          have hqn : q.length ≤ 1000001 := by have := hI.len; have := hI.few; omega
          have hkn : k + 1 ≤ n5.toNat := by have := of_decide_eq_true e1; omega
          have hkn2 : (k : Int) < n5 := of_decide_eq_true e1
          have hpart := mpart_calls HM.out HRd.out
          have hl0 := partL_len (f := true) hqs hl
          have hidem := partL_idem qs l
          have hsub := partP_sub (f := true) (ps := qs)
          have Hpart := Lib.hid hpart; have Hidem := Lib.hid hidem
          clear hpart hidem hqs hI hsub
          go_wp2_with (fail)
          refine Hpart.out.mono ?_
          rintro e W8 ⟨rfl, ⟨vp1, hM1, hRd1⟩, hU1⟩
          generalize hgt : partL true qs l = t0 at *
          obtain ⟨f1, hf1⟩ : ∃ b, b = partF true qs := ⟨_, rfl⟩
          rw [← hf1] at hM1
          obtain ⟨d2, d3, y2, y3, y1⟩ := hM1.cell
          have htk := fun W => taket_general W (mk t0) (by rw [Path.mk_size]; omega)
          rw [bs_mk] at htk
          have HM1 := Lib.hid hM1; have HRd1 := Lib.hid hRd1; have HU1 := Lib.hid hU1; have Htk := Lib.hid htk; have Hf1 := Lib.hid hf1
          clear hM1 hRd1 hU1 htk Hpart c2 hgt hf1
          go_wp2_with (fail)
          refine (Htk.out W8).mono ?_
          rintro e W9 ⟨rfl, hb9⟩
          have hM2 := HM1.out.up hb9
          have hU2 : Upd (Vs w) wr W9 := HU1.out.trans (Upd.of_below hb9 _)
          obtain ⟨x2, x3, y2, y3, y1⟩ := hM2.cell
          have HM2 := Lib.hid hM2; have HU2 := Lib.hid hU2
          clear hM2 hU2 hb9 d2 d3 Htk
          have hE : ((if txtK t0 = true then 0 else 2 : Int) == 0) = txtK t0 := by cases txtK t0 <;> rfl
          generalize hE2 : (if txtK t0 = true then 0 else 2 : Int) = E at *
          have HE := Lib.hid hE
          clear hE hE2
          obtain ⟨f2, hf2⟩ : ∃ b, b = (f1 && txtK t0) := ⟨_, rfl⟩
          have Hf2 := Lib.hid hf2
          clear hf2
          go_upto_region 20 with (fail)
          go_cut [] (fun wx => ∃ Wn, Wn = wx ∧ Mem w Wn vp1 #[.int .i64 n1, .int .i64 n2, .int .i64 n3, .int .i64 n4, vn, .slice none 0 0] f2 (txtR t0) ∧ Upd (Vs w) wr Wn)
          case first =>
            have hW := fun b => (HM2.out.setL (txtR t0)).setF b
            have hV := fun b => ((HU2.out.setCell (p := ⟨w.heap.size + 3, 0, none⟩) (.inl ⟨by simp, by simp⟩) (.string (mk (txtR t0)))).setCell (p := ⟨w.heap.size + 2, 0, none⟩) (.inl ⟨by simp, by simp⟩) (.bool b))
            have HW := Lib.hid hW; have HV := Lib.hid hV
            clear hW hV
            generalize hK : txtK t0 = Kk at *
            clear hK
            rcases Bool.eq_false_or_eq_true f1 with e | e
            · subst e
              rcases Bool.eq_false_or_eq_true Kk with e | e
              · subst e
                have hk := HE.out
                go_wp2_with (fail)
                go_meet
                exact ⟨_, rfl, by rw [Hf2.out]; exact HW.out true, HV.out true⟩
              · subst e
                have hk := HE.out
                go_wp2_with (fail)
                go_meet
                exact ⟨_, rfl, by rw [Hf2.out]; exact HW.out false, HV.out false⟩
            · subst e
              go_wp2_with (fail)
              go_meet
              exact ⟨_, rfl, by rw [Hf2.out]; exact HW.out false, HV.out false⟩
          case rest =>
            obtain ⟨Wn, hWn, hM3, hU3⟩ := hcut
            subst hWn
            clear x2 x3 y2 y3 y1 HM2 HU2 HM1 HU1
            have hl1 := Nat.le_trans (txtR_len t0) hl0
            have hg3 := hM3.lt
            have hr3 := hU3.size
            have hA := hM3.up ((Below.refl Wn.heap.size Wn).alloc (Nat.le_refl _) (.cells #[.string (mk (txtV t0)), .bool false, .int .i64 0, .slice none 0 0, .int .i64 0] 51 (0, 0)))
            have hAU : Upd (Vs w) wr (Wn.alloc (.cells #[.string (mk (txtV t0)), .bool false, .int .i64 0, .slice none 0 0, .int .i64 0] 51 (0, 0))) := hU3.alloc _
            have hAK := heap_alloc_new Wn (.cells #[.string (mk (txtV t0)), .bool false, .int .i64 0, .slice none 0 0, .int .i64 0] 51 (0, 0))
            have HA := Lib.hid hA; have HAU := Lib.hid hAU; have HAK := Lib.hid hAK
            clear hM3 hU3 hA hAU hAK
            generalize hlr1 : txtR t0 = r1 at *
            have Hlr1 := Lib.hid hlr1
            clear hlr1
            have hgn : w.heap.size + 4 ≤ Wn.heap.size := by omega
            go_wp2_with (fail)
            refine (mnum_calls HA.out hl1).mono ?_
            rintro e X1 ⟨rfl, hM, hU⟩
            obtain ⟨hU', hK⟩ := step_num HAU.out hU HAK.out hgn
            have hl2 := Nat.le_trans (numR_len r1) hl1
            have hv1 := numV_in r1
            have HX1M := Lib.hid hM; have HX1U := Lib.hid hU'; have HX1K := Lib.hid hK; have Hv1 := Lib.hid hv1
            have zk := free_all hK 1
            obtain ⟨k0, k1, k2, k3, k4⟩ := cells5 hK
            clear hM hU hU' hK hv1
            generalize hvv1 : numV r1 = m1 at *
            generalize hlr2 : numR r1 = r2 at *
            have Hvv1 := Lib.hid hvv1; have Hlr2 := Lib.hid hlr2
            clear hvv1 hlr2
            go_wp2_with (fail)
            have hS := step_set HX1M.out HX1U.out HX1K.out hgn hr3 1 (.bool (m1 == 1))
            have hS' : Mem w (X1.setCell ⟨Wn.heap.size, 1, none⟩ (.bool (m1 == 1))) _ _ _ _ ∧ Upd (Vs w) wr (X1.setCell ⟨Wn.heap.size, 1, none⟩ (.bool (m1 == 1))) ∧ (X1.setCell ⟨Wn.heap.size, 1, none⟩ (.bool (m1 == 1))).heap[Wn.heap.size]? = some (.cells #[.string (mk (txtV t0)), .bool (m1 == 1), .int .i64 0, .slice none 0 0, .int .i64 0] 51 (0, 0)) := hS
            obtain ⟨hM, hU, hK⟩ := hS'
            have HS1M := Lib.hid hM; have HS1U := Lib.hid hU; have HS1K := Lib.hid hK
            clear hM hU hK hS zk k0 k1 k2 k3 k4 HX1M HX1U HX1K
            refine (mnum_calls HS1M.out hl2).mono ?_
            rintro e X2 ⟨rfl, hM, hU⟩
            obtain ⟨hU', hK⟩ := step_num HS1U.out hU HS1K.out hgn
            have hl3 := Nat.le_trans (numR_len r2) hl2
            have hv2 := numV_in r2
            have HX2M := Lib.hid hM; have HX2U := Lib.hid hU'; have HX2K := Lib.hid hK; have Hv2 := Lib.hid hv2
            have zk := free_all hK 2
            obtain ⟨k0, k1, k2, k3, k4⟩ := cells5 hK
            clear hM hU hU' hK hv2
            generalize hvv2 : numV r2 = m2 at *
            generalize hlr3 : numR r2 = r3 at *
            have Hvv2 := Lib.hid hvv2; have Hlr3 := Lib.hid hlr3
            clear hvv2 hlr3
            go_wp2_with (fail)
            have hS := step_set HX2M.out HX2U.out HX2K.out hgn hr3 2 (.int .i64 m2)
            have hS' : Mem w (X2.setCell ⟨Wn.heap.size, 2, none⟩ (.int .i64 m2)) _ _ _ _ ∧ Upd (Vs w) wr (X2.setCell ⟨Wn.heap.size, 2, none⟩ (.int .i64 m2)) ∧ (X2.setCell ⟨Wn.heap.size, 2, none⟩ (.int .i64 m2)).heap[Wn.heap.size]? = some (.cells #[.string (mk (txtV t0)), .bool (m1 == 1), .int .i64 m2, .slice none 0 0, .int .i64 0] 51 (0, 0)) := hS
            obtain ⟨hM, hU, hK⟩ := hS'
            have HS2M := Lib.hid hM; have HS2U := Lib.hid hU; have HS2K := Lib.hid hK
            clear hM hU hK hS zk k0 k1 k2 k3 k4 HX2M HX2U HX2K
            refine (mnum_calls HS2M.out hl3).mono ?_
            rintro e X3 ⟨rfl, hM, hU⟩
            obtain ⟨hU', hK⟩ := step_num HS2U.out hU HS2K.out hgn
            have hl4 := Nat.le_trans (numR_len r3) hl3
            have hv3 := numV_in r3
            have HX3M := Lib.hid hM; have HX3U := Lib.hid hU'; have HX3K := Lib.hid hK; have Hv3 := Lib.hid hv3
            have zk := free_all hK 4
            obtain ⟨k0, k1, k2, k3, k4⟩ := cells5 hK
            clear hM hU hU' hK hv3
            generalize hvv3 : numV r3 = m3 at *
            generalize hlr4 : numR r3 = r4 at *
            have Hvv3 := Lib.hid hvv3; have Hlr4 := Lib.hid hlr4
            clear hvv3 hlr4
            go_wp2_with (fail)
            have hS := step_set HX3M.out HX3U.out HX3K.out hgn hr3 4 (.int .i64 m3)
            have hS' : Mem w (X3.setCell ⟨Wn.heap.size, 4, none⟩ (.int .i64 m3)) _ _ _ _ ∧ Upd (Vs w) wr (X3.setCell ⟨Wn.heap.size, 4, none⟩ (.int .i64 m3)) ∧ (X3.setCell ⟨Wn.heap.size, 4, none⟩ (.int .i64 m3)).heap[Wn.heap.size]? = some (.cells #[.string (mk (txtV t0)), .bool (m1 == 1), .int .i64 m2, .slice none 0 0, .int .i64 m3] 51 (0, 0)) := hS
            obtain ⟨hM, hU, hK⟩ := hS'
            have HS3M := Lib.hid hM; have HS3U := Lib.hid hU; have HS3K := Lib.hid hK
            clear hM hU hK hS zk k0 k1 k2 k3 k4 HX3M HX3U HX3K
            refine (mnum_calls HS3M.out hl4).mono ?_
            rintro e X4 ⟨rfl, hM, hU⟩
            obtain ⟨hU', hK⟩ := step_num HS3U.out hU HS3K.out hgn
            have hl5 := Nat.le_trans (numR_len r4) hl4
            have hv4 := numV_in r4
            have HX4M := Lib.hid hM; have HX4U := Lib.hid hU'; have HX4K := Lib.hid hK; have Hv4 := Lib.hid hv4
            clear hM hU hU' hK hv4
            generalize hvv4 : numV r4 = m4 at *
            generalize hlr5 : numR r4 = r5 at *
            have Hvv4 := Lib.hid hvv4; have Hlr5 := Lib.hid hlr5
            clear hvv4 hlr5
            obtain ⟨f6, hf6⟩ : ∃ f, f = (f2 && numK r1 && numK r2 && numK r3 && numK r4) := ⟨_, rfl⟩
            have hM4 := HX4M.out
            rw [← hf6] at hM4
            have hBk : (.cells #[.string (mk (txtV t0)), .bool (m1 == 1), .int .i64 m2, .slice none 0 0, .int .i64 m3] 51 (0, 0) : Obj) = .cells #[.string (mk (txtV t0)), .bool (m1 == 1), .int .i64 m2, .slice none 0 0, .int .i64 m3] 51 (0, 0) := rfl
            have hK4 : X4.heap[Wn.heap.size]? = some (.cells #[.string (mk (txtV t0)), .bool (m1 == 1), .int .i64 m2, .slice none 0 0, .int .i64 m3] 51 (0, 0)) := HX4K.out
            have hlt4 := lt_of_block hK4
            have hBI := BlkI.start r5 f6
            have H4 := Lib.hid hM4; have K4 := Lib.hid hK4; have Hf6 := Lib.hid hf6; have HBI := Lib.hid hBI
            have hm4 : m4 ≤ 9223372036854775807 := Hv4.out.2
            clear hM4 hK4 hf6 HX4M HX4K hBk hBI
            go_wp2_with (fail)
            obtain ⟨wo, rfl⟩ : ∃ wo : World, wo = wr := ⟨_, rfl⟩
            go_loopw [15] (fun vj wx => ∃ (j : Nat) (bl : List Bl) (fb : Bool) (lf : Bs) (vb : Value), vj = .int .i64 j ∧ j ≤ m4.toNat ∧ Mem w wx vp1 #[.int .i64 n1, .int .i64 n2, .int .i64 n3, .int .i64 n4, vn, .slice none 0 0] fb lf ∧ Upd (Vs w) wo wx ∧ wx.heap[Wn.heap.size]? = some (.cells #[.string (mk (txtV t0)), .bool (m1 == 1), .int .i64 m2, vb, .int .i64 m3] 51 (0, 0)) ∧ OwnB X4 wx vb bl ∧ BlkI r5 f6 j bl lf fb ∧ X4.heap.size ≤ wx.heap.size) (fun vj _ => m4.toNat - (intOf vj).toNat)
            case atStart => exact ⟨0, [], f6, r5, .slice none 0 0, rfl, Nat.zero_le _, H4.out, HX4U.out, K4.out, OwnB.nil _ _, HBI.out, Nat.le_refl _⟩
            case round =>
              obtain ⟨j, bl, fb, lf, vb, rfl, hj, hM, hU, hK, hO, hB, hszx⟩ := hrel
              obtain ⟨c2, c3, z2, z3, z1⟩ := hM.cell
              have HM := Lib.hid hM; have HU := Lib.hid hU; have HK := Lib.hid hK; have HO := Lib.hid hO; have HB := Lib.hid hB
              have hbfew := hB.few
              have hblen : bl.length ≤ j := by rw [hB.len]; exact Nat.le_refl _
              have hlf := hB.left
              have hltK := lt_of_block hK
              clear hM hU hK hO hB c3 z2 z3 z1
              have hways : (decide ((j : Int) < m4) = true ∧ fb = true) ∨ (decide ((j : Int) < m4) = true ∧ fb = false) ∨ (decide ((j : Int) < m4) = false) := by
                cases fb
                · cases decide ((j : Int) < m4) <;> simp
                · cases decide ((j : Int) < m4) <;> simp
              rcases hways with ⟨e1, rfl⟩ | hways
              · have hjn : j + 1 ≤ m4.toNat := by have := of_decide_eq_true e1; omega
                have hjn2 : (j : Int) < m4 := of_decide_eq_true e1
                have hbn : bl.length ≤ 10000001 := by omega
                have hszX := HM.out.lt
                have hA := HM.out.up ((Below.refl wr.heap.size wr).alloc (Nat.le_refl _) (.cells #[.int .i64 0, .int .i64 0, .int .i64 0] 53 (0, 0)))
                have hAU : Upd (Vs w) wr (wr.alloc (.cells #[.int .i64 0, .int .i64 0, .int .i64 0] 53 (0, 0))) := (Upd.refl _ _).alloc _
                have hAK := heap_alloc_new wr (.cells #[.int .i64 0, .int .i64 0, .int .i64 0] 53 (0, 0))
                have hgb : w.heap.size + 4 ≤ wr.heap.size := by omega
                have HA := Lib.hid hA; have HAU := Lib.hid hAU; have HAK := Lib.hid hAK
                clear hA hAU hAK
                obtain ⟨s1, hs1⟩ : ∃ s, s = lf := ⟨_, rfl⟩
                have hls1 : s1.length ≤ 10000000 := by rw [hs1]; omega
                rw [← hs1] at HA
                have Hs1 := Lib.hid hs1
                clear hs1
                go_wp2_with (fail)
                refine (mnum_calls HA.out hls1).mono ?_
                rintro e Y1 ⟨rfl, hM, hU⟩
                obtain ⟨hU', hK⟩ := step_num HAU.out hU HAK.out hgb
                have hls2 := Nat.le_trans (numR_len s1) hls1
                have zk := free_all hK 0
                obtain ⟨k0, k1, k2⟩ := cells3 hK
                have hlY1 := lt_of_block hK
                have HYM := Lib.hid hM; have HYU := Lib.hid hU'; have HYK := Lib.hid hK
                clear hM hU hU' hK
                generalize hvv1 : numV s1 = b1 at *
                generalize hlr2 : numR s1 = s2 at *
                have Hbv1 := Lib.hid hvv1; have Hbr2 := Lib.hid hlr2
                clear hvv1 hlr2
                go_wp2_with (fail)
                have hS : Mem w (Y1.setCell ⟨wr.heap.size, 0, none⟩ (.int .i64 b1)) _ _ _ _ ∧ Upd (Vs w) wr (Y1.setCell ⟨wr.heap.size, 0, none⟩ (.int .i64 b1)) ∧ (Y1.setCell ⟨wr.heap.size, 0, none⟩ (.int .i64 b1)).heap[wr.heap.size]? = some (.cells #[.int .i64 b1, .int .i64 0, .int .i64 0] 53 (0, 0)) := step_set HYM.out HYU.out HYK.out hgb (Nat.le_refl _) 0 (.int .i64 b1)
                obtain ⟨hM, hU, hK⟩ := hS
                have HZM1 := Lib.hid hM; have HZU1 := Lib.hid hU; have HZK1 := Lib.hid hK
                clear hM hU hK zk k0 k1 k2 HYM HYU HYK
                refine (mnum_calls HZM1.out hls2).mono ?_
                rintro e Y2 ⟨rfl, hM, hU⟩
                obtain ⟨hU', hK⟩ := step_num HZU1.out hU HZK1.out hgb
                have hls3 := Nat.le_trans (numR_len s2) hls2
                have zk := free_all hK 1
                obtain ⟨k0, k1, k2⟩ := cells3 hK
                have hlY2 := lt_of_block hK
                have HYM := Lib.hid hM; have HYU := Lib.hid hU'; have HYK := Lib.hid hK
                clear hM hU hU' hK
                generalize hvv2 : numV s2 = b2 at *
                generalize hlr3 : numR s2 = s3 at *
                have Hbv2 := Lib.hid hvv2; have Hbr3 := Lib.hid hlr3
                clear hvv2 hlr3
                go_wp2_with (fail)
                have hS : Mem w (Y2.setCell ⟨wr.heap.size, 1, none⟩ (.int .i64 b2)) _ _ _ _ ∧ Upd (Vs w) wr (Y2.setCell ⟨wr.heap.size, 1, none⟩ (.int .i64 b2)) ∧ (Y2.setCell ⟨wr.heap.size, 1, none⟩ (.int .i64 b2)).heap[wr.heap.size]? = some (.cells #[.int .i64 b1, .int .i64 b2, .int .i64 0] 53 (0, 0)) := step_set HYM.out HYU.out HYK.out hgb (Nat.le_refl _) 1 (.int .i64 b2)
                obtain ⟨hM, hU, hK⟩ := hS
                have HZM2 := Lib.hid hM; have HZU2 := Lib.hid hU; have HZK2 := Lib.hid hK
                clear hM hU hK zk k0 k1 k2 HYM HYU HYK
                refine (mnum_calls HZM2.out hls3).mono ?_
                rintro e Y3 ⟨rfl, hM, hU⟩
                obtain ⟨hU', hK⟩ := step_num HZU2.out hU HZK2.out hgb
                have hls4 := Nat.le_trans (numR_len s3) hls3
                have zk := free_all hK 2
                obtain ⟨k0, k1, k2⟩ := cells3 hK
                have hlY3 := lt_of_block hK
                have HYM := Lib.hid hM; have HYU := Lib.hid hU'; have HYK := Lib.hid hK
                clear hM hU hU' hK
                generalize hvv3 : numV s3 = b3 at *
                generalize hlr4 : numR s3 = s4 at *
                have Hbv3 := Lib.hid hvv3; have Hbr4 := Lib.hid hlr4
                clear hvv3 hlr4
                obtain ⟨q0, q1, q2, q3, q4⟩ := cells5 (HYU.out.block_eq HK.out (fun h => by have := h.2; omega))
                have hS : Mem w (Y3.setCell ⟨wr.heap.size, 2, none⟩ (.int .i64 b3)) _ _ _ _ ∧ Upd (Vs w) wr (Y3.setCell ⟨wr.heap.size, 2, none⟩ (.int .i64 b3)) ∧ (Y3.setCell ⟨wr.heap.size, 2, none⟩ (.int .i64 b3)).heap[wr.heap.size]? = some (.cells #[.int .i64 b1, .int .i64 b2, .int .i64 b3] 53 (0, 0)) := step_set HYM.out HYU.out HYK.out hgb (Nat.le_refl _) 2 (.int .i64 b3)
                obtain ⟨hM, hU, hK⟩ := hS
                have hO3 := HO.out.upd hU (fun i hi => by have := hi.2; omega)
                have hKn := hU.block_eq HK.out (fun h => by have := h.2; omega)
                have HZM3 := Lib.hid hM; have HZU3 := Lib.hid hU; have HZK3 := Lib.hid hK; have HO3 := Lib.hid hO3; have HKn := Lib.hid hKn
                clear hM hU hK hO3 hKn HYM HYU HYK
                go_upto_region 33 with (fail)
                generalize Y3.setCell ⟨wr.heap.size, 2, none⟩ (.int .i64 b3) = Z at *
                obtain ⟨p0, p1, p2, p3, p4⟩ := cells5 HKn.out
                obtain ⟨j0, j1, j2⟩ := cells3 HZK3.out
                have hlZ := lt_of_block HZK3.out
                clear q0 q1 q2 q3 q4 zk k0 k1 k2
                have hnx : some Wn.heap.size ≠ vb.ownBlock := fun e => by have := HO3.out.new _ e.symm; omega
                have Hnx := Lib.hid hnx
                clear hnx
                go_wp2_with (at_builtin; (with_reducible refine etB.wpList1 (n := bl.length) (HO3.out.own.alloc _) (heap_alloc_new _ _) rfl (by simp [Value.oneCell']) (by omega) (by unfold maxLen; omega) rfl (.tmp 99) (.tmp 101) rfl rfl rfl ?_); intro g1 cap1 w8 hown1 hgrow hat hlt1; have hKn8 := grown_block hgrow HKn.out Hnx.out; have z8 := free_all hKn8 3; obtain ⟨v0, v1, v2, v3, v4⟩ := cells5 hKn8)
                go_roundw
                case rel =>
                  obtain ⟨hM8, hU8⟩ := step_app HZM3.out (HU.out.trans HZU3.out) hgrow (B := X4.heap.size) (by omega) (by omega) (fun k hk => HO3.out.new k hk)
                  have hS : Mem w (w8.setCell ⟨Wn.heap.size, 3, none⟩ (.slice (some ⟨g1, 0, none⟩) (bl.length + 1) cap1)) _ _ _ _ ∧ Upd (Vs w) wo (w8.setCell ⟨Wn.heap.size, 3, none⟩ (.slice (some ⟨g1, 0, none⟩) (bl.length + 1) cap1)) ∧ (w8.setCell ⟨Wn.heap.size, 3, none⟩ (.slice (some ⟨g1, 0, none⟩) (bl.length + 1) cap1)).heap[Wn.heap.size]? = some (.cells #[.string (mk (txtV t0)), .bool (m1 == 1), .int .i64 m2, .slice (some ⟨g1, 0, none⟩) (bl.length + 1) cap1, .int .i64 m3] 51 (0, 0)) := step_set hM8 hU8 hKn8 hgn hr3 3 _
                  have hB8 := HB.out.next
                  rw [← Hs1.out, Hbr2.out, Hbr3.out, Hbr4.out, Hbv1.out, Hbv2.out, Hbv3.out] at hB8
                  have hg1 : X4.heap.size ≤ g1 := by
                    rcases hat with e | e
                    · exact HO3.out.new _ e
                    · simp at e; omega
                  exact ⟨j + 1, bl ++ [⟨b1, b2, b3⟩], _, s4, _, by go_num, hjn, hS.1, hS.2.1, hS.2.2, ⟨by rw [List.length_append, flatB, List.flatMap_append]; exact ownsRow_setCell_other hown1 (fun e => by simp [Value.ownBlock] at e; omega) _, fun g hg => by cases hg; exact hg1⟩, hB8, by have := hgrow.size; simp at this ⊢; omega⟩
                case measure => simp [intOf]; omega
              · obtain ⟨av, cv, rfl, -, -, -⟩ := rd_cellsB HO.out.rd
                have hend : fb = true → j = m4.toNat := fun hf => by
                  rcases hways with ⟨-, e⟩ | e
                  · rw [hf] at e; cases e
                  · have := of_decide_eq_false e; omega
                have hN : NodI f0 t (k + 1) (q ++ [⟨mk (txtV t0), m1 == 1, m2, bl, .slice av bl.length cv, m3⟩]) (partP true qs) fb := by
                  have h5 : r5 = numR (numR (numR (numR (txtR t0)))) := by rw [Hlr1.out, Hlr2.out, Hlr3.out, Hlr4.out, Hlr5.out]
                  have hf : f6 = (partF true qs && txtK t0 && numK (txtR t0) && numK (numR (txtR t0)) && numK (numR (numR (txtR t0))) && numK (numR (numR (numR (txtR t0))))) := by rw [Hf6.out, Hf2.out, Hf1.out, Hlr1.out, Hlr2.out, Hlr3.out, Hlr4.out]
                  have e4 : numV (numR (numR (numR (txtR t0)))) = m4 := by rw [Hlr1.out, Hlr2.out, Hlr3.out, Hlr4.out, Hvv4.out]
                  have hn := HI.out.next (t := t0) Hidem.out (bl := bl) (left := lf) (fine := fb) (j := j) (v := .slice av bl.length cv) (by rw [← h5, ← hf]; exact HB.out) (by rw [e4]; exact hj) (fun h => by rw [e4]; exact hend h)
                  have e1 : numV (txtR t0) = m1 := by rw [Hlr1.out, Hvv1.out]
                  have e2 : numV (numR (txtR t0)) = m2 := by rw [Hlr1.out, Hlr2.out, Hvv2.out]
                  have e3 : numV (numR (numR (txtR t0))) = m3 := by rw [Hlr1.out, Hlr2.out, Hlr3.out, Hvv3.out]
                  rw [e1, e2, e3] at hn
                  have hd : decide (m1 = 1) = (m1 == 1) := by rw [Bool.beq_eq_decide_eq]
                  rw [hd] at hn
                  exact hn
                have hXo := HX.out.upd HU.out (fun i hi => by have := hi.2; omega)
                have hbl7 := HO.out.up (w := W7) (by omega)
                have hlf' : lf.length ≤ 10000000 := by omega
                have HN := Lib.hid hN; have HXo := Lib.hid hXo; have Hb7 := Lib.hid hbl7
                obtain ⟨k0, k1, k2, k3, k4⟩ := cells5 HK.out
                obtain ⟨r0', r1', r2', r3', r4', r5'⟩ := cells6 HM.out.R
                clear hN hXo hbl7 hend
                rcases hways with ⟨e1, rfl⟩ | e1
                all_goals
                  go_wp2_with (at_builtin; (with_reducible refine etN.wpList1 (n := q.length) (HXo.out.own.alloc _) (heap_alloc_new _ _) rfl (by simp [Value.oneCell']) (by omega) (by unfold maxLen; omega) rfl (.tmp 105) (.tmp 107) rfl rfl rfl ?_); intro g1 cap1 w8 hown1 hgrow hat hlt1; have hM8 := step_appM HM.out hgrow (B := W7.heap.size) (by omega) (fun k hk => HXo.out.new k hk); have z8 := free_all hM8.R 4; obtain ⟨v0, v1, v2, v3, v4, v5⟩ := cells6 hM8.R)
                  go_roundw
                  case rel =>
                    have hM9 : Mem w (w8.setCell ⟨w.heap.size + 1, 4, none⟩ (.slice (some ⟨g1, 0, none⟩) (q.length + 1) cap1)) _ #[.int .i64 n1, .int .i64 n2, .int .i64 n3, .int .i64 n4, .slice (some ⟨g1, 0, none⟩) (q.length + 1) cap1, .slice none 0 0] _ _ := hM8.setR 4 _
                    have hsn := OwnX.snoc (x := ⟨mk (txtV t0), m1 == 1, m2, bl, .slice av bl.length cv, m3⟩) HXo.out Hb7.out (by omega) hown1 hgrow hat
                    exact ⟨k + 1, _, _, _, lf, _, _, by go_num, hkn, hlf', hM9, HRd1.out, hsn.upd (F := Vs w) ((Upd.refl _ _).setCell (.inl ⟨by simp, by simp⟩) _) (fun i hi => by have := hi.2; omega), HN.out, by have := hgrow.size; simp at this ⊢; omega⟩
                  case measure => simp [intOf]; omega
        · have hend : f = true → k = n5.toNat := fun hf => by
            rcases hways with ⟨-, e⟩ | e
            · rw [hf] at e; cases e
            · have := of_decide_eq_false e; omega
          obtain ⟨wz, rfl⟩ : ∃ wz : World, wz = wr := ⟨_, rfl⟩
          have hL0 : Lease.OwnL wz wz (.slice none 0 0) [] := ⟨World.ownsRow_nil _ _ _ _, fun g h => by simp [Value.ownBlock] at h⟩
          have HL0 := Lib.hid hL0; have Hend := Lib.hid hend; have HXz := HX
          clear hL0 hend
          rcases hways with ⟨e1, rfl⟩ | e1
          · go_wp2_with (fail)
            go_loopw [17] (fun vi wr => ∃ (i : Nat) (ql : List Lease.Le) (qt : List ByteArray) (g : Bool) (m : Bs) (vp' vl : Value), vi = .int .i64 i ∧ i ≤ n6.toNat ∧ m.length ≤ 10000000 ∧ Mem w wr vp' #[.int .i64 n1, .int .i64 n2, .int .i64 n3, .int .i64 n4, vn, vl] g m ∧ Rd w 1 Path.encS vp' qt ∧ OwnX W7 wr vn q ∧ Lease.OwnL wz wr vl ql ∧ LeaI false qs i ql qt g ∧ wz.heap.size ≤ wr.heap.size) (fun vi _ => n6.toNat - (intOf vi).toNat)
            case atStart => exact ⟨0, [], qs, false, l, vp, _, rfl, Nat.zero_le _, hl, HM.out, HRd.out, HX.out, HL0.out, LeaI.start _ _, Nat.le_refl _⟩
            case round =>
              obtain ⟨i, ql, qt, g, m, vp', vl, rfl, hi, hm, hM', hRd', hX', hL', hI', hszw⟩ := hrel
              obtain ⟨c2, c3, z2, z3, z1⟩ := hM'.cell
              have HM' := Lib.hid hM'; have HRd' := Lib.hid hRd'; have HX' := Lib.hid hX'; have HL' := Lib.hid hL'; have HI' := Lib.hid hI'
              clear hM' hRd' hX' hL' hI' c3 z3
              have hways2 : (decide ((i : Int) < n6) = true ∧ g = true) ∨ (decide ((i : Int) < n6) = true ∧ g = false) ∨ (decide ((i : Int) < n6) = false) := by
                cases g
                · cases decide ((i : Int) < n6) <;> simp
                · cases decide ((i : Int) < n6) <;> simp
              rcases hways2 with ⟨e1, rfl⟩ | hways2
              · have hI1 := HI'.out
                have hqs1 : ∀ p ∈ qt, (bs p).length ≤ 10000000 := fun p hp => Hts.out p (HI.out.sub p (hI1.sub p hp))
                have hqsl : qs.length ≤ t.length := by have := (HI.out.yes (hI1.yes rfl).1).2.2; omega
                have hln : ql.length ≤ 1000010 := by have := hI1.len; have := hI1.few; omega
                have hin : i + 1 ≤ n6.toNat := by have := of_decide_eq_true e1; omega
                have hin2 : (i : Int) < n6 := of_decide_eq_true e1
                have hpart := mpart_calls HM'.out HRd'.out
                have hl0 := partL_len (f := true) hqs1 hm
                have hidem := partL_idem qt m
                have Hpart := Lib.hid hpart; have Hidem := Lib.hid hidem
                clear hpart hidem hqs1 hI1
                go_wp2_with (fail)
                refine Hpart.out.mono ?_
                rintro e V0 ⟨rfl, ⟨vp1, hM1, hRd1⟩, hU1⟩
                generalize hgt : partL true qt m = t0 at *
                obtain ⟨f1, hf1⟩ : ∃ b, b = partF true qt := ⟨_, rfl⟩
                rw [← hf1] at hM1
                have hgb := hM1.lt
                have hsV := hU1.size
                have hA := hM1.up ((Below.refl V0.heap.size V0).alloc (Nat.le_refl _) (.cells #[.int .i64 0, .int .i64 0] 55 (0, 0)))
                have hAU : Upd (Vs w) wr (V0.alloc (.cells #[.int .i64 0, .int .i64 0] 55 (0, 0))) := hU1.alloc _
                have hAK := heap_alloc_new V0 (.cells #[.int .i64 0, .int .i64 0] 55 (0, 0))
                have HA := Lib.hid hA; have HAU := Lib.hid hAU; have HAK := Lib.hid hAK; have HRd1 := Lib.hid hRd1; have Hf1 := Lib.hid hf1
                have hgn : w.heap.size + 4 ≤ V0.heap.size := by omega
                clear hM1 hU1 hA hAU hAK hRd1 hf1 Hpart hgt c2 z2 z1
                go_wp2_with (fail)
                refine (mnum_calls HA.out hl0).mono ?_
                rintro e V1 ⟨rfl, hM, hU⟩
                obtain ⟨hU', hK⟩ := step_num HAU.out hU HAK.out hgn
                have hls2 := Nat.le_trans (numR_len t0) hl0
                have zk := free_all hK 0
                obtain ⟨k0, k1⟩ := cells2 hK
                have HYM := Lib.hid hM; have HYU := Lib.hid hU'; have HYK := Lib.hid hK
                clear hM hU hU' hK
                generalize hvv1 : numV t0 = b1 at *
                generalize hlr2 : numR t0 = s2 at *
                have Hbv1 := Lib.hid hvv1; have Hbr2 := Lib.hid hlr2
                clear hvv1 hlr2
                go_wp2_with (fail)
                have hS : Mem w (V1.setCell ⟨V0.heap.size, 0, none⟩ (.int .i64 b1)) _ _ _ _ ∧ Upd (Vs w) wr (V1.setCell ⟨V0.heap.size, 0, none⟩ (.int .i64 b1)) ∧ (V1.setCell ⟨V0.heap.size, 0, none⟩ (.int .i64 b1)).heap[V0.heap.size]? = some (.cells #[.int .i64 b1, .int .i64 0] 55 (0, 0)) := step_set HYM.out HYU.out HYK.out hgn hsV 0 (.int .i64 b1)
                obtain ⟨hM, hU, hK⟩ := hS
                have HZM1 := Lib.hid hM; have HZU1 := Lib.hid hU; have HZK1 := Lib.hid hK
                clear hM hU hK zk k0 k1 HYM HYU HYK
                refine (mnum_calls HZM1.out hls2).mono ?_
                rintro e V2 ⟨rfl, hM, hU⟩
                obtain ⟨hU', hK⟩ := step_num HZU1.out hU HZK1.out hgn
                have hls3 := Nat.le_trans (numR_len s2) hls2
                have zk := free_all hK 1
                obtain ⟨k0, k1⟩ := cells2 hK
                have HYM := Lib.hid hM; have HYU := Lib.hid hU'; have HYK := Lib.hid hK
                obtain ⟨q0, q1, q2, q3, q4, q5⟩ := cells6 hM.R
                have hlV2 := lt_of_block hK
                clear hM hU hU' hK
                generalize hvv2 : numV s2 = b2 at *
                generalize hlr3 : numR s2 = s3 at *
                have Hbv2 := Lib.hid hvv2; have Hbr3 := Lib.hid hlr3
                clear hvv2 hlr3
                have hS : Mem w (V2.setCell ⟨V0.heap.size, 1, none⟩ (.int .i64 b2)) _ _ _ _ ∧ Upd (Vs w) wr (V2.setCell ⟨V0.heap.size, 1, none⟩ (.int .i64 b2)) ∧ (V2.setCell ⟨V0.heap.size, 1, none⟩ (.int .i64 b2)).heap[V0.heap.size]? = some (.cells #[.int .i64 b1, .int .i64 b2] 55 (0, 0)) := step_set HYM.out HYU.out HYK.out hgn hsV 1 (.int .i64 b2)
                obtain ⟨hM, hU, hK⟩ := hS
                have HZM2 := Lib.hid hM; have HZU2 := Lib.hid hU; have HZK2 := Lib.hid hK
                have hL3 := ownL_upd HL'.out hU (fun i hi => by have := hi.2; omega)
                have hX3 := HX'.out.upd hU (fun i hi => by have := hi.2; omega)
                have HL3 := Lib.hid hL3; have HX3 := Lib.hid hX3
                clear hM hU hK hL3 hX3 HYM HYU HYK
                go_upto_region 42 with (fail)
                generalize V2.setCell ⟨V0.heap.size, 1, none⟩ (.int .i64 b2) = Z at *
                obtain ⟨q0, q1, q2, q3, q4, q5⟩ := cells6 HZM2.out.R
                obtain ⟨j0, j1⟩ := cells2 HZK2.out
                have hlZ := lt_of_block HZK2.out
                go_wp2_with (at_builtin; (with_reducible refine Lease.etLe.wpList1 (n := ql.length) (HL3.out.own.alloc _) (heap_alloc_new _ _) rfl (by simp [Value.oneCell']) (by omega) (by unfold maxLen; omega) rfl (.tmp 127) (.tmp 129) rfl rfl rfl ?_); intro g1 cap1 w8 hown1 hgrow hat hlt1; have hM8 := step_appM HZM2.out hgrow (B := wz.heap.size) (by omega) (fun k hk => HL3.out.new k hk); have z8 := free_all hM8.R 5; obtain ⟨v0, v1, v2, v3, v4, v5⟩ := cells6 hM8.R)
                go_roundw
                case rel =>
                  have hM9 : Mem w (w8.setCell ⟨w.heap.size + 1, 5, none⟩ (.slice (some ⟨g1, 0, none⟩) (ql.length + 1) cap1)) _ #[.int .i64 n1, .int .i64 n2, .int .i64 n3, .int .i64 n4, vn, .slice (some ⟨g1, 0, none⟩) (ql.length + 1) cap1] _ _ := hM8.setR 5 _
                  have hg1 : wz.heap.size ≤ g1 := by
                    rcases hat with e | e
                    · exact HL3.out.new _ e
                    · simp at e; have := HZU2.out.size; omega
                  have hN := HI'.out.next (t := t0) Hidem.out
                  rw [← Hf1.out, Hbv1.out, Hbr2.out, Hbv2.out] at hN
                  have hU9 : Upd (fun k => wz.heap.size ≤ k ∨ Vs w k) Z (w8.setCell ⟨w.heap.size + 1, 5, none⟩ (.slice (some ⟨g1, 0, none⟩) (ql.length + 1) cap1)) := (((Upd.refl _ _).alloc _).grown hgrow (fun k hk => .inl (.inl (HL3.out.new k hk)))).setCell (.inl (.inr ⟨by simp, by simp⟩)) _
                  have hX9 := ownX_keep HX3.out HXz.out hU9 hlt7
                  exact ⟨i + 1, _, _, _, s3, _, _, by go_num, hin, hls3, hM9, HRd1.out, hX9, ⟨by rw [List.length_append, Lease.flatL, List.flatMap_append]; exact ownsRow_setCell_other hown1 (fun e => by simp [Value.ownBlock] at e; omega) _, fun g hg => by cases hg; exact hg1⟩, hN, by have := hgrow.size; have := HZU2.out.size; simp at this ⊢; omega⟩
                case measure => simp [intOf]; omega
              · have hend2 : g = true → i = n6.toNat := fun hf => by
                  rcases hways2 with ⟨-, e⟩ | e
                  · rw [hf] at e; cases e
                  · have := of_decide_eq_false e; omega
                obtain ⟨avn, cvn, hvn, -, -, -⟩ := rd_cellsN HX'.out.rd.rd
                obtain ⟨avl, cvl, hvl, -, -, -⟩ := Lease.rd_cells (Rd.of_own Lease.encL_len HL'.out.own)
                subst hvn hvl
                obtain ⟨q0, q1, q2, q3, q4, q5⟩ := cells6 HM'.out.R
                have hfin := read_end (h := bs p) Hh.out Hl1e.out Hlr1.out Hlr2.out Hlr3.out Hlr4.out Hlr5.out Hvr1.out Hvr2.out Hvr3.out Hvr4.out Hvr5.out Hvr6.out Hf0.out HI.out hk Hend.out HI'.out hi hend2
                have Hfin := Lib.hid hfin
                clear hend2 hfin
                cases g with
                | true =>
                  have e1 : decide ((i : Int) < n6) = false := by
                    rcases hways2 with ⟨-, e⟩ | e
                    · cases e
                    · exact e
                  clear hways2
                  go_wp2_with (fail)
                  go_region
                  all_goals
                    go_wp2_with (fail)
                    have M1 := (((((((HM'.out.setR 0 (.int .i64 n1)).setR 1 (.int .i64 n2)).setR 2 (.int .i64 n3)).setR 3 (.int .i64 n4)).setR 4 (.slice avn q.length cvn)).setR 5 (.slice avl ql.length cvl)).setF true)
                    have M2 := M1.up ((Below.refl _ _).drew)
                    have U1 := ((((((((Upd.refl (Vs w) wr).setCell (p := ⟨w.heap.size + 1, 0, none⟩) (.inl ⟨by simp, by simp⟩) (.int .i64 n1)).setCell (p := ⟨w.heap.size + 1, 1, none⟩) (.inl ⟨by simp, by simp⟩) (.int .i64 n2)).setCell (p := ⟨w.heap.size + 1, 2, none⟩) (.inl ⟨by simp, by simp⟩) (.int .i64 n3)).setCell (p := ⟨w.heap.size + 1, 3, none⟩) (.inl ⟨by simp, by simp⟩) (.int .i64 n4)).setCell (p := ⟨w.heap.size + 1, 4, none⟩) (.inl ⟨by simp, by simp⟩) (.slice avn q.length cvn)).setCell (p := ⟨w.heap.size + 1, 5, none⟩) (.inl ⟨by simp, by simp⟩) (.slice avl ql.length cvl)).setCell (p := ⟨w.heap.size + 2, 0, none⟩) (.inl ⟨by simp, by simp⟩) (.bool true)).drew
                    refine bodyPost_ret (v := .tuple #[.agg #[.int .i64 n1, .int .i64 n2, .int .i64 n3, .int .i64 n4, .slice avn q.length cvn, .slice avl ql.length cvl], .bool true]) (results_read _ _ _ _ _ _ rfl rfl M2.R M2.F rfl) rfl ?_
                    obtain ⟨h1, h2, h3⟩ := Hfin.out.1 trivial
                    exact ⟨.inl ⟨⟨n1, n2, n3, n4, q, ql, .slice avn q.length cvn, .slice avl ql.length cvl⟩, rfl, h1, (HX'.out.upd U1 (fun i hi => by have := hi.2; omega)).up (by omega), ownL_up (ownL_upd HL'.out U1 (fun i hi => by have := hi.2; omega)) (by omega), h2, h3⟩, M2.below⟩
                | false =>
                  rcases hways2 with ⟨e1, -⟩ | e1
                  all_goals
                    go_wp2_with (fail)
                    go_region
                    all_goals
                      go_wp2_with (fail)
                      have M1 := (((((((HM'.out.setR 0 (.int .i64 n1)).setR 1 (.int .i64 n2)).setR 2 (.int .i64 n3)).setR 3 (.int .i64 n4)).setR 4 (.slice avn q.length cvn)).setR 5 (.slice avl ql.length cvl)).setF false)
                      have M2 := M1.up ((Below.refl _ _).drew)
                      have U1 := ((((((((Upd.refl (Vs w) wr).setCell (p := ⟨w.heap.size + 1, 0, none⟩) (.inl ⟨by simp, by simp⟩) (.int .i64 n1)).setCell (p := ⟨w.heap.size + 1, 1, none⟩) (.inl ⟨by simp, by simp⟩) (.int .i64 n2)).setCell (p := ⟨w.heap.size + 1, 2, none⟩) (.inl ⟨by simp, by simp⟩) (.int .i64 n3)).setCell (p := ⟨w.heap.size + 1, 3, none⟩) (.inl ⟨by simp, by simp⟩) (.int .i64 n4)).setCell (p := ⟨w.heap.size + 1, 4, none⟩) (.inl ⟨by simp, by simp⟩) (.slice avn q.length cvn)).setCell (p := ⟨w.heap.size + 1, 5, none⟩) (.inl ⟨by simp, by simp⟩) (.slice avl ql.length cvl)).setCell (p := ⟨w.heap.size + 2, 0, none⟩) (.inl ⟨by simp, by simp⟩) (.bool false)).drew
                      refine bodyPost_ret (v := .tuple #[.agg #[.int .i64 n1, .int .i64 n2, .int .i64 n3, .int .i64 n4, .slice avn q.length cvn, .slice avl ql.length cvl], .bool false]) (results_read _ _ _ _ _ _ rfl rfl M2.R M2.F rfl) rfl ?_
                      exact ⟨.inr ⟨Hfin.out.2 trivial, ⟨n1, n2, n3, n4, q, ql, .slice avn q.length cvn, .slice avl ql.length cvl⟩, rfl, ⟨_, _, _, rfl⟩, _, _, _, rfl⟩, M2.below⟩
          · go_wp2_with (fail)
            go_loopw [17] (fun vi wr => ∃ (i : Nat) (ql : List Lease.Le) (qt : List ByteArray) (g : Bool) (m : Bs) (vp' vl : Value), vi = .int .i64 i ∧ i ≤ n6.toNat ∧ m.length ≤ 10000000 ∧ Mem w wr vp' #[.int .i64 n1, .int .i64 n2, .int .i64 n3, .int .i64 n4, vn, vl] g m ∧ Rd w 1 Path.encS vp' qt ∧ OwnX W7 wr vn q ∧ Lease.OwnL wz wr vl ql ∧ LeaI f qs i ql qt g ∧ wz.heap.size ≤ wr.heap.size) (fun vi _ => n6.toNat - (intOf vi).toNat)
            case atStart => exact ⟨0, [], qs, f, l, vp, _, rfl, Nat.zero_le _, hl, HM.out, HRd.out, HX.out, HL0.out, LeaI.start _ _, Nat.le_refl _⟩
            case round =>
              obtain ⟨i, ql, qt, g, m, vp', vl, rfl, hi, hm, hM', hRd', hX', hL', hI', hszw⟩ := hrel
              obtain ⟨c2, c3, z2, z3, z1⟩ := hM'.cell
              have HM' := Lib.hid hM'; have HRd' := Lib.hid hRd'; have HX' := Lib.hid hX'; have HL' := Lib.hid hL'; have HI' := Lib.hid hI'
              clear hM' hRd' hX' hL' hI' c3 z3
              have hways2 : (decide ((i : Int) < n6) = true ∧ g = true) ∨ (decide ((i : Int) < n6) = true ∧ g = false) ∨ (decide ((i : Int) < n6) = false) := by
                cases g
                · cases decide ((i : Int) < n6) <;> simp
                · cases decide ((i : Int) < n6) <;> simp
              rcases hways2 with ⟨e1, rfl⟩ | hways2
              · have hI1 := HI'.out
                have hqs1 : ∀ p ∈ qt, (bs p).length ≤ 10000000 := fun p hp => Hts.out p (HI.out.sub p (hI1.sub p hp))
                have hqsl : qs.length ≤ t.length := by have := (HI.out.yes (hI1.yes rfl).1).2.2; omega
                have hln : ql.length ≤ 1000010 := by have := hI1.len; have := hI1.few; omega
                have hin : i + 1 ≤ n6.toNat := by have := of_decide_eq_true e1; omega
                have hin2 : (i : Int) < n6 := of_decide_eq_true e1
                have hpart := mpart_calls HM'.out HRd'.out
                have hl0 := partL_len (f := true) hqs1 hm
                have hidem := partL_idem qt m
                have Hpart := Lib.hid hpart; have Hidem := Lib.hid hidem
                clear hpart hidem hqs1 hI1
                go_wp2_with (fail)
                refine Hpart.out.mono ?_
                rintro e V0 ⟨rfl, ⟨vp1, hM1, hRd1⟩, hU1⟩
                generalize hgt : partL true qt m = t0 at *
                obtain ⟨f1, hf1⟩ : ∃ b, b = partF true qt := ⟨_, rfl⟩
                rw [← hf1] at hM1
                have hgb := hM1.lt
                have hsV := hU1.size
                have hA := hM1.up ((Below.refl V0.heap.size V0).alloc (Nat.le_refl _) (.cells #[.int .i64 0, .int .i64 0] 55 (0, 0)))
                have hAU : Upd (Vs w) wr (V0.alloc (.cells #[.int .i64 0, .int .i64 0] 55 (0, 0))) := hU1.alloc _
                have hAK := heap_alloc_new V0 (.cells #[.int .i64 0, .int .i64 0] 55 (0, 0))
                have HA := Lib.hid hA; have HAU := Lib.hid hAU; have HAK := Lib.hid hAK; have HRd1 := Lib.hid hRd1; have Hf1 := Lib.hid hf1
                have hgn : w.heap.size + 4 ≤ V0.heap.size := by omega
                clear hM1 hU1 hA hAU hAK hRd1 hf1 Hpart hgt c2 z2 z1
                go_wp2_with (fail)
                refine (mnum_calls HA.out hl0).mono ?_
                rintro e V1 ⟨rfl, hM, hU⟩
                obtain ⟨hU', hK⟩ := step_num HAU.out hU HAK.out hgn
                have hls2 := Nat.le_trans (numR_len t0) hl0
                have zk := free_all hK 0
                obtain ⟨k0, k1⟩ := cells2 hK
                have HYM := Lib.hid hM; have HYU := Lib.hid hU'; have HYK := Lib.hid hK
                clear hM hU hU' hK
                generalize hvv1 : numV t0 = b1 at *
                generalize hlr2 : numR t0 = s2 at *
                have Hbv1 := Lib.hid hvv1; have Hbr2 := Lib.hid hlr2
                clear hvv1 hlr2
                go_wp2_with (fail)
                have hS : Mem w (V1.setCell ⟨V0.heap.size, 0, none⟩ (.int .i64 b1)) _ _ _ _ ∧ Upd (Vs w) wr (V1.setCell ⟨V0.heap.size, 0, none⟩ (.int .i64 b1)) ∧ (V1.setCell ⟨V0.heap.size, 0, none⟩ (.int .i64 b1)).heap[V0.heap.size]? = some (.cells #[.int .i64 b1, .int .i64 0] 55 (0, 0)) := step_set HYM.out HYU.out HYK.out hgn hsV 0 (.int .i64 b1)
                obtain ⟨hM, hU, hK⟩ := hS
                have HZM1 := Lib.hid hM; have HZU1 := Lib.hid hU; have HZK1 := Lib.hid hK
                clear hM hU hK zk k0 k1 HYM HYU HYK
                refine (mnum_calls HZM1.out hls2).mono ?_
                rintro e V2 ⟨rfl, hM, hU⟩
                obtain ⟨hU', hK⟩ := step_num HZU1.out hU HZK1.out hgn
                have hls3 := Nat.le_trans (numR_len s2) hls2
                have zk := free_all hK 1
                obtain ⟨k0, k1⟩ := cells2 hK
                have HYM := Lib.hid hM; have HYU := Lib.hid hU'; have HYK := Lib.hid hK
                obtain ⟨q0, q1, q2, q3, q4, q5⟩ := cells6 hM.R
                have hlV2 := lt_of_block hK
                clear hM hU hU' hK
                generalize hvv2 : numV s2 = b2 at *
                generalize hlr3 : numR s2 = s3 at *
                have Hbv2 := Lib.hid hvv2; have Hbr3 := Lib.hid hlr3
                clear hvv2 hlr3
                have hS : Mem w (V2.setCell ⟨V0.heap.size, 1, none⟩ (.int .i64 b2)) _ _ _ _ ∧ Upd (Vs w) wr (V2.setCell ⟨V0.heap.size, 1, none⟩ (.int .i64 b2)) ∧ (V2.setCell ⟨V0.heap.size, 1, none⟩ (.int .i64 b2)).heap[V0.heap.size]? = some (.cells #[.int .i64 b1, .int .i64 b2] 55 (0, 0)) := step_set HYM.out HYU.out HYK.out hgn hsV 1 (.int .i64 b2)
                obtain ⟨hM, hU, hK⟩ := hS
                have HZM2 := Lib.hid hM; have HZU2 := Lib.hid hU; have HZK2 := Lib.hid hK
                have hL3 := ownL_upd HL'.out hU (fun i hi => by have := hi.2; omega)
                have hX3 := HX'.out.upd hU (fun i hi => by have := hi.2; omega)
                have HL3 := Lib.hid hL3; have HX3 := Lib.hid hX3
                clear hM hU hK hL3 hX3 HYM HYU HYK
                go_upto_region 42 with (fail)
                generalize V2.setCell ⟨V0.heap.size, 1, none⟩ (.int .i64 b2) = Z at *
                obtain ⟨q0, q1, q2, q3, q4, q5⟩ := cells6 HZM2.out.R
                obtain ⟨j0, j1⟩ := cells2 HZK2.out
                have hlZ := lt_of_block HZK2.out
                go_wp2_with (at_builtin; (with_reducible refine Lease.etLe.wpList1 (n := ql.length) (HL3.out.own.alloc _) (heap_alloc_new _ _) rfl (by simp [Value.oneCell']) (by omega) (by unfold maxLen; omega) rfl (.tmp 127) (.tmp 129) rfl rfl rfl ?_); intro g1 cap1 w8 hown1 hgrow hat hlt1; have hM8 := step_appM HZM2.out hgrow (B := wz.heap.size) (by omega) (fun k hk => HL3.out.new k hk); have z8 := free_all hM8.R 5; obtain ⟨v0, v1, v2, v3, v4, v5⟩ := cells6 hM8.R)
                go_roundw
                case rel =>
                  have hM9 : Mem w (w8.setCell ⟨w.heap.size + 1, 5, none⟩ (.slice (some ⟨g1, 0, none⟩) (ql.length + 1) cap1)) _ #[.int .i64 n1, .int .i64 n2, .int .i64 n3, .int .i64 n4, vn, .slice (some ⟨g1, 0, none⟩) (ql.length + 1) cap1] _ _ := hM8.setR 5 _
                  have hg1 : wz.heap.size ≤ g1 := by
                    rcases hat with e | e
                    · exact HL3.out.new _ e
                    · simp at e; have := HZU2.out.size; omega
                  have hN := HI'.out.next (t := t0) Hidem.out
                  rw [← Hf1.out, Hbv1.out, Hbr2.out, Hbv2.out] at hN
                  have hU9 : Upd (fun k => wz.heap.size ≤ k ∨ Vs w k) Z (w8.setCell ⟨w.heap.size + 1, 5, none⟩ (.slice (some ⟨g1, 0, none⟩) (ql.length + 1) cap1)) := (((Upd.refl _ _).alloc _).grown hgrow (fun k hk => .inl (.inl (HL3.out.new k hk)))).setCell (.inl (.inr ⟨by simp, by simp⟩)) _
                  have hX9 := ownX_keep HX3.out HXz.out hU9 hlt7
                  exact ⟨i + 1, _, _, _, s3, _, _, by go_num, hin, hls3, hM9, HRd1.out, hX9, ⟨by rw [List.length_append, Lease.flatL, List.flatMap_append]; exact ownsRow_setCell_other hown1 (fun e => by simp [Value.ownBlock] at e; omega) _, fun g hg => by cases hg; exact hg1⟩, hN, by have := hgrow.size; have := HZU2.out.size; simp at this ⊢; omega⟩
                case measure => simp [intOf]; omega
              · have hend2 : g = true → i = n6.toNat := fun hf => by
                  rcases hways2 with ⟨-, e⟩ | e
                  · rw [hf] at e; cases e
                  · have := of_decide_eq_false e; omega
                obtain ⟨avn, cvn, hvn, -, -, -⟩ := rd_cellsN HX'.out.rd.rd
                obtain ⟨avl, cvl, hvl, -, -, -⟩ := Lease.rd_cells (Rd.of_own Lease.encL_len HL'.out.own)
                subst hvn hvl
                obtain ⟨q0, q1, q2, q3, q4, q5⟩ := cells6 HM'.out.R
                have hfin := read_end (h := bs p) Hh.out Hl1e.out Hlr1.out Hlr2.out Hlr3.out Hlr4.out Hlr5.out Hvr1.out Hvr2.out Hvr3.out Hvr4.out Hvr5.out Hvr6.out Hf0.out HI.out hk Hend.out HI'.out hi hend2
                have Hfin := Lib.hid hfin
                clear hend2 hfin
                cases g with
                | true =>
                  have e1 : decide ((i : Int) < n6) = false := by
                    rcases hways2 with ⟨-, e⟩ | e
                    · cases e
                    · exact e
                  clear hways2
                  go_wp2_with (fail)
                  go_region
                  all_goals
                    go_wp2_with (fail)
                    have M1 := (((((((HM'.out.setR 0 (.int .i64 n1)).setR 1 (.int .i64 n2)).setR 2 (.int .i64 n3)).setR 3 (.int .i64 n4)).setR 4 (.slice avn q.length cvn)).setR 5 (.slice avl ql.length cvl)).setF true)
                    have M2 := M1.up ((Below.refl _ _).drew)
                    have U1 := ((((((((Upd.refl (Vs w) wr).setCell (p := ⟨w.heap.size + 1, 0, none⟩) (.inl ⟨by simp, by simp⟩) (.int .i64 n1)).setCell (p := ⟨w.heap.size + 1, 1, none⟩) (.inl ⟨by simp, by simp⟩) (.int .i64 n2)).setCell (p := ⟨w.heap.size + 1, 2, none⟩) (.inl ⟨by simp, by simp⟩) (.int .i64 n3)).setCell (p := ⟨w.heap.size + 1, 3, none⟩) (.inl ⟨by simp, by simp⟩) (.int .i64 n4)).setCell (p := ⟨w.heap.size + 1, 4, none⟩) (.inl ⟨by simp, by simp⟩) (.slice avn q.length cvn)).setCell (p := ⟨w.heap.size + 1, 5, none⟩) (.inl ⟨by simp, by simp⟩) (.slice avl ql.length cvl)).setCell (p := ⟨w.heap.size + 2, 0, none⟩) (.inl ⟨by simp, by simp⟩) (.bool true)).drew
                    refine bodyPost_ret (v := .tuple #[.agg #[.int .i64 n1, .int .i64 n2, .int .i64 n3, .int .i64 n4, .slice avn q.length cvn, .slice avl ql.length cvl], .bool true]) (results_read _ _ _ _ _ _ rfl rfl M2.R M2.F rfl) rfl ?_
                    obtain ⟨h1, h2, h3⟩ := Hfin.out.1 trivial
                    exact ⟨.inl ⟨⟨n1, n2, n3, n4, q, ql, .slice avn q.length cvn, .slice avl ql.length cvl⟩, rfl, h1, (HX'.out.upd U1 (fun i hi => by have := hi.2; omega)).up (by omega), ownL_up (ownL_upd HL'.out U1 (fun i hi => by have := hi.2; omega)) (by omega), h2, h3⟩, M2.below⟩
                | false =>
                  rcases hways2 with ⟨e1, -⟩ | e1
                  all_goals
                    go_wp2_with (fail)
                    go_region
                    all_goals
                      go_wp2_with (fail)
                      have M1 := (((((((HM'.out.setR 0 (.int .i64 n1)).setR 1 (.int .i64 n2)).setR 2 (.int .i64 n3)).setR 3 (.int .i64 n4)).setR 4 (.slice avn q.length cvn)).setR 5 (.slice avl ql.length cvl)).setF false)
                      have M2 := M1.up ((Below.refl _ _).drew)
                      have U1 := ((((((((Upd.refl (Vs w) wr).setCell (p := ⟨w.heap.size + 1, 0, none⟩) (.inl ⟨by simp, by simp⟩) (.int .i64 n1)).setCell (p := ⟨w.heap.size + 1, 1, none⟩) (.inl ⟨by simp, by simp⟩) (.int .i64 n2)).setCell (p := ⟨w.heap.size + 1, 2, none⟩) (.inl ⟨by simp, by simp⟩) (.int .i64 n3)).setCell (p := ⟨w.heap.size + 1, 3, none⟩) (.inl ⟨by simp, by simp⟩) (.int .i64 n4)).setCell (p := ⟨w.heap.size + 1, 4, none⟩) (.inl ⟨by simp, by simp⟩) (.slice avn q.length cvn)).setCell (p := ⟨w.heap.size + 1, 5, none⟩) (.inl ⟨by simp, by simp⟩) (.slice avl ql.length cvl)).setCell (p := ⟨w.heap.size + 2, 0, none⟩) (.inl ⟨by simp, by simp⟩) (.bool false)).drew
                      refine bodyPost_ret (v := .tuple #[.agg #[.int .i64 n1, .int .i64 n2, .int .i64 n3, .int .i64 n4, .slice avn q.length cvn, .slice avl ql.length cvl], .bool false]) (results_read _ _ _ _ _ _ rfl rfl M2.R M2.F rfl) rfl ?_
                      exact ⟨.inr ⟨Hfin.out.2 trivial, ⟨n1, n2, n3, n4, q, ql, .slice avn q.length cvn, .slice avl ql.length cvl⟩, rfl, ⟨_, _, _, rfl⟩, _, _, _, rfl⟩, M2.below⟩
    · have hf3 := hp
      rw [decide_eq_false hh] at hf3
      have Hp := Lib.hid hf3
      have hno := readP_head (t := t.map bs) hh
      have Hno := Lib.hid hno
      rw [hms] at c3
      clear hp hf3 hh Hpre hno
      go_wp2_with (fail)
      rw [← hms]
      refine Hp.out.mono ?_
      rintro e W1 ⟨rfl, rfl⟩
      rw [hms]
      go_wp2_with (fail)
      have M1 := ((((((HM1.out.setR 0 (.int .i64 0)).setR 1 (.int .i64 0)).setR 2 (.int .i64 0)).setR 3 (.int .i64 0)).setR 4 (.slice none 0 0)).setR 5 (.slice none 0 0)).setF false
      refine bodyPost_ret (v := .tuple #[.agg #[.int .i64 0, .int .i64 0, .int .i64 0, .int .i64 0, .slice none 0 0, .slice none 0 0], .bool false]) (results_read _ _ _ _ _ _ rfl rfl M1.R M1.F rfl) rfl ?_
      exact ⟨.inr ⟨Hno.out, ⟨0, 0, 0, 0, [], [], .slice none 0 0, .slice none 0 0⟩, rfl, ⟨_, _, _, rfl⟩, _, _, _, rfl⟩, M1.below⟩
end Go.Proofs.YtgpddngbccecfaaDoor.Image
