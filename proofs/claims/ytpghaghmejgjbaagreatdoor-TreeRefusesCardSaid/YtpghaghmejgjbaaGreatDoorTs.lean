/- Trees: tree.some, whatever the choice. -/
import Derived.Test.YtpghaghmejgjbaaGreatDoorTr
namespace Go.Proofs.YtpghaghmejgjbaaGreatDoor.Tree
open Go.RowKit
open Path (Bs bs mk bs_mk mk_bs tl_bs splitE splitL MaxC parD parE parN)
set_option linter.unusedSimpArgs false
set_option linter.unusedVariables false

theorem OwnB.upd {F : Nat → Prop} {w w' w'' : World} {v : Value} {q : List Bl} (h : OwnB w w' v q) (hu : Upd F w' w'') (hF : ∀ i, F i → i < w.heap.size) : OwnB w w'' v q :=
  ⟨hu.ownsRow h.own fun g hg hf => by have := hF g hf; have := h.new g hg; omega, h.new⟩
theorem OwnX.upd {F : Nat → Prop} {w w' w'' : World} {v : Value} {q : List Nd} (h : OwnX w w' v q) (hu : Upd F w' w'') (hF : ∀ i, F i → i < w.heap.size) : OwnX w w'' v q :=
  ⟨hu.ownsRow h.own fun g hg hf => by have := hF g hf; have := h.new g hg; omega, h.new, fun x hx => (h.bl x hx).upd hu hF⟩
theorem OwnX.alloc {w w' : World} {v : Value} {q : List Nd} (h : OwnX w w' v q) (o : Obj) : OwnX w (w'.alloc o) v q := h.below ((Below.refl _ _).alloc (Nat.le_refl _) _)
theorem OwnX.len {w w' : World} {v : Value} {q : List Nd} (h : OwnX w w' v q) {p : List Nd} (e : q.map pur = p) : q.length = p.length := by rw [← e, List.length_map]
theorem apart {w w' : World} {v u : Value} {n : Nat} {xs : List Value} {q : List Bl} (h : w'.ownsRow 0 25 5 v n xs) (hb : OwnB w w' u q) : u.ownBlock = none ∨ u.ownBlock ≠ v.ownBlock := by
  rcases hb.own with ⟨_, ⟨e, _⟩ | ⟨g', cap', cur', e, _, hg', _⟩⟩
  · exact .inl (by rw [e]; rfl)
  rcases h with ⟨_, ⟨e1, _⟩ | ⟨g, cap, cur, e1, _, hg, _⟩⟩
  · refine .inr ?_
    rw [e, e1]
    intro e2
    simp [Value.ownBlock] at e2
  · refine .inr ?_
    rw [e, e1]
    intro e2
    have : g' = g := by simpa [Value.ownBlock] using e2
    subst this
    rw [hg] at hg'
    have := congrArg (fun o => match o with | some (Obj.cells _ t _) => t | _ => 0) hg'
    simp at this
/-- What 'keep' does to the k-th of the nodes, among worlds that only F's blocks tell apart. -/
structure Choice (w : World) (F : Nat → Prop) (n : Nat) (cb : Array Value) (l : List Nd) (f : Nd → Nd) (b : Nd → Bool) (J : Nat → World → Prop) : Prop where
  calls : ∀ W, Upd F w W → ∀ k x, l[k]? = some x → J k W → Calls Tryz.prog n (#[.agg #[.string x.path, .bool x.dir, .int .i64 x.quota, x.bv, .int .i64 x.writer]] ++ cb) W fun e w' =>
    e = .returned (.tuple #[.agg #[.string (f x).path, .bool (f x).dir, .int .i64 (f x).quota, x.bv, .int .i64 (f x).writer], .bool (b x)]) ∧ Upd F W w' ∧ J (k + 1) w'
  keep : ∀ W W' k, J k W → (∀ i, F i → W'.heap[i]? = W.heap[i]?) → J k W'
  bl : ∀ x ∈ l, (f x).blocks = x.blocks
  old : ∀ i, F i → i < w.heap.size
  enters : ∀ args W, (callFunc n args).run Tryz.prog W = .ok (.enter n args) W
def preS (l : List Nd) (f : Nd → Nd) (b : Nd → Bool) (k : Nat) : List Nd := (((l.take k).filter b).map f).map pur
theorem preS_no {l : List Nd} {f : Nd → Nd} {b : Nd → Bool} {k : Nat} {x : Nd} (hx : l[k]? = some x) (h : b x = false) : preS l f b (k + 1) = preS l f b k := by
  rw [preS, preS, List.take_add_one, hx]; simp [h]
theorem preS_yes {l : List Nd} {f : Nd → Nd} {b : Nd → Bool} {k : Nat} {x : Nd} (hx : l[k]? = some x) (h : b x = true) : preS l f b (k + 1) = preS l f b k ++ [pur (f x)] := by
  rw [preS, preS, List.take_add_one, hx]; simp [h]
theorem preS_len (l : List Nd) (f : Nd → Nd) (b : Nd → Bool) (k : Nat) : (preS l f b k).length ≤ k := by
  simp only [preS, List.length_map]
  exact Nat.le_trans (List.length_filter_le _ _) (by rw [List.length_take]; omega)

set_option maxRecDepth 4000 in
set_option maxHeartbeats 8000000 in
theorem some_calls (w0 w : World) (F : Nat → Prop) (n : Nat) (cb : Array Value) (v : Value) (l : List Nd) (f : Nd → Nd) (b : Nd → Bool) (J : Nat → World → Prop) (hC : Choice w F n cb l f b J) (h : RdN w0 v l) (hb0 : Below w0.heap.size w0 w) (hF : ∀ i, F i → w0.heap.size ≤ i)
    (hn : l.length ≤ 1000000) (hbn : ∀ x ∈ l, x.blocks.length ≤ 5864062014805) (hne : ∃ x ∈ l, b x = true) (hJ : J 0 w) :
    Calls Tryz.prog 49 #[v, .func (.func n) #[] cb] w fun e w' => (∃ v' q, e = .returned v' ∧ OwnX w w' v' q ∧ (q.map pur).Perm (preS l f b l.length) ∧ Sorted q) ∧ Upd F w w' ∧ J l.length w' := by
  obtain ⟨ao, cap, rfl, hcap, _, hcell⟩ := rd_cellsN h.rd
  have hbl := h.bl
  have Hbl := Lib.hid hbl; have Hcell := Lib.hid hcell; have Hk := Lib.hid hC; have Hbn := Lib.hid hbn; have Hne := Lib.hid hne; have HF := Lib.hid hF
  clear hcell h hbl hC hbn hne hF
  generalize hm : l.length = m at *
  have Hm := Lib.hid hm
  clear hm
  have hJ0 := Lib.hid hJ; clear hJ
  go_enter Tryz.func49, Tryz.ntmps49
  go_wp2_with (fail)
  go_loopw [5, 12] (fun vo vk wr => ∃ k : Nat, vk = .int .i64 k ∧ k ≤ m ∧ (∃ q, OwnX w wr vo q ∧ q.map pur = preS l f b k) ∧ Upd F w wr ∧ J k wr) (fun _ vk _ => m - (intOf vk).toNat)
  case atStart => exact ⟨0, rfl, Nat.zero_le _, ⟨[], OwnX.nil _ _, rfl⟩, Upd.refl _ _, hJ0.out⟩
  case round =>
    obtain ⟨k, rfl, hk, ⟨q, hO, hq⟩, hU, hj⟩ := hrel
    have HO := Lib.hid hO; have Hq := Lib.hid hq; have Hj := Lib.hid hj
    clear hO hq hj
    have hB : Below w0.heap.size w0 wr := hb0.trans (hU.toBelow HF.out hb0.size)
    by_cases hlt : k < m
    · obtain ⟨x, hx⟩ : ∃ x, l[k]? = some x := ⟨l[k]'(by rw [Hm.out]; exact hlt), by rw [List.getElem?_eq_getElem]⟩
      obtain ⟨b', off', rfl, _, d0, d1, d2, d3, d4⟩ := Hcell.out wr hB k x hx
      have hxm := List.mem_of_getElem? hx
      obtain ⟨ax, cx, hbvx⟩ := bv_slice (Hbl.out x hxm)
      rw [hbvx] at d3
      have hU1 : Upd F w (wr.alloc (.cells #[.string x.path, .bool x.dir, .int .i64 x.quota, .slice ax x.blocks.length cx, .int .i64 x.writer] 25 (0, 0))) := hU.alloc _
      have hp := Hk.out.calls _ hU1 k x hx (Hk.out.keep _ _ _ Hj.out fun i hi => Below.heap_alloc _ _ _ (by have := Hk.out.old i hi; have := hU.size; omega))
      rw [hbvx] at hp
      have Hx := Lib.hid hx; have Hxm := Lib.hid hxm; have Hbv := Lib.hid hbvx
      clear hx hxm hbvx
      have eg := Hk.out.enters
      cases hbx : b x
      · rw [hbx] at hp
        have Hb := Lib.hid hbx; clear hbx
        go_wp2_with (fail)
        refine hp.mono ?_
        rintro e w4 ⟨rfl, hu4, hj4⟩
        have HJ4 := Lib.hid hj4; clear hj4
        go_wp2_with (fail)
        go_roundw
        case rel =>
          refine ⟨k + 1, by go_num, by omega, ⟨q, ((HO.out.alloc _).upd hu4 Hk.out.old).alloc _, ?_⟩, (hU1.trans hu4).alloc _, ?_⟩
          · rw [Hq.out, preS_no Hx.out Hb.out]
          · exact Hk.out.keep _ _ _ HJ4.out fun i hi => Below.heap_alloc _ _ _ (by have := Hk.out.old i hi; have := hU1.size; have := hu4.size; omega)
        case measure => simp [intOf]; omega
      · rw [hbx] at hp
        have Hb := Lib.hid hbx; clear hbx
        have hq1 : q.length ≤ k := by rw [HO.out.len Hq.out]; exact preS_len l f b k
        go_wp2_with (fail)
        refine hp.mono ?_
        rintro e w4 ⟨rfl, hu4, hj4⟩
        have HJ4 := Lib.hid hj4; clear hj4 hp
        have hU4 := hU1.trans hu4
        have hO4 := (HO.out.alloc (.cells #[.string x.path, .bool x.dir, .int .i64 x.quota, .slice ax x.blocks.length cx, .int .i64 x.writer] 25 (0, 0))).upd hu4 Hk.out.old
        have hU5 := hU4.alloc (.cells #[.string (f x).path, .bool (f x).dir, .int .i64 (f x).quota, .slice ax x.blocks.length cx, .int .i64 (f x).writer] 25 (0, 0))
        have hB5 : Below w0.heap.size w0 (w4.alloc (.cells #[.string (f x).path, .bool (f x).dir, .int .i64 (f x).quota, .slice ax x.blocks.length cx, .int .i64 (f x).writer] 25 (0, 0))) := hb0.trans (hU5.toBelow HF.out hb0.size)
        have hbx5 := (Hbl.out x Hxm.out).below hB5 (Nat.le_refl _)
        rw [Hbv.out] at hbx5
        have hcl := cloneB_calls _ _ x.blocks hbx5 (Hbn.out x Hxm.out)
        have HO4 := Lib.hid hO4; have Hcl := Lib.hid hcl
        clear hO4 hcl hbx5 hU1 hu4
        go_wp2_with (fail)
        refine Hcl.out.mono ?_
        rintro e w6 ⟨v6, rfl, ho6, hb6⟩
        have hblk : w6.heap[w4.heap.size]? = some (.cells #[.string (f x).path, .bool (f x).dir, .int .i64 (f x).quota, .slice ax x.blocks.length cx, .int .i64 (f x).writer] 25 (0, 0)) := (hb6.block _ (by simp)).trans (heap_alloc_new _ _)
        obtain ⟨a6, c6, rfl, _, _, _⟩ := rd_cellsB ho6.rd
        have g0 : w6.cell? ⟨w4.heap.size, 0, none⟩ = _ := cell_of_blk hblk
        have g1 : w6.cell? ⟨w4.heap.size, 1, none⟩ = _ := cell_of_blk hblk
        have g2 : w6.cell? ⟨w4.heap.size, 2, none⟩ = _ := cell_of_blk hblk
        have g3 : w6.cell? ⟨w4.heap.size, 3, none⟩ = _ := cell_of_blk hblk
        have g4 : w6.cell? ⟨w4.heap.size, 4, none⟩ = _ := cell_of_blk hblk
        have z3 : w6.frozen? ⟨w4.heap.size, 3, none⟩ = false := free_of_blk hblk
        simp only [List.getElem?_toArray, List.getElem?_cons_zero, List.getElem?_cons_succ] at g0 g1 g2 g3 g4
        have hb7 : Below w4.heap.size w4 (w6.setCell ⟨w4.heap.size, 3, none⟩ (.slice a6 x.blocks.length c6)) := (((Below.refl _ _).alloc (Nat.le_refl _) _).trans (hb6.mono (by simp))).setCell (Nat.le_refl _) _
        have ho7 : OwnX w (w6.setCell ⟨w4.heap.size, 3, none⟩ (.slice a6 x.blocks.length c6)) u5 q := HO4.out.below hb7
        have hob7 : OwnB (w4.alloc (.cells #[.string (f x).path, .bool (f x).dir, .int .i64 (f x).quota, .slice ax x.blocks.length cx, .int .i64 (f x).writer] 25 (0, 0))) (w6.setCell ⟨w4.heap.size, 3, none⟩ (.slice a6 x.blocks.length c6)) (.slice a6 x.blocks.length c6) x.blocks :=
          ⟨ownsRow_setCell_other ho6.own (fun hg => by have := ho6.new _ hg; simp at this; omega) _, ho6.new⟩
        have hnew : ∀ o, ((w6.setCell ⟨w4.heap.size, 3, none⟩ (.slice a6 x.blocks.length c6)).alloc o).heap[w6.heap.size]? = some o := fun o => by
          have := heap_alloc_new (w6.setCell ⟨w4.heap.size, 3, none⟩ (.slice a6 x.blocks.length c6)) o
          rwa [show (w6.setCell ⟨w4.heap.size, 3, none⟩ (.slice a6 x.blocks.length c6)).heap.size = w6.heap.size by simp [World.setCell]] at this
        have HO7 := Lib.hid ho7; have HB7 := Lib.hid hob7; have Hb7 := Lib.hid hb7
        have hown := ho7.own
        generalize hwq : q.length = n1 at *
        have HW := Lib.hid hown; have Hwq := Lib.hid hwq
        clear ho6 hblk Hcl ho7 hob7 hb7 hown hwq
        have hs6 : w4.heap.size + 1 ≤ w6.heap.size := by have := hb6.size; simpa using this
        go_wp2_with (at_builtin; (with_reducible refine etN.wpList1 (HW.out.alloc _) (hnew _) rfl (by simp [Value.oneCell']) (by omega) (by unfold maxLen; omega) rfl (.tmp 27) (.tmp 29) rfl rfl rfl ?_); intro g1 cap1 w8 hown1 hgrow hat hlt1)
        have hy : encN { f x with bv := .slice a6 x.blocks.length c6 } = [.string (f x).path, .bool (f x).dir, .int .i64 (f x).quota, .slice a6 x.blocks.length c6, .int .i64 (f x).writer] := rfl
        have hBs := Hk.out.bl x Hxm.out
        have hs4 : w.heap.size ≤ w4.heap.size := hU4.size
        have hs7 : w4.heap.size ≤ (w6.setCell ⟨w4.heap.size, 3, none⟩ (.slice a6 x.blocks.length c6)).heap.size := Hb7.out.size
        have hrow : ∀ k, u5.ownBlock = some k → w.heap.size ≤ k := fun k hk => HO7.out.new k hk
        have hB8 : Below w.heap.size w4 w8 := ((Hb7.out.mono hs4).alloc (by omega) _).grown hgrow (by simp; omega) hrow
        have hU8 : Upd F w w8 := (((hU4.trans (Upd.of_below Hb7.out F)).alloc _).grown hgrow fun k hk => .inr (hrow k hk))
        go_roundw
        case rel =>
          refine ⟨k + 1, by go_num, by omega, ⟨q ++ [{ f x with bv := .slice a6 x.blocks.length c6 }], ⟨?_, fun g hg => ?_, fun y hy' => ?_⟩, ?_⟩, hU8, Hk.out.keep _ _ _ HJ4.out fun i hi => hB8.block i (Hk.out.old i hi)⟩
          · rw [List.length_append, Hwq.out, flatN_snoc, hy]
            exact hown1
          · simp only [Value.ownBlock, Option.some.injEq] at hg
            subst hg
            rcases hat with h | h
            · exact hrow _ h
            · simp at h; omega
          · rcases List.mem_append.1 hy' with hy' | hy'
            · have h2 := (HO7.out.bl y hy').below ((Below.refl _ _).alloc (Nat.le_refl _) (.cells #[.string (f x).path, .bool (f x).dir, .int .i64 (f x).quota, .slice a6 x.blocks.length c6, .int .i64 (f x).writer] 25 (0, 0)))
              exact h2.grown hgrow (apart (HW.out.alloc _) h2)
            · rw [List.mem_singleton] at hy'
              subst hy'
              have h2 := (HB7.out.up (w := w) (by simp; omega)).below ((Below.refl _ _).alloc (Nat.le_refl _) (.cells #[.string (f x).path, .bool (f x).dir, .int .i64 (f x).quota, .slice a6 x.blocks.length c6, .int .i64 (f x).writer] 25 (0, 0)))
              show OwnB w w8 (.slice a6 x.blocks.length c6) (f x).blocks
              rw [hBs]
              exact h2.grown hgrow (apart (HW.out.alloc _) h2)
          · rw [List.map_append, Hq.out, preS_yes Hx.out Hb.out]
            rfl
        case measure => simp [intOf]; omega
    · obtain rfl : k = m := by omega
      have hqn : q ≠ [] := by
        intro e
        obtain ⟨x, hx, hbx⟩ := Hne.out
        have h1 := Hq.out
        rw [e, preS, ← Hm.out, List.take_length] at h1
        have h2 : x ∈ l.filter b := List.mem_filter.2 ⟨hx, hbx⟩
        cases h3 : l.filter b with
        | nil => rw [h3] at h2; cases h2
        | cons a t => rw [h3] at h1; cases h1
      have hq1 : q.length ≤ k := by rw [HO.out.len Hq.out]; exact preS_len l f b k
      have hs := sortN_calls w wr u5 q HO.out hqn (by omega) hU.size
      have Hs := Lib.hid hs
      clear hs
      go_wp2_with (fail)
      refine Hs.out.mono ?_
      rintro e w4 ⟨rfl, ⟨q', hp', hs', hO'⟩, hb4⟩
      go_wp2_with (fail)
      go_ret
      refine ⟨⟨_, _, rfl, hO', ?_, hs'⟩, hU.trans' (G := fun i => w.heap.size ≤ i) ⟨hb4.os, hb4.tape, hb4.output, hb4.size, fun i hi hg => hb4.block i (by omega)⟩ fun i hi => .inr hi, Hk.out.keep _ _ _ Hj.out fun i hi => hb4.block i (Hk.out.old i hi)⟩
      rw [← Hq.out]
      exact hp'.map pur
end Go.Proofs.YtpghaghmejgjbaaGreatDoor.Tree
