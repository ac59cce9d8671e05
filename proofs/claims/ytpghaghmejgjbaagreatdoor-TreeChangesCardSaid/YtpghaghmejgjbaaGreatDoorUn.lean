/- Trees (chapter 7): the document's Copy; rows of nodes in memory of their own. -/
import Derived.Test.YtpghaghmejgjbaaGreatDoorGc
namespace Go.Proofs.YtpghaghmejgjbaaGreatDoor.Tree
open Go.RowKit
open Path (Bs bs mk bs_mk mk_bs tl_bs splitE splitL MaxC parD parE parN)
set_option linter.unusedSimpArgs false
set_option linter.unusedVariables false

/-- Rows joined: what is laid behind a row of the call's own. -/
theorem OwnX.join {w w' w8 : World} {v v' : Value} {q r : List Nd} {n : Nat} {xs : List Value} (hv : w'.ownsRow 0 25 5 v n xs) (hq : ∀ x ∈ q, OwnB w w' x.bv x.blocks) (hr : ∀ x ∈ r, OwnB w w' x.bv x.blocks) (hnew : ∀ g, v.ownBlock = some g → w.heap.size ≤ g) (hs : w.heap.size ≤ w'.heap.size)
    (own : w8.ownsRow 0 25 5 v' (q.length + r.length) (flatN q ++ flatN r)) (grow : w'.grownBy w8 v.ownBlock) (hat : v'.ownBlock = v.ownBlock ∨ v'.ownBlock = some w'.heap.size) : OwnX w w8 v' (q ++ r) := by
  refine ⟨?_, fun g hg => ?_, fun x hx => ?_⟩
  · rw [List.length_append, flatN, List.flatMap_append]; exact own
  · rcases hat with h | h
    · exact hnew g (h ▸ hg)
    · rw [h] at hg; cases hg; exact hs
  · have hb : OwnB w w' x.bv x.blocks := by
      rcases List.mem_append.1 hx with hx | hx
      · exact hq x hx
      · exact hr x hx
    exact hb.grown grow (apart hv hb)
theorem blk5c {w : World} {b : Nat} {v0 v1 v2 v3 v4 : Value} {t : TypeId} (h : w.heap[b]? = some (.cells #[v0, v1, v2, v3, v4] t (0, 0))) : w.cell? ⟨b, 0, none⟩ = some v0 ∧ w.cell? ⟨b, 1, none⟩ = some v1 ∧ w.cell? ⟨b, 2, none⟩ = some v2 ∧ w.cell? ⟨b, 3, none⟩ = some v3 ∧ w.cell? ⟨b, 4, none⟩ = some v4 :=
  ⟨cell_of_blk h, cell_of_blk h, cell_of_blk h, cell_of_blk h, cell_of_blk h⟩
theorem blk5z {w : World} {b : Nat} {cs : Array Value} {t : TypeId} (h : w.heap[b]? = some (.cells cs t (0, 0))) : w.frozen? ⟨b, 0, none⟩ = false ∧ w.frozen? ⟨b, 1, none⟩ = false ∧ w.frozen? ⟨b, 2, none⟩ = false ∧ w.frozen? ⟨b, 3, none⟩ = false ∧ w.frozen? ⟨b, 4, none⟩ = false :=
  ⟨free_of_blk h, free_of_blk h, free_of_blk h, free_of_blk h, free_of_blk h⟩
theorem store5 {w : World} (c b j : Nat) (u v0 v1 v2 v3 v4 : Value) {cs : Array Value} {t : TypeId} (h : w.heap[b]? = some (.cells cs t (0, 0))) (hne : b ≠ c) {u0 u1 u2 u3 u4 : Value} (hc : cs = #[u0, u1, u2, u3, u4] := by rfl) :
    ((((((w.setCell ⟨c, j, none⟩ u).setCell ⟨b, 0, none⟩ v0).setCell ⟨b, 1, none⟩ v1).setCell ⟨b, 2, none⟩ v2).setCell ⟨b, 3, none⟩ v3).setCell ⟨b, 4, none⟩ v4).heap[b]? = some (.cells #[v0, v1, v2, v3, v4] t (0, 0)) := by
  subst hc
  exact heap_setCell_same _ _ 4 _ _ v4 (heap_setCell_same _ _ 3 _ _ v3 (heap_setCell_same _ _ 2 _ _ v2 (heap_setCell_same _ _ 1 _ _ v1 (heap_setCell_same _ _ 0 _ _ v0 ((heap_setCell_other w ⟨c, j, none⟩ _ u hne).trans h)))))
theorem bv_one {w : World} {x : Nd} (h : Rd w 3 encB x.bv x.blocks) : x.bv.oneCell' = true := by
  obtain ⟨ao, cap, e⟩ := bv_slice h
  rw [e]; rfl
set_option maxHeartbeats 4000000 in
theorem copy_calls (w : World) (x : Nd) (h : Rd w 3 encB x.bv x.blocks) (hn : x.blocks.length ≤ 5864062014805) :
    Calls Tryz.prog 55 #[.agg #[.string x.path, .bool x.dir, .int .i64 x.quota, x.bv, .int .i64 x.writer]] w fun e w' => (∃ v', e = .returned (.agg #[.string x.path, .bool x.dir, .int .i64 x.quota, v', .int .i64 x.writer]) ∧ OwnB w w' v' x.blocks) ∧ Below w.heap.size w w' := by
  have hfl := fun ad cap (hv : x.bv = .slice (some ad) x.blocks.length cap) => rd_flatB h hv
  obtain ⟨ax, cx, hbv, hcap, hcm, hcell⟩ := rd_cellsB h
  have Hfl := Lib.hid hfl; clear hfl h
  have Hcell := Lib.hid hcell; clear hcell
  rw [hbv]
  cases ax with
  | none =>
    have hl : x.blocks = [] := by
      cases hb : x.blocks with
      | nil => rfl
      | cons y t => obtain ⟨b, off, e, _⟩ := Hcell.out w (Below.refl _ _) 0 y (by rw [hb]; rfl); cases e
    rw [hl]
    clear Hcell Hfl hbv hl hcap
    go_enter Tryz.func55, Tryz.ntmps55
    go_wp2_with (fail)
    have b1 : Below w.heap.size w (w.alloc (.cells #[.string x.path, .bool x.dir, .int .i64 x.quota, .slice none 0 0, .int .i64 x.writer] 25 (0, 0))) := (Below.refl _ _).alloc (Nat.le_refl _) _
    have n1 := heap_alloc_new (w.alloc (.cells #[.string x.path, .bool x.dir, .int .i64 x.quota, .slice none 0 0, .int .i64 x.writer] 25 (0, 0))) (.cells #[.string x.path, .bool x.dir, .int .i64 x.quota, .slice none 0 0, .int .i64 x.writer] 25 (0, 0))
    refine bodyPost_ret (results_cell_row rfl _ _ (w.alloc (.cells #[.string x.path, .bool x.dir, .int .i64 x.quota, .slice none 0 0, .int .i64 x.writer] 25 (0, 0))).heap.size _ _ _ _ (by simp) n1 Tryz.underlying25 rfl (by kernel_rfl)) rfl ⟨⟨_, rfl, OwnB.nil _ _⟩, b1.alloc b1.size _⟩
  | some ad =>
    clear Hcell
    have b0 : Below w.heap.size w (w.alloc (.cells #[.string x.path, .bool x.dir, .int .i64 x.quota, .slice (some ad) x.blocks.length cx, .int .i64 x.writer] 25 (0, 0))) := (Below.refl _ _).alloc (Nat.le_refl _) _
    have b1 : Below w.heap.size w ((w.alloc (.cells #[.string x.path, .bool x.dir, .int .i64 x.quota, .slice (some ad) x.blocks.length cx, .int .i64 x.writer] 25 (0, 0))).alloc (.cells #[.string ⟨#[]⟩, .bool false, .int .i64 0, .slice none 0 0, .int .i64 0] 25 (0, 0))) := b0.alloc b0.size _
    have hfl := Hfl.out ad cx hbv _ b1
    have k0 : ((w.alloc (.cells #[.string x.path, .bool x.dir, .int .i64 x.quota, .slice (some ad) x.blocks.length cx, .int .i64 x.writer] 25 (0, 0))).alloc (.cells #[.string ⟨#[]⟩, .bool false, .int .i64 0, .slice none 0 0, .int .i64 0] 25 (0, 0))).heap[w.heap.size]? = some (.cells #[.string x.path, .bool x.dir, .int .i64 x.quota, .slice (some ad) x.blocks.length cx, .int .i64 x.writer] 25 (0, 0)) := (Below.alloc (Below.refl _ _) (Nat.le_refl _) _).block _ (by simp) |>.trans (heap_alloc_new _ _)
    have k1 : ((w.alloc (.cells #[.string x.path, .bool x.dir, .int .i64 x.quota, .slice (some ad) x.blocks.length cx, .int .i64 x.writer] 25 (0, 0))).alloc (.cells #[.string ⟨#[]⟩, .bool false, .int .i64 0, .slice none 0 0, .int .i64 0] 25 (0, 0))).heap[w.heap.size + 1]? = some (.cells #[.string ⟨#[]⟩, .bool false, .int .i64 0, .slice none 0 0, .int .i64 0] 25 (0, 0)) := by have := heap_alloc_new (w.alloc (.cells #[.string x.path, .bool x.dir, .int .i64 x.quota, .slice (some ad) x.blocks.length cx, .int .i64 x.writer] 25 (0, 0))) (.cells #[.string ⟨#[]⟩, .bool false, .int .i64 0, .slice none 0 0, .int .i64 0] 25 (0, 0)); simpa using this
    have Hf := Lib.hid hfl; have B1 := Lib.hid b1; have K0 := Lib.hid k0; have K1 := Lib.hid k1
    clear hfl b1 b0 Hfl hbv k0 k1
    go_enter Tryz.func55, Tryz.ntmps55
    go_wp2_with (at_builtin; (with_reducible refine etB.wpList_app (v := .slice none 0 0) (n := 0) (xs := []) (World.ownsRow_nil _ _ _ _) (m := x.blocks.length) (c := cx) (ao := some ad) (news := flatB x.blocks) (flatB_len x.blocks) (fun h => by cases h) (fun ad' h => by cases h; exact Hf.out) (flatB_one x.blocks) (by omega) (by unfold maxLen; omega) rfl (.const (.slice none 0 0)) (.tmp 4) rfl rfl rfl ?_); intro v1 w1 own1 grow1 at1 nil1; simp only [Nat.zero_add, List.nil_append] at own1; have q1 := (Below.refl _ _).grown grow1 (Nat.le_refl _) (fun k hk => by cases hk); have k0 := (q1.block _ (by simp; omega)).trans K0.out; have k1 := (q1.block _ (by simp)).trans K1.out; obtain ⟨a1, c1, rfl, -⟩ := own_slice own1; obtain ⟨g0, g1, g2, g3, g4⟩ := blk5c k0; obtain ⟨z0, z1, z2, z3, z4⟩ := blk5z k0; obtain ⟨o0, o1, o2, o3, o4⟩ := blk5c k1; obtain ⟨y0, y1, y2, y3, y4⟩ := blk5z k1; have Own1 := Lib.hid own1; have Grow1 := Lib.hid grow1; have At1 := Lib.hid at1; have KK := Lib.hid k1; have KK0 := Lib.hid k0; clear own1 grow1 at1 nil1 q1 k0 k1)
    have hne : w.heap.size + 1 ≠ w.heap.size := by omega
    have hs1 : w.heap.size + 2 ≤ w1.heap.size := by have := lt_of_block KK.out; omega
    have hW := store5 w.heap.size (w.heap.size + 1) 3 (.slice a1 x.blocks.length c1) (.string x.path) (.bool x.dir) (.int .i64 x.quota) (.slice a1 x.blocks.length c1) (.int .i64 x.writer) KK.out hne
    have b1 : Below w.heap.size w w1 := B1.out.grown Grow1.out (by simp; omega) (fun k hk => by cases hk)
    have hnew : ∀ g, (Value.slice a1 x.blocks.length c1).ownBlock = some g → w.heap.size + 2 ≤ g := fun g hg => by
      rcases At1.out with h | h
      · rw [h] at hg; cases hg
      · rw [h] at hg; simp at hg; omega
    have ho : ∀ (j k : Nat) (W : World) (u : Value), k < 2 → W.ownsRow 0 65 3 (.slice a1 x.blocks.length c1) x.blocks.length (flatB x.blocks) → (W.setCell ⟨w.heap.size + k, j, none⟩ u).ownsRow 0 65 3 (.slice a1 x.blocks.length c1) x.blocks.length (flatB x.blocks) := fun j k W u hk h =>
      ownsRow_setCell_other h (fun hg => by have := hnew _ hg; simp at this; omega) _
    refine bodyPost_ret (results_cell_row rfl _ _ (w.heap.size + 1) _ _ _ _ rfl hW Tryz.underlying25 rfl (by kernel_rfl)) rfl ⟨⟨_, rfl, ⟨?_, fun g hg => by have := hnew g hg; omega⟩⟩, ?_⟩
    · exact ho 4 1 _ _ (by omega) (ho 3 1 _ _ (by omega) (ho 2 1 _ _ (by omega) (ho 1 1 _ _ (by omega) (ho 0 1 _ _ (by omega) (ho 3 0 _ _ (by omega) Own1.out)))))
    · exact ((((((b1.setCell (Nat.le_refl _) _).setCell (Nat.le_succ _) _).setCell (Nat.le_succ _) _).setCell (Nat.le_succ _) _).setCell (Nat.le_succ _) _).setCell (Nat.le_succ _) _)
theorem pur_bv (x : Nd) (v : Value) : pur { x with bv := v } = pur x := rfl
/-- One node more behind a row of the call's own. -/
theorem OwnX.snoc {w w' w8 : World} {v : Value} {q : List Nd} {x : Nd} {g cap : Nat} {o : Obj} (hO : OwnX w w' v q) (hx : OwnB w w' x.bv x.blocks) (hs : w.heap.size ≤ w'.heap.size)
    (own : w8.ownsRow 0 25 5 (.slice (some ⟨g, 0, none⟩) (q.length + 1) cap) (q.length + 1) (flatN q ++ encN x)) (grow : (w'.alloc o).grownBy w8 v.ownBlock) (hat : v.ownBlock = some g ∨ g = (w'.alloc o).heap.size) : OwnX w w8 (.slice (some ⟨g, 0, none⟩) (q.length + 1) cap) (q ++ [x]) := by
  have hb := (Below.refl w'.heap.size w').alloc (Nat.le_refl _) o
  refine OwnX.join (r := [x]) (hO.own.alloc o) (fun y hy => (hO.bl y hy).below hb) (fun y hy => ?_) hO.new (Nat.le_trans hs hb.size) (by simpa [flatN] using own) grow ?_
  · rw [List.mem_singleton] at hy
    subst hy
    exact hx.below hb
  · rcases hat with h | h
    · exact .inl (by rw [h]; rfl)
    · exact .inr (by rw [h]; rfl)
theorem take_map {l : List Nd} {k : Nat} {x : Nd} (hx : l[k]? = some x) : (l.take (k + 1)).map pur = (l.take k).map pur ++ [pur x] := by
  rw [List.take_add_one, hx, List.map_append]; rfl
def CopyPost (w : World) (l : List Nd) (e : Ending) (w' : World) : Prop := (∃ v' q, e = .returned v' ∧ OwnX w w' v' q ∧ q.map pur = l.map pur) ∧ Below w.heap.size w w'
set_option maxRecDepth 4000 in
set_option maxHeartbeats 8000000 in
theorem all_calls (w : World) (v : Value) (l : List Nd) (h : RdN w v l) (hn : l.length ≤ 2199023255488) (hbn : ∀ x ∈ l, x.blocks.length ≤ 5864062014805) :
    Calls Tryz.prog 58 #[v] w (CopyPost w l) := by
  (have hcp := fun W (hW : Below w.heap.size w W) x (hx : x ∈ l) => copy_calls W x ((h.bl x hx).below hW (Nat.le_refl _)) (hbn x hx)); (have hbvs : ∀ x ∈ l, ∃ ao cap, x.bv = .slice ao x.blocks.length cap := fun x hx => bv_slice (h.bl x hx)); (obtain ⟨ao, cap, rfl, _, _, hcell⟩ := rd_cellsN h.rd); (have Hcell := Lib.hid hcell); (have Hcp := Lib.hid hcp); (have Hbvs := Lib.hid hbvs); (clear hcell hcp h hbn hbvs); (generalize hm : l.length = m at *); (have Hm := Lib.hid hm); (clear hm)
  go_enter Tryz.func58, Tryz.ntmps58
  (go_wp2_with (fail)); (go_loopw [3, 4] (fun vo vk wr => ∃ k : Nat, vk = .int .i64 k ∧ k ≤ m ∧ (∃ q, OwnX w wr vo q ∧ q.map pur = (l.take k).map pur) ∧ Below w.heap.size w wr) (fun _ vk _ => m - (intOf vk).toNat)); (case atStart => exact ⟨0, rfl, Nat.zero_le _, ⟨[], OwnX.nil _ _, rfl⟩, Below.refl _ _⟩); (case round => (obtain ⟨k, rfl, hk, ⟨q, hO, hq⟩, hb⟩ := hrel); (have hql : q.length ≤ k := by have h1 := congrArg List.length hq; rw [List.length_map, List.length_map, List.length_take] at h1; omega); (have HO := Lib.hid hO); (have Hq := Lib.hid hq); (clear hO hq); (by_cases hlt : k < m); (focus ((obtain ⟨x, hx⟩ : ∃ x, l[k]? = some x := ⟨l[k]'(by rw [Hm.out]; exact hlt), by rw [List.getElem?_eq_getElem]⟩); (obtain ⟨b', off', rfl, _, d0, d1, d2, d3, d4⟩ := Hcell.out wr hb k x hx); (have hxm := List.mem_of_getElem? hx); (obtain ⟨ax, cx, hbvx⟩ := Hbvs.out x hxm); (have hc := Hcp.out wr hb x hxm); (rw [hbvx] at d3 hc); (have Hx := Lib.hid hx); (clear hx hxm hbvx); (go_wp2_with (fail)); (refine hc.mono ?_); (rintro e w4 ⟨⟨v4, rfl, ho4⟩, hb4⟩); (clear hc d0 d1 d2 d3 d4); (have HO4 := Lib.hid (HO.out.below hb4)); (have Ho4 := Lib.hid ho4); (have B4 := hb.trans (hb4.mono hb.size)); (have hone : v4.oneCell' = true := bv_one (x := { x with bv := v4 }) ho4.rd); (obtain ⟨a4, c4, rfl, -, -, -⟩ := rd_cellsB ho4.rd); (clear ho4 hone); (generalize hwq : q.length = n1 at *); (have Hwq := Lib.hid hwq); (have HW := Lib.hid HO4.out.own); (rw [hwq] at HW); (clear hwq); (go_wp2_with (at_builtin; (with_reducible refine etN.wpList1 (HW.out.alloc _) (heap_alloc_new _ _) rfl (by simp [Value.oneCell']) (by omega) (by unfold maxLen; omega) rfl (.tmp 11) (.tmp 17) rfl rfl rfl ?_); intro g1 cap1 w8 hown1 hgrow hat hlt1)); (go_roundw); (case rel => (have hs := OwnX.snoc (x := { x with bv := .slice a4 x.blocks.length c4 }) HO4.out (Ho4.out.up hb.size) B4.size (by rw [Hwq.out]; exact hown1) hgrow hat); (exact ⟨k + 1, by go_num, by omega, ⟨_, by rw [Hwq.out] at hs; exact hs, by rw [List.map_append, Hq.out, take_map Hx.out]; rfl⟩, (B4.alloc B4.size _).grown hgrow (by have := B4.size; simp; omega) (fun g hg => HO4.out.new g hg)⟩)); (case measure => simp [intOf]; omega))); (focus ((obtain rfl : k = m := by omega); (go_wp2_with (fail)); go_ret; (exact ⟨⟨_, q, rfl, HO.out, by rw [Hq.out, ← Hm.out, List.take_length]⟩, hb⟩))))
set_option maxRecDepth 4000 in
set_option maxHeartbeats 8000000 in
theorem copied_calls (w : World) (v : Value) (l : List Nd) (h : RdN w v l) (hn : l.length ≤ 2199023255488) (hbn : ∀ x ∈ l, x.blocks.length ≤ 5864062014805) :
    Calls Tryz.prog 25 #[v] w (CopyPost w l) := by
  (have hcp := fun W (hW : Below w.heap.size w W) x (hx : x ∈ l) => copy_calls W x ((h.bl x hx).below hW (Nat.le_refl _)) (hbn x hx)); (have hbvs : ∀ x ∈ l, ∃ ao cap, x.bv = .slice ao x.blocks.length cap := fun x hx => bv_slice (h.bl x hx)); (obtain ⟨ao, cap, rfl, _, _, hcell⟩ := rd_cellsN h.rd); (have Hcell := Lib.hid hcell); (have Hcp := Lib.hid hcp); (have Hbvs := Lib.hid hbvs); (clear hcell hcp h hbn hbvs); (generalize hm : l.length = m at *); (have Hm := Lib.hid hm); (clear hm)
  go_enter Tryz.func25, Tryz.ntmps25
  (go_wp2_with (fail)); (go_loopw [3, 4] (fun vo vk wr => ∃ k : Nat, vk = .int .i64 k ∧ k ≤ m ∧ (∃ q, OwnX w wr vo q ∧ q.map pur = (l.take k).map pur) ∧ Below w.heap.size w wr) (fun _ vk _ => m - (intOf vk).toNat)); (case atStart => exact ⟨0, rfl, Nat.zero_le _, ⟨[], OwnX.nil _ _, rfl⟩, Below.refl _ _⟩); (case round => (obtain ⟨k, rfl, hk, ⟨q, hO, hq⟩, hb⟩ := hrel); (have hql : q.length ≤ k := by have h1 := congrArg List.length hq; rw [List.length_map, List.length_map, List.length_take] at h1; omega); (have HO := Lib.hid hO); (have Hq := Lib.hid hq); (clear hO hq); (by_cases hlt : k < m); (focus ((obtain ⟨x, hx⟩ : ∃ x, l[k]? = some x := ⟨l[k]'(by rw [Hm.out]; exact hlt), by rw [List.getElem?_eq_getElem]⟩); (obtain ⟨b', off', rfl, _, d0, d1, d2, d3, d4⟩ := Hcell.out wr hb k x hx); (have hxm := List.mem_of_getElem? hx); (obtain ⟨ax, cx, hbvx⟩ := Hbvs.out x hxm); (have hc := Hcp.out wr hb x hxm); (rw [hbvx] at d3 hc); (have Hx := Lib.hid hx); (clear hx hxm hbvx); (go_wp2_with (fail)); (refine hc.mono ?_); (rintro e w4 ⟨⟨v4, rfl, ho4⟩, hb4⟩); (clear hc d0 d1 d2 d3 d4); (have HO4 := Lib.hid (HO.out.below hb4)); (have Ho4 := Lib.hid ho4); (have B4 := hb.trans (hb4.mono hb.size)); (have hone : v4.oneCell' = true := bv_one (x := { x with bv := v4 }) ho4.rd); (obtain ⟨a4, c4, rfl, -, -, -⟩ := rd_cellsB ho4.rd); (clear ho4 hone); (generalize hwq : q.length = n1 at *); (have Hwq := Lib.hid hwq); (have HW := Lib.hid HO4.out.own); (rw [hwq] at HW); (clear hwq); (go_wp2_with (at_builtin; (with_reducible refine etN.wpList1 (HW.out.alloc _) (heap_alloc_new _ _) rfl (by simp [Value.oneCell']) (by omega) (by unfold maxLen; omega) rfl (.tmp 11) (.tmp 17) rfl rfl rfl ?_); intro g1 cap1 w8 hown1 hgrow hat hlt1)); (go_roundw); (case rel => (have hs := OwnX.snoc (x := { x with bv := .slice a4 x.blocks.length c4 }) HO4.out (Ho4.out.up hb.size) B4.size (by rw [Hwq.out]; exact hown1) hgrow hat); (exact ⟨k + 1, by go_num, by omega, ⟨_, by rw [Hwq.out] at hs; exact hs, by rw [List.map_append, Hq.out, take_map Hx.out]; rfl⟩, (B4.alloc B4.size _).grown hgrow (by have := B4.size; simp; omega) (fun g hg => HO4.out.new g hg)⟩)); (case measure => simp [intOf]; omega))); (focus ((obtain rfl : k = m := by omega); (go_wp2_with (fail)); go_ret; (exact ⟨⟨_, q, rfl, HO.out, by rw [Hq.out, ← Hm.out, List.take_length]⟩, hb⟩))))
end Go.Proofs.YtpghaghmejgjbaaGreatDoor.Tree
