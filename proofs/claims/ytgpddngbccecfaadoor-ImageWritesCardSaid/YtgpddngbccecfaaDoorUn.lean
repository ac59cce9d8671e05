/- Trees (chapter 7): the document's Copy; rows of nodes in memory of their own. -/
import Derived.Test.YtgpddngbccecfaaDoorGc
namespace Go.Proofs.YtgpddngbccecfaaDoor.Tree
open Go.RowKit
open Path (Bs bs mk bs_mk mk_bs tl_bs splitE splitL MaxC parD parE parN)
set_option linter.unusedSimpArgs false
set_option linter.unusedVariables false

/-- Rows joined: what is laid behind a row of the call's own. -/
theorem OwnX.join {w w' w8 : World} {v v' : Value} {q r : List Nd} {n : Nat} {xs : List Value} (hv : w'.ownsRow 0 51 5 v n xs) (hq : ∀ x ∈ q, OwnB w w' x.bv x.blocks) (hr : ∀ x ∈ r, OwnB w w' x.bv x.blocks) (hnew : ∀ g, v.ownBlock = some g → w.heap.size ≤ g) (hs : w.heap.size ≤ w'.heap.size)
    (own : w8.ownsRow 0 51 5 v' (q.length + r.length) (flatN q ++ flatN r)) (grow : w'.grownBy w8 v.ownBlock) (hat : v'.ownBlock = v.ownBlock ∨ v'.ownBlock = some w'.heap.size) : OwnX w w8 v' (q ++ r) := by
  refine ⟨?_, fun g hg => ?_, fun x hx => ?_⟩
  · rw [List.length_append, flatN, List.flatMap_append]; exact own
  · rcases hat with h | h
    · exact hnew g (h ▸ hg)
    · rw [h] at hg; cases hg; exact hs
  · have hb : OwnB w w' x.bv x.blocks := by
      rcases List.mem_append.1 hx with hx | hx
      · exact hq x hx
      · exact hr x hx
    exact hb.grown grow (apart hv hb)
theorem blk5c {w : World} {b : Nat} {v0 v1 v2 v3 v4 : Value} {t : TypeId} (h : w.heap[b]? = some (.cells #[v0, v1, v2, v3, v4] t (0, 0))) : w.cell? ⟨b, 0, none⟩ = some v0 ∧ w.cell? ⟨b, 1, none⟩ = some v1 ∧ w.cell? ⟨b, 2, none⟩ = some v2 ∧ w.cell? ⟨b, 3, none⟩ = some v3 ∧ w.cell? ⟨b, 4, none⟩ = some v4 :=
  ⟨cell_of_blk h, cell_of_blk h, cell_of_blk h, cell_of_blk h, cell_of_blk h⟩
theorem blk5z {w : World} {b : Nat} {cs : Array Value} {t : TypeId} (h : w.heap[b]? = some (.cells cs t (0, 0))) : w.frozen? ⟨b, 0, none⟩ = false ∧ w.frozen? ⟨b, 1, none⟩ = false ∧ w.frozen? ⟨b, 2, none⟩ = false ∧ w.frozen? ⟨b, 3, none⟩ = false ∧ w.frozen? ⟨b, 4, none⟩ = false :=
  ⟨free_of_blk h, free_of_blk h, free_of_blk h, free_of_blk h, free_of_blk h⟩
theorem store5 {w : World} (c b j : Nat) (u v0 v1 v2 v3 v4 : Value) {cs : Array Value} {t : TypeId} (h : w.heap[b]? = some (.cells cs t (0, 0))) (hne : b ≠ c) {u0 u1 u2 u3 u4 : Value} (hc : cs = #[u0, u1, u2, u3, u4] := by rfl) :
    ((((((w.setCell ⟨c, j, none⟩ u).setCell ⟨b, 0, none⟩ v0).setCell ⟨b, 1, none⟩ v1).setCell ⟨b, 2, none⟩ v2).setCell ⟨b, 3, none⟩ v3).setCell ⟨b, 4, none⟩ v4).heap[b]? = some (.cells #[v0, v1, v2, v3, v4] t (0, 0)) := by
  subst hc
  exact heap_setCell_same _ _ 4 _ _ v4 (heap_setCell_same _ _ 3 _ _ v3 (heap_setCell_same _ _ 2 _ _ v2 (heap_setCell_same _ _ 1 _ _ v1 (heap_setCell_same _ _ 0 _ _ v0 ((heap_setCell_other w ⟨c, j, none⟩ _ u hne).trans h)))))
theorem bv_one {w : World} {x : Nd} (h : Rd w 3 encB x.bv x.blocks) : x.bv.oneCell' = true := by
  obtain ⟨ao, cap, e⟩ := bv_slice h
  rw [e]; rfl
theorem pur_bv (x : Nd) (v : Value) : pur { x with bv := v } = pur x := rfl
/-- One node more behind a row of the call's own. -/
theorem OwnX.snoc {w w' w8 : World} {v : Value} {q : List Nd} {x : Nd} {g cap : Nat} {o : Obj} (hO : OwnX w w' v q) (hx : OwnB w w' x.bv x.blocks) (hs : w.heap.size ≤ w'.heap.size)
    (own : w8.ownsRow 0 51 5 (.slice (some ⟨g, 0, none⟩) (q.length + 1) cap) (q.length + 1) (flatN q ++ encN x)) (grow : (w'.alloc o).grownBy w8 v.ownBlock) (hat : v.ownBlock = some g ∨ g = (w'.alloc o).heap.size) : OwnX w w8 (.slice (some ⟨g, 0, none⟩) (q.length + 1) cap) (q ++ [x]) := by
  have hb := (Below.refl w'.heap.size w').alloc (Nat.le_refl _) o
  refine OwnX.join (r := [x]) (hO.own.alloc o) (fun y hy => (hO.bl y hy).below hb) (fun y hy => ?_) hO.new (Nat.le_trans hs hb.size) (by simpa [flatN] using own) grow ?_
  · rw [List.mem_singleton] at hy
    subst hy
    exact hx.below hb
  · rcases hat with h | h
    · exact .inl (by rw [h]; rfl)
    · exact .inr (by rw [h]; rfl)
theorem take_map {l : List Nd} {k : Nat} {x : Nd} (hx : l[k]? = some x) : (l.take (k + 1)).map pur = (l.take k).map pur ++ [pur x] := by
  rw [List.take_add_one, hx, List.map_append]; rfl
def CopyPost (w : World) (l : List Nd) (e : Ending) (w' : World) : Prop := (∃ v' q, e = .returned v' ∧ OwnX w w' v' q ∧ q.map pur = l.map pur) ∧ Below w.heap.size w w'
end Go.Proofs.YtgpddngbccecfaaDoor.Tree
