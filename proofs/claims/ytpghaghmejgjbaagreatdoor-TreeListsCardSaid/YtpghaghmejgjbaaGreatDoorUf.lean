/- Trees (chapter 7), plain: TreeLists. -/
import Derived.Test.YtpghaghmejgjbaaGreatDoorUc
namespace Go.Proofs.YtpghaghmejgjbaaGreatDoor.Tree
open Go.RowKit
open Path (Bs bs mk bs_mk mk_bs tl_bs splitE splitL MaxC parD parE parN nameL)
set_option linter.unusedSimpArgs false
set_option linter.unusedVariables false

theorem lists_e {l : List Nd} (h : rightT l = true) {x : Nd} (hx : x ∈ l) : listE l (bs x.path) = if x.dir = true then 0 else 7 := by
  rw [listE, if_pos ⟨h, right_splits h hx⟩, mem_find h hx]
/-- What a name of a directory stands for. -/
theorem child_path {l : List Nd} (h : rightT l = true) {p : Bs} {y : Nd} (hy : y ∈ childL l p) : y ∈ l ∧ inD p ++ bs (nameOf y) = bs y.path := by
  obtain ⟨h1, h2⟩ := List.mem_filter.1 hy
  have hl := tail_in h1
  obtain ⟨h3, _⟩ := path_form (right_splits h hl) (tail_ne h h1)
  have h2' : parD (bs y.path) = p := by simpa using h2
  refine ⟨hl, ?_⟩
  rw [nameOf, bs_mk, ← h2']
  exact h3.symm
theorem child_file {l : List Nd} (h : rightT l = true) {x : Nd} (hx : x ∈ l) (hd : x.dir = false) : childL l (bs x.path) = [] := by
  rw [childL, List.filter_eq_nil_iff]
  intro y hy e
  obtain ⟨z, hz, hzp, hzd⟩ := par_in h hy
  have := same_node h hz hx (by rw [hzp]; simpa using e)
  rw [this, hd] at hzd; cases hzd
def cntL (l : List Nd) (k : Nat) : Nat := ((l.take k).map fun x => (childL l (bs x.path)).length).sum
theorem cnt_next {l : List Nd} {k : Nat} {x : Nd} (hx : l[k]? = some x) : cntL l (k + 1) = cntL l k + (childL l (bs x.path)).length := by
  rw [cntL, cntL, List.take_add_one, hx, List.map_append, List.sum_append]; rfl
theorem zero_sum (q : List Nd) : (q.map fun _ => 0).sum = 0 := by
  induction q with
  | nil => rfl
  | cons a t ih => rw [List.map_cons, List.sum_cons, ih]
theorem cnt_one {q : List Nd} (h : Rises q) {p : Bs} (hp : ∃ z ∈ q, bs z.path = p) : (q.map fun x => if (p == bs x.path) = true then 1 else 0).sum = 1 := by
  induction q with
  | nil => obtain ⟨z, hz, _⟩ := hp; cases hz
  | cons a t ih =>
    have h' := List.pairwise_cons.1 h
    rw [List.map_cons, List.sum_cons]
    by_cases e : p = bs a.path
    · have h0 : (t.map fun x => if (p == bs x.path) = true then 1 else 0).sum = 0 := by
        have : ∀ x ∈ t, (if (p == bs x.path) = true then 1 else 0) = 0 := fun x hx => by
          rw [if_neg]
          intro hc
          have h1 : p = bs x.path := by simpa using hc
          exact lt_ne (h'.1 x hx) (e.symm.trans h1)
        rw [List.map_congr_left this]
        exact zero_sum t
      rw [h0, if_pos (by simpa using e)]
    · rw [if_neg (by simpa using e), Nat.zero_add]
      refine ih h'.2 ?_
      obtain ⟨z, hz, hzp⟩ := hp
      rcases List.mem_cons.1 hz with rfl | hz
      · exact absurd hzp.symm e
      · exact ⟨z, hz, hzp⟩
theorem sum_add (q : List Nd) (f g : Nd → Nat) : (q.map fun x => f x + g x).sum = (q.map f).sum + (q.map g).sum := by
  induction q with
  | nil => rfl
  | cons a t ih => simp only [List.map_cons, List.sum_cons, ih]; omega
theorem cnt_swap {q : List Nd} (h : Rises q) : ∀ (t : List Nd), (∀ y ∈ t, ∃ z ∈ q, bs z.path = parD (bs y.path)) → (q.map fun x => (t.filter fun y => parD (bs y.path) == bs x.path).length).sum = t.length
  | [], _ => zero_sum q
  | y :: t, hp => by
    have e : (q.map fun x => ((y :: t).filter fun y => parD (bs y.path) == bs x.path).length).sum = (q.map fun x => (if (parD (bs y.path) == bs x.path) = true then 1 else 0) + (t.filter fun y => parD (bs y.path) == bs x.path).length).sum := by
      congr 1
      refine List.map_congr_left fun x _ => ?_
      rw [List.filter_cons]
      split
      · rw [List.length_cons]; omega
      · omega
    rw [e, sum_add, cnt_one h (hp y (List.mem_cons_self ..)), cnt_swap h t (fun y hy => hp y (List.mem_cons_of_mem _ hy)), List.length_cons]
    omega
theorem cnt_all {l : List Nd} (h : rightT l = true) : cntL l l.length + 1 = l.length := by
  rw [cntL, List.take_length]
  have h1 := cnt_swap (right_rises h) (l.drop 1) (fun y hy => by obtain ⟨z, hz, e, _⟩ := par_in h hy; exact ⟨z, hz, e⟩)
  have h2 : 0 < l.length := by obtain ⟨x, t, e, _⟩ := right_head h; rw [e]; simp
  have h3 : (l.map fun x => (childL l (bs x.path)).length).sum = (l.drop 1).length := h1
  rw [h3, List.length_drop]
  omega
theorem cnt_le {l : List Nd} (h : rightT l = true) (k : Nat) : cntL l k + 1 ≤ l.length := by
  have h1 := cnt_all h
  have h2 : cntL l l.length = cntL l k + ((l.drop k).map fun x => (childL l (bs x.path)).length).sum := by
    rw [cntL, cntL, List.take_length, ← List.sum_append, ← List.map_append, List.take_append_drop]
  omega
/-- The names of a directory, one by one. -/
theorem names_at {l : List Nd} (h : rightT l = true) {p : Bs} {j : Nat} {s : ByteArray} (hs : ((childL l p).map nameOf)[j]? = some s) : ∃ y ∈ l, inD p ++ bs s = bs y.path := by
  rw [List.getElem?_map] at hs
  obtain ⟨y, hy, rfl⟩ := Option.map_eq_some_iff.1 hs
  exact ⟨y, (child_path h (List.mem_of_getElem? hy)).1, (child_path h (List.mem_of_getElem? hy)).2⟩
theorem names_up {l : List Nd} (h : rightT l = true) {p : Bs} {j : Nat} {s t : ByteArray} (hs : ((childL l p).map nameOf)[j]? = some s) (ht : ((childL l p).map nameOf)[j + 1]? = some t) : ltB (bs s) (bs t) = true := by
  have := List.pairwise_iff_getElem.1 (names_rise h p)
  obtain ⟨h1, rfl⟩ := List.getElem?_eq_some_iff.1 hs
  obtain ⟨h2, rfl⟩ := List.getElem?_eq_some_iff.1 ht
  have := this j (j + 1) (by simpa using h1) (by simpa using h2) (by omega)
  simpa using this
theorem names_len {l : List Nd} (h : rightT l = true) {p : Bs} {j : Nat} {s : ByteArray} (hs : ((childL l p).map nameOf)[j]? = some s) : s.size ≤ 20 := by
  rw [List.getElem?_map] at hs
  obtain ⟨y, hy, rfl⟩ := Option.map_eq_some_iff.1 hs
  obtain ⟨h1, h2⟩ := List.mem_filter.1 (List.mem_of_getElem? hy)
  have := Path.name_len (path_form (right_splits h (tail_in h1)) (tail_ne h h1)).2.1
  rwa [nameOf, Path.mk_size]
end Go.Proofs.YtpghaghmejgjbaaGreatDoor.Tree
