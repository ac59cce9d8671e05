/- QuotaLess: the walk of the law. -/
import Derived.Test.YtbgeiebfjlgcmaaDoorQi
import Derived.Test.YtbgeiebfjlgcmaaDoorTm
namespace Go.Proofs.YtbgeiebfjlgcmaaDoor.Quota
open Go.RowKit
open Path (Bs bs mk bs_mk mk_bs tl_bs MaxC OwnS encS rd_cellsS underL)
open Tree
set_option linter.unusedSimpArgs false
set_option linter.unusedVariables false

theorem cnt_keys {l m : List Nd} (h : keys l = keys m) (p : Bs) : cntN l p = cntN m p := by
  have e : ∀ l : List Nd, cntN l p = ((keys l).filter (fun y => underL p y.1)).length := fun l => by
    rw [keys, List.filter_map, List.length_map]; rfl
  rw [e, e, h]
theorem dirAt_keys {l m : List Nd} (h : keys l = keys m) (p : Bs) : dirAt l p = dirAt m p := by
  have e : ∀ l : List Nd, dirAt l p = match (keys l).find? (fun y => y.1 == p) with
      | none => false
      | some y => y.2 := fun l => by
    rw [dirAt, keys, List.find?_map]
    have e : ((fun y : Bs × Bool => y.1 == p) ∘ fun x : Nd => (bs x.path, x.dir)) = fun y => bs y.path == p := rfl
    rw [e]
    cases l.find? (fun y => bs y.path == p) <;> rfl
  rw [e, e, h]
/-- Two trees that part in a quota, the first one's the less. -/
structure Less (a b : List Nd) (z : List (Nd × Nd)) : Prop where
  a : a = z.map (·.1)
  b : b = z.map (·.2)
  r : ∀ p ∈ z, p.1.path = p.2.path ∧ p.1.dir = p.2.dir ∧ (p.1.quota = p.2.quota ∨ 0 ≤ p.1.quota ∧ p.1.quota ≤ p.2.quota)
theorem Less.keys {a b : List Nd} {z : List (Nd × Nd)} (h : Less a b z) : keys a = keys b := by
  rw [h.a, h.b, Tree.keys, Tree.keys, List.map_map, List.map_map]
  refine List.map_congr_left fun p hp => ?_
  obtain ⟨h1, h2, _⟩ := h.r p hp
  show (bs p.1.path, p.1.dir) = (bs p.2.path, p.2.dir)
  rw [h1, h2]
theorem Less.over {a b : List Nd} {z : List (Nd × Nd)} (h : Less a b z) (ha : rightT a = true) (hb : rightT b = true) : (overL b).length ≤ (overL a).length := by
  rw [overL, overL, if_pos ha, if_pos hb, List.length_map, List.length_map]
  have hc := fun p => cnt_keys h.keys p
  have e1 : (a.filter (overP a)).length = z.countP (fun p => overP a p.1) := by
    rw [← List.countP_eq_length_filter]
    conv => lhs; arg 2; rw [h.a]
    exact List.countP_map
  have e2 : (b.filter (overP b)).length = z.countP (fun p => overP b p.2) := by
    rw [← List.countP_eq_length_filter]
    conv => lhs; arg 2; rw [h.b]
    exact List.countP_map
  rw [e1, e2]
  refine List.countP_mono_left fun p hp ho => ?_
  obtain ⟨h1, h2, h3⟩ := h.r p hp
  simp only [overP, Bool.and_eq_true, decide_eq_true_eq] at ho ⊢
  rw [h1, h2, hc]
  exact ⟨⟨ho.1.1, by omega⟩, by omega⟩
theorem Less.fold {a b : List Nd} (hc : ∀ p, cntN a p = cntN b p) (q : Bs) : ∀ (z : List (Nd × Nd)), (∀ p ∈ z, p.1.path = p.2.path ∧ p.1.dir = p.2.dir ∧ (p.1.quota = p.2.quota ∨ 0 ≤ p.1.quota ∧ p.1.quota ≤ p.2.quota)) → ∀ n m : Int, n ≤ m → (z.map (·.1)).foldl (roomStep a q) n ≤ (z.map (·.2)).foldl (roomStep b q) m
  | [], _, n, m, h => h
  | p :: z, hz, n, m, h => by
    simp only [List.map_cons, List.foldl_cons]
    refine Less.fold hc q z (fun p' hp' => hz p' (List.mem_cons_of_mem _ hp')) _ _ ?_
    obtain ⟨h1, _, h3⟩ := hz p (List.mem_cons_self ..)
    rw [roomStep, roomStep, h1, hc]
    cases hu : underL (bs p.2.path) q
    · simpa using h
    · simp only [and_true]
      by_cases h4 : 0 ≤ p.2.quota
      · have h5 : 0 ≤ p.1.quota := by omega
        rw [if_pos h4, if_pos h5]
        omega
      · have h5 : ¬ 0 ≤ p.1.quota := by omega
        rw [if_neg h4, if_neg h5]
        exact h
theorem Less.room {a b : List Nd} {z : List (Nd × Nd)} (h : Less a b z) (ha : rightT a = true) (hb : rightT b = true) (q : Bs) : roomT a q ≤ roomT b q := by
  rw [roomT, roomT, ha, hb, dirAt_keys h.keys]
  have hl := keys_len h.keys
  split
  · have : roomK a q a.length ≤ roomK b q b.length := by
      rw [roomK, roomK, List.take_length, List.take_length]
      have := Less.fold (cnt_keys h.keys) q z h.r (60 - a.length) (60 - b.length) (by omega)
      rwa [← h.a, ← h.b] at this
    omega
  · exact Int.le_refl _
def setQ (l : List Nd) (k : Nat) (x : Nd) (n : Int) : List Nd := l.set k { x with quota := n }
theorem setQ_less {l : List Nd} {k : Nat} {x : Nd} (hx : l[k]? = some x) {n m : Int} (h0 : 0 ≤ n) (hm : n ≤ m) : ∃ z, Less (setQ l k x n) (setQ l k x m) z := by
  refine ⟨(l.map fun y => (y, y)).set k ({ x with quota := n }, { x with quota := m }), ?_, ?_, fun p hp => ?_⟩
  · rw [List.map_set, List.map_map, setQ]
    congr 1
    conv => lhs; rw [← List.map_id l]
    rfl
  · rw [List.map_set, List.map_map, setQ]
    congr 1
    conv => lhs; rw [← List.map_id l]
    rfl
  · rcases List.mem_or_eq_of_mem_set hp with hp | rfl
    · obtain ⟨y, _, rfl⟩ := List.mem_map.1 hp
      exact ⟨rfl, rfl, .inl rfl⟩
    · exact ⟨rfl, rfl, .inr ⟨h0, hm⟩⟩
theorem setQ_keys {l : List Nd} {k : Nat} {x : Nd} (hx : l[k]? = some x) (n : Int) : keys (setQ l k x n) = keys l := by
  obtain ⟨hk, e⟩ := List.getElem?_eq_some_iff.1 hx
  subst e
  apply List.ext_getElem?
  intro i
  rw [keys_get, keys_get, setQ]
  by_cases e : i = k
  · subst e
    rw [List.getElem?_set_self hk]; simp [hk]
  · rw [List.getElem?_set_ne (fun h => e h.symm)]
theorem setQ_right {l : List Nd} {k : Nat} {x : Nd} (hx : l[k]? = some x) (hd : x.dir = true) (hr : rightT l = true) {n : Int} (h0 : 0 ≤ n) (hn : n ≤ 9007199254740991) : rightT (setQ l k x n) = true := by
  have hfit : ∀ y ∈ l, fitsN y = true := fun y hy => by
    simp only [rightT, rightA, Bool.and_eq_true] at hr
    obtain ⟨i, hi, rfl⟩ := List.mem_iff_getElem.1 hy
    exact (rightA_at (l := l) (fun j hj => List.all_eq_true.1 hr.1.2 j (List.mem_range.2 hj)) (k := i) (x := l[i]) (by simp [hi])).1
  refine right_keys (setQ_keys hx n) (fun y hy => ?_) hr
  rcases List.mem_or_eq_of_mem_set hy with hy | rfl
  · exact hfit y hy
  · have := hfit x (List.mem_of_getElem? hx)
    simp only [fitsN, hd, if_true, Bool.and_eq_true, decide_eq_true_eq] at this ⊢
    exact ⟨⟨⟨this.1.1.1, by omega⟩, this.1.2⟩, this.2.1, hn⟩
end Go.Proofs.YtbgeiebfjlgcmaaDoor.Quota
