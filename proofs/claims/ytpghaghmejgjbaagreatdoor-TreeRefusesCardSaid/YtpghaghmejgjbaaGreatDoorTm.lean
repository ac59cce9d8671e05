/- Trees: what hangs on paths and kinds alone; a quota that is set in a row of one's own. -/
import Derived.Test.YtpghaghmejgjbaaGreatDoorTl
namespace Go.Proofs.YtpghaghmejgjbaaGreatDoor.Tree
open Go.RowKit
open Path (Bs bs mk bs_mk mk_bs tl_bs splitE splitL MaxC parD parE parN)
set_option linter.unusedSimpArgs false
set_option linter.unusedVariables false

def keys (l : List Nd) : List (Bs × Bool) := l.map fun x => (bs x.path, x.dir)
theorem keys_get (l : List Nd) (k : Nat) : (keys l)[k]? = (l[k]?).map fun x => (bs x.path, x.dir) := by rw [keys, List.getElem?_map]
theorem keys_len {l m : List Nd} (h : keys l = keys m) : l.length = m.length := by
  have := congrArg List.length h
  simpa [keys] using this
theorem keys_at {l m : List Nd} (h : keys l = keys m) {k : Nat} {x : Nd} (hx : l[k]? = some x) : ∃ y, m[k]? = some y ∧ bs y.path = bs x.path ∧ y.dir = x.dir := by
  have h1 := keys_get l k
  rw [h, keys_get, hx] at h1
  obtain ⟨y, hy, e⟩ := Option.map_eq_some_iff.1 h1
  simp only [Prod.mk.injEq] at e
  exact ⟨y, hy, e.1, e.2⟩
theorem dirE_keys (l : List Nd) (p : Bs) : dirE l p = match (keys l).find? (fun y => y.1 == parD p) with
    | none => 5
    | some y => if y.2 = true then 0 else 7 := by
  rw [dirE, keys, List.find?_map]
  have e : ((fun y : Bs × Bool => y.1 == parD p) ∘ fun x : Nd => (bs x.path, x.dir)) = fun y => bs y.path == parD p := rfl
  rw [e]
  cases l.find? (fun y => bs y.path == parD p) <;> rfl
theorem right_keys {l m : List Nd} (h : keys m = keys l) (hf : ∀ x ∈ m, fitsN x = true) (hr : rightT l = true) : rightT m = true := by
  simp only [rightT, rightA, Bool.and_eq_true] at hr ⊢
  obtain ⟨⟨h1, h2⟩, h3⟩ := hr
  have hlen := keys_len h
  refine ⟨⟨?_, ?_⟩, ?_⟩
  · cases l with
    | nil => cases h1
    | cons x l =>
      cases m with
      | nil => simp at hlen
      | cons y m =>
        simp only [keys, List.map_cons, List.cons.injEq, Prod.mk.injEq] at h
        simp only [headOk, Bool.and_eq_true, decide_eq_true_eq] at h1 ⊢
        rw [h.1.1, h.1.2]
        exact ⟨⟨by omega, h1.1.2⟩, h1.2⟩
  · refine List.all_eq_true.2 fun k hk => ?_
    have hkm : k < m.length := List.mem_range.1 hk
    have hx : m[k]? = some m[k] := by simp [hkm]
    obtain ⟨x', hx', ep, ed⟩ := keys_at h hx
    have ho := (rightA_at (l := l) (fun j hj => List.all_eq_true.1 h2 j (List.mem_range.2 hj)) hx').2
    rw [okA, hx]
    simp only [Bool.and_eq_true]
    refine ⟨hf _ (List.getElem_mem hkm), ?_⟩
    cases k with
    | zero => rfl
    | succ j =>
      have hy : m[j]? = some m[j] := by simp [show j < m.length by omega]
      obtain ⟨y', hy', ep', _⟩ := keys_at h hy
      simp only [hy]
      rw [← ep', ← ep]
      exact ho j y' rfl hy'
  · rw [Bool.not_eq_true', List.any_eq_false] at h3 ⊢
    intro x hx
    obtain ⟨k, hk, rfl⟩ := List.mem_iff_getElem.1 hx
    rw [List.length_drop] at hk
    have hx1 : m[1 + k]? = some m[1 + k] := by simp [show 1 + k < m.length by omega]
    obtain ⟨x', hx', ep, _⟩ := keys_at h hx1
    have hm : x' ∈ l.drop 1 := List.mem_of_getElem? (i := k) (by rw [List.getElem?_drop]; exact hx')
    have := h3 x' hm
    rw [List.getElem_drop, dirBad, dirE_keys, h, ← dirE_keys, ← ep]
    exact this

theorem own_poke {w : World} {e size g n cap : Nat} {xs : List Value} (h : w.ownsRow 0 e size (.slice (some ⟨g, 0, none⟩) n cap) n xs) {j : Nat} (hj : j < n * size) (u : Value) :
    (w.setCell ⟨g, j, none⟩ u).ownsRow 0 e size (.slice (some ⟨g, 0, none⟩) n cap) n (xs.set j u) := by
  refine ⟨by rw [List.length_set]; exact h.1, ?_⟩
  rcases h.2 with ⟨h', _⟩ | ⟨g', cap', cur, h', hb, hg, hnc, hcm, hcs, htake⟩
  · simp at h'
  · simp only [Value.slice.injEq, Option.some.injEq, Addr.mk.injEq, and_true, true_and] at h'
    obtain ⟨rfl, rfl⟩ := h'
    refine .inr ⟨g, cap, cur.setIfInBounds j u, rfl, hb, heap_setCell_same w g j cur e u hg, hnc, hcm, by rw [Array.size_setIfInBounds]; exact hcs, ?_⟩
    rw [Array.toList_setIfInBounds, List.take_set, htake]
theorem flatN_set {l : List Nd} {k : Nat} {x : Nd} (hx : l[k]? = some x) (q : Int) : (flatN l).set (k * 5 + 2) (.int .i64 q) = flatN (l.set k { x with quota := q }) := by
  refine flat_ext encN 5 encN_len (by decide) _ _ (by rw [List.length_set, List.length_set, flatN_len]) fun i j y hy hj => ?_
  have hkl := (List.getElem?_eq_some_iff.1 hx).1
  have hfl := flatN_len l
  by_cases e : i = k
  · subst e
    rw [List.getElem?_set_self hkl] at hy
    simp only [Option.some.injEq] at hy
    subst hy
    by_cases e2 : j = 2
    · subst e2
      rw [List.getElem?_set_self (by omega)]
      rfl
    · rw [List.getElem?_set_ne (by omega), flatN, flat_get encN 5 encN_len l i j x hx hj]
      rcases j with _ | _ | _ | _ | _ | j
      all_goals first | rfl | omega
  · rw [List.getElem?_set_ne (fun h => e h.symm)] at hy
    rw [List.getElem?_set_ne (by omega), flatN, flat_get encN 5 encN_len l i j y hy hj]
theorem OwnN.setQ {w w' : World} {g cap : Nat} {q : List Nd} (h : OwnN w w' (.slice (some ⟨g, 0, none⟩) q.length cap) q) {k : Nat} {x : Nd} (hx : q[k]? = some x) (n : Int) (hbl : ∀ y ∈ q, Rd (w'.setCell ⟨g, k * 5 + 2, none⟩ (.int .i64 n)) 3 encB y.bv y.blocks) :
    OwnN w (w'.setCell ⟨g, k * 5 + 2, none⟩ (.int .i64 n)) (.slice (some ⟨g, 0, none⟩) q.length cap) (q.set k { x with quota := n }) := by
  have hkl := (List.getElem?_eq_some_iff.1 hx).1
  refine ⟨?_, h.new, fun y hy => ?_⟩
  · rw [List.length_set, ← flatN_set hx]
    exact own_poke h.own (by omega) _
  · rcases List.mem_or_eq_of_mem_set hy with hy | rfl
    · exact hbl y hy
    · exact hbl x (List.mem_of_getElem? hx)
theorem encN_one {w : World} {x : Nd} (h : Rd w 3 encB x.bv x.blocks) : ∀ u ∈ encN x, u.oneCell' = true := by
  obtain ⟨ao, cap, hv⟩ := bv_slice h
  intro u hu
  rw [encN, hv] at hu
  simp only [List.mem_cons, List.not_mem_nil, or_false] at hu
  rcases hu with rfl | rfl | rfl | rfl | rfl <;> rfl
theorem flatN_one {w : World} {l : List Nd} (h : ∀ x ∈ l, Rd w 3 encB x.bv x.blocks) : ∀ u ∈ flatN l, u.oneCell' = true := by
  intro u hu
  obtain ⟨x, hx, hu⟩ := List.mem_flatMap.1 hu
  exact encN_one (h x hx) u hu
theorem rdN_flat {w : World} {v : Value} {l : List Nd} (h : Rd w 5 encN v l) : ∃ ao cap, v = .slice ao l.length cap ∧ ∀ W, Below w.heap.size w W → ∀ ad, ao = some ad → ∀ j u, (flatN l)[j]? = some u → W.cell? (ad.add j) = some u := by
  obtain ⟨ao, cap, hv, _, _, hcell⟩ := h
  refine ⟨ao, cap, hv, fun W hW ad had j u hu => ?_⟩
  have hj : j < l.length * 5 := by rw [← flatN_len]; exact (List.getElem?_eq_some_iff.1 hu).1
  have hi : j / 5 < l.length := by omega
  have hx : l[j / 5]? = some l[j / 5] := by simp [hi]
  obtain ⟨b, off, e, hlt, hc⟩ := hcell _ _ hx
  have hg := flat_get encN 5 encN_len l (j / 5) (j % 5) _ hx (by omega)
  rw [show j / 5 * 5 + j % 5 = j by omega] at hg
  have := hc (j % 5) u (by rw [← hg]; exact hu)
  rw [show off + j / 5 * 5 + j % 5 = off + j by omega] at this
  rw [had] at e
  injection e with e
  subst e
  rw [Addr.add_lit, hW.cell (p := ⟨b, off + j, none⟩) hlt]
  exact this
/-- What an owned row that is not empty looks like. -/
theorem own_form {w : World} {e size n : Nat} {v : Value} {xs : List Value} (h : w.ownsRow 0 e size v n xs) (hn : 0 < n * size) : ∃ g cap cur, v = .slice (some ⟨g, 0, none⟩) n cap ∧ w.heap[g]? = some (.cells cur e (0, 0)) ∧ n ≤ cap ∧ cur.size = cap * size := by
  rcases h.2 with ⟨rfl, h0⟩ | ⟨g, cap, cur, rfl, _, hg, hnc, _, hcs, _⟩
  · subst h0; simp at hn
  · exact ⟨g, cap, cur, rfl, hg, hnc, hcs⟩
theorem two_pokes {w w3 : World} {g1 g2 c1 c2 : Nat} {l : List Nd} (h1 : OwnN w w3 (.slice (some ⟨g1, 0, none⟩) l.length c1) l) (h2 : OwnN w w3 (.slice (some ⟨g2, 0, none⟩) l.length c2) l) (hne : g1 ≠ g2) (hb : Below w.heap.size w w3) (hl : ∀ x ∈ l, Rd w 3 encB x.bv x.blocks)
    {k : Nat} {x : Nd} (hx : l[k]? = some x) (n m : Int) :
    RdN ((w3.setCell ⟨g1, k * 5 + 2, none⟩ (.int .i64 n)).setCell ⟨g2, k * 5 + 2, none⟩ (.int .i64 m)) (.slice (some ⟨g1, 0, none⟩) l.length c1) (l.set k { x with quota := n }) ∧
    RdN ((w3.setCell ⟨g1, k * 5 + 2, none⟩ (.int .i64 n)).setCell ⟨g2, k * 5 + 2, none⟩ (.int .i64 m)) (.slice (some ⟨g2, 0, none⟩) l.length c2) (l.set k { x with quota := m }) ∧
    Below w.heap.size w ((w3.setCell ⟨g1, k * 5 + 2, none⟩ (.int .i64 n)).setCell ⟨g2, k * 5 + 2, none⟩ (.int .i64 m)) := by
  have hg1 := h1.new g1 rfl
  have hg2 := h2.new g2 rfl
  have hb1 : Below w.heap.size w (w3.setCell ⟨g1, k * 5 + 2, none⟩ (.int .i64 n)) := hb.setCell hg1 _
  have hb2 : Below w.heap.size w ((w3.setCell ⟨g1, k * 5 + 2, none⟩ (.int .i64 n)).setCell ⟨g2, k * 5 + 2, none⟩ (.int .i64 m)) := hb1.setCell hg2 _
  have hl1 := fun y hy => (hl y hy).below hb1 (Nat.le_refl _)
  have hl2 := fun y hy => (hl y hy).below hb2 (Nat.le_refl _)
  have k1 := h1.setQ hx n hl1
  have h2' : OwnN w (w3.setCell ⟨g1, k * 5 + 2, none⟩ (.int .i64 n)) (.slice (some ⟨g2, 0, none⟩) l.length c2) l := ⟨ownsRow_setCell_other h2.own (by simp [Value.ownBlock]; omega) _, h2.new, hl1⟩
  have k2 := h2'.setQ hx m hl2
  have hmem : ∀ y ∈ l.set k { x with quota := n }, Rd ((w3.setCell ⟨g1, k * 5 + 2, none⟩ (.int .i64 n)).setCell ⟨g2, k * 5 + 2, none⟩ (.int .i64 m)) 3 encB y.bv y.blocks := fun y hy => by
    rcases List.mem_or_eq_of_mem_set hy with hy | rfl
    · exact hl2 y hy
    · exact hl2 x (List.mem_of_getElem? hx)
  have k1' : OwnN w ((w3.setCell ⟨g1, k * 5 + 2, none⟩ (.int .i64 n)).setCell ⟨g2, k * 5 + 2, none⟩ (.int .i64 m)) (.slice (some ⟨g1, 0, none⟩) l.length c1) (l.set k { x with quota := n }) := ⟨ownsRow_setCell_other k1.own (by simp [Value.ownBlock]; omega) _, k1.new, hmem⟩
  exact ⟨k1'.rd, k2.rd, hb2⟩
end Go.Proofs.YtpghaghmejgjbaaGreatDoor.Tree
