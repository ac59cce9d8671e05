/- Leases: slices.Clone, slices.Insert. -/
import Derived.Test.YtgpddngbccecfaaDoorLf
import Derived.Test.YtgpddngbccecfaaDoorGa
import Derived.Lib.Overlaps
import Derived.Lib.SliceRun
import Derived.Laws.Externs
namespace Go.Proofs.YtgpddngbccecfaaDoor.Lease
open Go.RowKit
set_option linter.unusedSimpArgs false

theorem flatL_append (l m : List Le) : flatL (l ++ m) = flatL l ++ flatL m := by simp [flatL]
theorem flatL_one (l : List Le) : ∀ u ∈ flatL l, u.oneCell' = true := by
  intro u hu
  simp only [flatL, List.mem_flatMap] at hu
  obtain ⟨x, _, hx⟩ := hu
  simp only [encL, List.mem_cons, List.not_mem_nil, or_false] at hx
  rcases hx with rfl | rfl <;> rfl
theorem flatL_drop (l : List Le) (k : Nat) : (flatL l).drop (k * 2) = flatL (l.drop k) := by
  by_cases hk : k ≤ l.length
  · have hs : flatL l = flatL (l.take k) ++ flatL (l.drop k) := by rw [← flatL_append, List.take_append_drop]
    rw [hs, List.drop_append_of_le_length (by rw [flatL_len, List.length_take]; omega), List.drop_of_length_le (by rw [flatL_len, List.length_take]; omega), List.nil_append]
  · rw [List.drop_of_length_le (by rw [flatL_len]; omega), List.drop_of_length_le (by omega)]; rfl
theorem flatL_take (l : List Le) (k : Nat) : (flatL l).take (k * 2) = flatL (l.take k) := by
  by_cases hk : k ≤ l.length
  · have hs : flatL l = flatL (l.take k) ++ flatL (l.drop k) := by rw [← flatL_append, List.take_append_drop]
    rw [hs, List.take_append_of_le_length (by rw [flatL_len, List.length_take]; omega), List.take_of_length_le (by rw [flatL_len, List.length_take]; omega)]
  · rw [List.take_of_length_le (by rw [flatL_len]; omega), List.take_of_length_le (by omega)]

/-- A slice of leases of the call's own. -/
structure OwnL (w w' : World) (v : Value) (q : List Le) : Prop where
  own : w'.ownsRow 0 55 2 v q.length (flatL q)
  new : ∀ g, v.ownBlock = some g → w.heap.size ≤ g
theorem rd_flat {w : World} {v : Value} {l : List Le} (h : Rd w 2 encL v l) {ad : Addr} {cap : Nat} (hv : v = .slice (some ad) l.length cap) : ∀ W, Below w.heap.size w W → ∀ j u, (flatL l)[j]? = some u → W.cell? (ad.add j) = some u := by
  intro W hW j u hu
  obtain ⟨ao, cap', hv', _, _, hcell⟩ := h
  rw [hv] at hv'
  simp only [Value.slice.injEq, true_and] at hv'
  obtain ⟨rfl, rfl⟩ := hv'
  have hj := (List.getElem?_eq_some_iff.1 hu).1
  rw [flatL_len] at hj
  have hi : j / 2 < l.length := Nat.div_lt_of_lt_mul (by omega)
  have hx : l[j / 2]? = some l[j / 2] := by simp [hi]
  obtain ⟨b, off, e, hlt, hcl⟩ := hcell _ _ hx
  simp only [Option.some.injEq] at e
  subst e
  have e2 : j = j / 2 * 2 + j % 2 := by omega
  have := flat_get encL 2 encL_len l (j / 2) (j % 2) _ hx (Nat.mod_lt _ (by omega))
  rw [← e2] at this
  have h3 := hcl (j % 2) u (by rw [← this]; exact hu)
  rw [Addr.add_lit, hW.cell (p := ⟨b, off + j, none⟩) hlt, ← h3]
  congr 2
  omega

end Go.Proofs.YtgpddngbccecfaaDoor.Lease
