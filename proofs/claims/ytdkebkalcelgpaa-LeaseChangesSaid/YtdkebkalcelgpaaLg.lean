/- Leases: slices.Clone, slices.Insert. -/
import Derived.Test.YtdkebkalcelgpaaLf
import Derived.Test.YtdkebkalcelgpaaKb
import Derived.Lib.Overlaps
import Derived.Lib.SliceRun
import Derived.Laws.Externs
namespace Go.Proofs.Ytdkebkalcelgpaa.Lease
open Go.RowKit
set_option linter.unusedSimpArgs false

theorem flatL_append (l m : List Le) : flatL (l ++ m) = flatL l ++ flatL m := by simp [flatL]
theorem flatL_one (l : List Le) : ∀ u ∈ flatL l, u.oneCell' = true := by
  intro u hu
  simp only [flatL, List.mem_flatMap] at hu
  obtain ⟨x, _, hx⟩ := hu
  simp only [encL, List.mem_cons, List.not_mem_nil, or_false] at hx
  rcases hx with rfl | rfl <;> rfl
theorem flatL_drop (l : List Le) (k : Nat) : (flatL l).drop (k * 2) = flatL (l.drop k) := by
  by_cases hk : k ≤ l.length
  · have hs : flatL l = flatL (l.take k) ++ flatL (l.drop k) := by rw [← flatL_append, List.take_append_drop]
    rw [hs, List.drop_append_of_le_length (by rw [flatL_len, List.length_take]; omega), List.drop_of_length_le (by rw [flatL_len, List.length_take]; omega), List.nil_append]
  · rw [List.drop_of_length_le (by rw [flatL_len]; omega), List.drop_of_length_le (by omega)]; rfl
theorem flatL_take (l : List Le) (k : Nat) : (flatL l).take (k * 2) = flatL (l.take k) := by
  by_cases hk : k ≤ l.length
  · have hs : flatL l = flatL (l.take k) ++ flatL (l.drop k) := by rw [← flatL_append, List.take_append_drop]
    rw [hs, List.take_append_of_le_length (by rw [flatL_len, List.length_take]; omega), List.take_of_length_le (by rw [flatL_len, List.length_take]; omega)]
  · rw [List.take_of_length_le (by rw [flatL_len]; omega), List.take_of_length_le (by omega)]

/-- A slice of leases of the call's own. -/
structure OwnL (w w' : World) (v : Value) (q : List Le) : Prop where
  own : w'.ownsRow 0 55 2 v q.length (flatL q)
  new : ∀ g, v.ownBlock = some g → w.heap.size ≤ g
theorem rd_flat {w : World} {v : Value} {l : List Le} (h : Rd w 2 encL v l) {ad : Addr} {cap : Nat} (hv : v = .slice (some ad) l.length cap) : ∀ W, Below w.heap.size w W → ∀ j u, (flatL l)[j]? = some u → W.cell? (ad.add j) = some u := by
  intro W hW j u hu
  obtain ⟨ao, cap', hv', _, _, hcell⟩ := h
  rw [hv] at hv'
  simp only [Value.slice.injEq, true_and] at hv'
  obtain ⟨rfl, rfl⟩ := hv'
  have hj := (List.getElem?_eq_some_iff.1 hu).1
  rw [flatL_len] at hj
  have hi : j / 2 < l.length := Nat.div_lt_of_lt_mul (by omega)
  have hx : l[j / 2]? = some l[j / 2] := by simp [hi]
  obtain ⟨b, off, e, hlt, hcl⟩ := hcell _ _ hx
  simp only [Option.some.injEq] at e
  subst e
  have e2 : j = j / 2 * 2 + j % 2 := by omega
  have := flat_get encL 2 encL_len l (j / 2) (j % 2) _ hx (Nat.mod_lt _ (by omega))
  rw [← e2] at this
  have h3 := hcl (j % 2) u (by rw [← this]; exact hu)
  rw [Addr.add_lit, hW.cell (p := ⟨b, off + j, none⟩) hlt, ← h3]
  congr 2
  omega

theorem clone_calls (w : World) (v : Value) (l : List Le) (h : Rd w 2 encL v l) (hn : l.length ≤ 1000000) :
    Calls Try.prog 45 #[v] w fun e w' => ∃ v', e = .returned v' ∧ OwnL w w' v' l ∧ Below w.heap.size w w' := by
  have q50 : ∀ (w : World) (a : Option Addr) (n c n' c' : Nat), (binOp .eql 50 (.slice a n c) (.slice none n' c')).run Try.prog w = .ok (.bool a.isNone) w := fun w a n c n' c' => Lib.run_eql_slice_nil w _ _ a n c n' c' Try.underlying50
  have hfl := fun ad cap (hv : v = .slice (some ad) l.length cap) => rd_flat h hv
  obtain ⟨ao, cap, rfl, hcap, _, hcell⟩ := rd_cells h
  have Hfl := Lib.hid hfl; clear hfl h
  cases ao with
  | none =>
    have hl : l = [] := by
      cases l with
      | nil => rfl
      | cons x t => obtain ⟨b, off, e, _⟩ := hcell w (Below.refl _ _) 0 x rfl; cases e
    subst hl
    clear hcell
    go_enter Try.func45, Try.ntmps45
    go_wp2
    go_ret
    exact ⟨_, rfl, ⟨World.ownsRow_nil _ _ _ _, fun g h => by simp [Value.ownBlock] at h⟩, Below.refl _ _⟩
  | some ad =>
    clear hcell
    have hown : (w.alloc (.cells #[] 55)).ownsRow 0 55 2 (.slice (some ⟨w.heap.size, 0, none⟩) 0 0) 0 [] := ⟨rfl, .inr ⟨w.heap.size, 0, #[], rfl, Nat.zero_le _, heap_alloc_new w _, Nat.le_refl _, by decide, rfl, rfl⟩⟩
    have hb : Below w.heap.size w (w.alloc (.cells #[] 55)) := (Below.refl _ _).alloc (Nat.le_refl _) _
    go_enter Try.func45, Try.ntmps45
    go_wp2_with (at_builtin; (with_reducible refine etLe.wpList_app hown (m := l.length) (c := cap) (ao := some ad) (news := flatL l) (flatL_len l) (fun h => by cases h) (fun ad' h => by cases h; exact Hfl.out ad cap rfl _ hb) (flatL_one l) (by omega) (by unfold maxLen; omega) rfl (.tmp 5) (.tmp 6) rfl rfl rfl ?_); intro v1 w1 own1 grow1 at1 nil1)
    go_ret
    rw [Nat.zero_add, List.nil_append] at own1
    refine ⟨v1, rfl, ⟨own1, fun g hg => ?_⟩, hb.grown grow1 hb.size (fun q hq => ?_)⟩
    · rcases at1 with e | e
      · rw [e] at hg; simp [Value.ownBlock] at hg; omega
      · rw [e] at hg; simp at hg; omega
    · simp [Value.ownBlock] at hq; omega
end Go.Proofs.Ytdkebkalcelgpaa.Lease
