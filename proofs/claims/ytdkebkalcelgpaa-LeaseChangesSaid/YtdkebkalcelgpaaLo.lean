/- Leases: the document's Renew. -/
import Derived.Test.YtdkebkalcelgpaaLn
namespace Go.Proofs.Ytdkebkalcelgpaa.Lease
open Go.RowKit
set_option linter.unusedSimpArgs false

def RRenPost (w : World) (k : Bool) (q : List Le) (e : Ending) (w' : World) : Prop :=
  ∃ v', e = .returned (.tuple #[v', .bool k]) ∧ OwnL w w' v' q ∧ Below w.heap.size w w'

theorem rrenew_no (w : World) (v : Value) (l : List Le) (c now : Int) (h : Rd w 2 encL v l) (hn : l.length ≤ 8796093022208) (hno : renOk c now l = false) :
    Calls Try.prog 34 #[v, .int .i64 c, .int .i64 now] w (RRenPost w false []) := by
  have hr := rright_calls w v l h hn
  obtain ⟨ao, cap, rfl, _, _, _⟩ := rd_cells h
  clear h
  rcases ren_no hno with hR | ⟨hR, hg | ⟨g1, hg | ⟨g2, hg | ⟨g3, hg⟩⟩⟩⟩ <;>
  · rw [hR] at hr
    clear hR hno
    go_enter Try.func34, Try.ntmps34
    go_wp2_with (go_at_call 32; refine hr.mono ?_; rintro e w1 ⟨rfl, hb1⟩)
    go_ret2
    exact ⟨_, rfl, ⟨World.ownsRow_nil _ _ _ _, fun g h => by simp [Value.ownBlock] at h⟩, hb1⟩

section
variable {α : Type} {r : List α} {p : Nat} {n x : α}
theorem put_lo {k : Nat} (hk : k < p) (hx : r[k]? = some x) : (r.insertIdx p n).take (k + 1) = (r.insertIdx p n).take k ++ [x] := by
  rw [List.take_add_one, List.getElem?_insertIdx_of_lt hk, hx]; rfl
theorem put_at (hp : p ≤ r.length) : (r.insertIdx p n).take (p + 1) = (r.insertIdx p n).take p ++ [n] := by
  rw [List.take_add_one, List.getElem?_insertIdx_self, if_pos hp]; rfl
theorem put_hi {k : Nat} (hk : p ≤ k) (hx : r[k]? = some x) : (r.insertIdx p n).take (k + 1 + 1) = (r.insertIdx p n).take (k + 1) ++ [x] := by
  rw [List.take_add_one, List.getElem?_insertIdx_of_gt (by omega), Nat.add_sub_cancel, hx]; rfl
end

theorem others_lt {c : Int} {l : List Le} {k : Nat} {x : Le} (hx : (others c l)[k]? = some x) (hk : k < idxL c (others c l)) : x.c < c := by
  have hl := (List.getElem?_eq_some_iff.1 hx)
  have := List.not_of_lt_findIdx (p := fun x : Le => decide (c ≤ x.c)) hk
  obtain ⟨h1, rfl⟩ := hl
  simp at this
  omega
theorem others_gt {c : Int} {l : List Le} {x : Le} (hx : (others c l)[idxL c (others c l)]? = some x) : c < x.c := by
  obtain ⟨h1, h2⟩ := (List.getElem?_eq_some_iff.1 hx)
  have := List.findIdx_getElem (p := fun x : Le => decide (c ≤ x.c)) (xs := others c l) (w := h1)
  have e : (others c l)[idxL c (others c l)] ∈ others c l := List.getElem_mem h1
  rw [h2] at e
  have h3 : x.c ≠ c := by
    have := (List.mem_filter.1 e).2
    simpa using this
  have h4 : c ≤ x.c := by
    have e5 : (others c l)[List.findIdx (fun x : Le => decide (c ≤ x.c)) (others c l)]'h1 = x := h2
    rw [e5] at this
    simpa using this
  omega
end Go.Proofs.Ytdkebkalcelgpaa.Lease
