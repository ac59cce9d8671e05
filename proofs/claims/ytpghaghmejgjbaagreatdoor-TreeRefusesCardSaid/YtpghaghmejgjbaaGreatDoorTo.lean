/- Trees: a row of names that is sorted stays as it is; tree.good, tree.List. -/
import Derived.Test.YtpghaghmejgjbaaGreatDoorTn
import Derived.Test.YtpghaghmejgjbaaGreatDoorSi
import Derived.Sort.OwnSorted
namespace Go.Proofs.YtpghaghmejgjbaaGreatDoor.Tree
open Go.RowKit
open Path (Bs bs mk bs_mk mk_bs tl_bs splitE splitL MaxC parD parE parN OwnS flatS flatS_map flatS_snoc etS rd_cellsS)
open Go.Sort (Holds putRow)
set_option linter.unusedSimpArgs false
set_option linter.unusedVariables false

theorem le_lt (x y : Bs) : decide (x ≤ y) = !ltB y x := by
  have : ltB y x = decide (y < x) := Go.Proofs.bytesLess_eq y x
  rw [this]
  by_cases h : y < x
  · rw [decide_eq_true h, decide_eq_false (fun hle => hle h)]; rfl
  · rw [decide_eq_false h, decide_eq_true (show x ≤ y from h)]; rfl
theorem sorted_same {l : List Bs} (h : l.Pairwise fun x y => ltB x y = true) : l.mergeSort (fun x y => decide (x ≤ y)) = l := by
  refine List.mergeSort_of_pairwise (h.imp fun {x y} hxy => ?_)
  rw [le_lt, lt_asym hxy]; rfl
theorem str_bs (x : ByteArray) : encStr (bs x) = .string x := rfl
theorem sort_calls (w w1 : World) (v : Value) (q : List ByteArray) (hO : OwnS w w1 v q) (hs : (q.map bs).Pairwise fun x y => ltB x y = true) (hn : q.length ≤ 1000) (hb : Below w.heap.size w w1) :
    Calls Tryz.prog 35 #[v] w1 fun e w' => e = .returned (.tuple #[]) ∧ OwnS w w' v q ∧ Below w.heap.size w w' := by
  have hnew := hO.new
  have hO' := hO
  have hm : (q.map bs).map encStr = flatS q := by
    rw [List.map_map, flatS_map]
    exact List.map_congr_left fun x _ => str_bs x
  rcases hO.own with ⟨_, ⟨rfl, h0⟩ | ⟨g, cap, cur, rfl, _, hg, hnc, hcm, hcs, htake⟩⟩
  · refine (Tryz.slices_Sort_string_none none 0 w1).mono ?_
    rintro e w' ⟨rfl, rfl⟩
    exact ⟨rfl, hO', hb⟩
  · have hH : Holds encStr w1 g 0 (q.map bs).toArray := holds_of_block hg (by rw [hm, List.length_map]; simpa using htake)
    have hc := Tryz.slices_Sort_string g 0 cap (q.map bs) w1 hH (lt_of_block hg) (by rw [List.length_map]; omega)
    rw [List.length_map, sorted_same hs] at hc
    refine hc.mono ?_
    rintro e w' ⟨rfl, n, os, rfl⟩
    have hgr := Go.grownBy_sorted (w := w1) (g := g) (n := n) (os := os) (q.map bs).toArray
    refine ⟨rfl, ⟨?_, hnew⟩, hb.grown hgr hb.size (fun k hk => by injection hk with hk; subst hk; exact hnew _ rfl)⟩
    have := Go.ownsRow_sorted (base := 0) (n := n) (os := os) (ss := q.map bs) (ts := q.map bs) rfl (Nat.zero_le _) hg (by rw [List.length_map]; exact hnc) hcm hcs
    rwa [List.length_map, hm] at this
end Go.Proofs.YtpghaghmejgjbaaGreatDoor.Tree
