/- Quotas: quota.Room. -/
import Derived.Test.YtgpddngbccecfaaDoorQc
import Derived.Test.YtgpddngbccecfaaDoorGb
namespace Go.Proofs.YtgpddngbccecfaaDoor.Quota
open Go.RowKit Go.Maps Go.WideMaps
open Path (Bs bs mk bs_mk mk_bs tl_bs splitE splitL MaxC parD parE parN underL under_iff under_anti OwnS flatS flatS_snoc etS)
open Tree
set_option linter.unusedSimpArgs false
set_option linter.unusedVariables false

def dirAt (l : List Nd) (p : Bs) : Bool := match l.find? (fun x => bs x.path == p) with
  | none => false
  | some x => x.dir
def roomStep (l : List Nd) (p : Bs) (n : Int) (x : Nd) : Int := if 0 ≤ x.quota ∧ underL (bs x.path) p = true then min n (x.quota - cntN l (bs x.path)) else n
def roomK (l : List Nd) (p : Bs) (k : Nat) : Int := (l.take k).foldl (roomStep l p) (60 - l.length)
def roomT (l : List Nd) (p : Bs) : Int := if rightT l = true ∧ dirAt l p = true then max (roomK l p l.length) 0 else 0
theorem room_next {l : List Nd} {p : Bs} {k : Nat} {x : Nd} (hx : l[k]? = some x) : roomK l p (k + 1) = roomStep l p (roomK l p k) x := by
  rw [roomK, List.take_add_one, hx, List.foldl_append]; rfl
theorem step_bd {l : List Nd} {p : Bs} {n : Int} {x : Nd} (hl : l.length ≤ 60) (hn : -60 ≤ n ∧ n ≤ 60) : -60 ≤ roomStep l p n x ∧ roomStep l p n x ≤ 60 := by
  have := cnt_le l (bs x.path)
  rw [roomStep]
  split
  · omega
  · exact hn
theorem room_bd {l : List Nd} {p : Bs} (hl : l.length ≤ 60) : ∀ k, -60 ≤ roomK l p k ∧ roomK l p k ≤ 60
  | 0 => by rw [roomK, List.take_zero]; simp only [List.foldl_nil]; omega
  | k + 1 => by
    by_cases hk : k < l.length
    · rw [room_next (x := l[k]) (by simp [hk])]
      exact step_bd hl (room_bd hl k)
    · have e : l.take (k + 1) = l.take k := by rw [List.take_of_length_le (by omega), List.take_of_length_le (by omega)]
      rw [roomK, e]
      exact room_bd hl k
theorem quota_bd {l : List Nd} (h : rightT l = true) {x : Nd} (hx : x ∈ l) : -1 ≤ x.quota ∧ x.quota ≤ 9007199254740991 := by
  simp only [rightT, rightA, Bool.and_eq_true] at h
  obtain ⟨⟨_, h2⟩, _⟩ := h
  obtain ⟨k, hk, rfl⟩ := List.mem_iff_getElem.1 hx
  have := (rightA_at (l := l) (fun j hj => List.all_eq_true.1 h2 j (List.mem_range.2 hj)) (k := k) (x := l[k]) (by simp [hk])).1
  simp only [fitsN, Bool.and_eq_true, decide_eq_true_eq] at this
  obtain ⟨⟨⟨_, h3⟩, _⟩, h4⟩ := this
  refine ⟨h3, ?_⟩
  split at h4
  · simp only [Bool.and_eq_true, decide_eq_true_eq] at h4; exact h4.2
  · simp only [Bool.and_eq_true, decide_eq_true_eq] at h4; omega

theorem room_ways (l : List Nd) (p : Bs) (n : Int) (x : Nd) : (¬ 0 ≤ x.quota ∧ roomStep l p n x = n) ∨ (0 ≤ x.quota ∧ underL (bs x.path) p = false ∧ roomStep l p n x = n) ∨ (0 ≤ x.quota ∧ underL (bs x.path) p = true ∧ roomStep l p n x = min n (x.quota - cntN l (bs x.path))) := by
  rw [roomStep]
  by_cases h1 : 0 ≤ x.quota
  · cases h2 : underL (bs x.path) p
    · exact .inr (.inl ⟨h1, rfl, by simp⟩)
    · exact .inr (.inr ⟨h1, rfl, by simp [h1]⟩)
  · exact .inl ⟨h1, by simp [h1]⟩

end Go.Proofs.YtgpddngbccecfaaDoor.Quota
