/- Trees, in plain words: what stands in a directory, and how many nodes stand under it. -/
import Derived.Test.YtpghaghmejgjbaaGreatDoorTm
import Derived.Test.YtpghaghmejgjbaaGreatDoorPt
namespace Go.Proofs.YtpghaghmejgjbaaGreatDoor.Tree
open Go.RowKit
open Path (Bs bs mk bs_mk mk_bs tl_bs splitE splitL MaxC parD parE parN underL under_iff under_anti under_trans joinP)
set_option linter.unusedSimpArgs false
set_option linter.unusedVariables false

/-- The beginning of what stands in p. -/
def inD (p : Bs) : Bs := if p = [47] then [47] else p ++ [47]
theorem joinP_root {ns : List Bs} (h : ∀ n ∈ ns, Path.nameL n = true) (e : joinP ns = [47]) : ns = [] := by
  cases ns with
  | nil => rfl
  | cons x r =>
    exfalso
    have hx := Path.name_ne (h x (by simp))
    cases r with
    | nil => rw [joinP, Path.inter_one] at e; simp at e; exact hx e
    | cons y r => rw [joinP, Path.inter_cons] at e; simp at e
theorem path_form {p : Bs} (hE : splitE p = 0) (hp : p ≠ [47]) : p = inD (parD p) ++ parN p ∧ Path.nameL (parN p) = true ∧ splitE (parD p) = 0 ∧ underL (parD p) p = true ∧ (splitL (parD p)).length + 1 = (splitL p).length := by
  have hL : splitL p ≠ [] := fun e => hp (Path.split_inj hE (by decide) (by rw [e]; decide))
  obtain ⟨init, n, pre, h⟩ := Path.par_yes hE hL
  have hm := Path.par_more hE h
  have hlen : (splitL (parD p)).length + 1 = (splitL p).length := by rw [h.D, hm.dL, h.L]; simp
  refine ⟨?_, by rw [h.N]; exact hm.name, by rw [h.D]; exact hm.dE, by rw [h.D]; exact hm.up, hlen⟩
  have hj := (Path.split_ok hE).2
  rw [h.L] at hj
  rw [h.N, h.D, inD]
  by_cases h0 : init = []
  · subst h0
    rw [if_pos Path.join_nil, ← hj, List.nil_append, joinP, Path.inter_one]; rfl
  · have hne : joinP init ≠ [47] := fun e => h0 (joinP_root (Path.joinE_ok.1 hm.E).1 e)
    rw [if_neg hne, ← hj, Path.join_snoc init n h0]; simp
theorem inD_inj {p n m : Bs} (h : inD p ++ n = inD p ++ m) : n = m := List.append_cancel_left h
theorem lt_pre : ∀ (a u v : Bs), ltB (a ++ u) (a ++ v) = ltB u v
  | [], _, _ => rfl
  | x :: a, u, v => by
    have := lt_pre a u v
    simp only [ltB] at this ⊢
    rw [List.cons_append, List.cons_append, Op.bytesLess, this]
    simp
def childL (l : List Nd) (p : Bs) : List Nd := (l.drop 1).filter fun x => parD (bs x.path) == p
theorem right_head {l : List Nd} (h : rightT l = true) : ∃ x t, l = x :: t ∧ bs x.path = [47] ∧ x.dir = true := by
  simp only [rightT, rightA, Bool.and_eq_true] at h
  obtain ⟨⟨h1, _⟩, _⟩ := h
  cases l with
  | nil => cases h1
  | cons x t =>
    simp only [headOk, Bool.and_eq_true] at h1
    exact ⟨x, t, rfl, by simpa using h1.1.2, h1.2⟩
theorem right_splits {l : List Nd} (h : rightT l = true) {x : Nd} (hx : x ∈ l) : splitE (bs x.path) = 0 := by
  simp only [rightT, rightA, Bool.and_eq_true] at h
  obtain ⟨k, hk, rfl⟩ := List.mem_iff_getElem.1 hx
  have := (rightA_at (l := l) (fun j hj => List.all_eq_true.1 h.1.2 j (List.mem_range.2 hj)) (k := k) (x := l[k]) (by simp [hk])).1
  simp only [fitsN, Bool.and_eq_true, decide_eq_true_eq] at this
  exact this.1.1.1
theorem tail_ne {l : List Nd} (h : rightT l = true) {x : Nd} (hx : x ∈ l.drop 1) : bs x.path ≠ [47] := by
  obtain ⟨r, t, rfl, hr, _⟩ := right_head h
  have hri := right_rises h
  intro e
  have := List.rel_of_pairwise_cons hri (show x ∈ t from hx)
  rw [hr, e, lt_irr] at this
  cases this
theorem tail_in {l : List Nd} {x : Nd} (h : x ∈ l.drop 1) : x ∈ l := List.mem_of_mem_drop h
theorem in_tail {l : List Nd} (h : rightT l = true) {x : Nd} (hx : x ∈ l) (hp : bs x.path ≠ [47]) : x ∈ l.drop 1 := by
  obtain ⟨r, t, rfl, hr, _⟩ := right_head h
  rcases List.mem_cons.1 hx with rfl | hx
  · exact (hp hr).elim
  · exact hx
/-- What is not the root stands in a directory. -/
theorem par_in {l : List Nd} (h : rightT l = true) {x : Nd} (hx : x ∈ l.drop 1) : ∃ z ∈ l, bs z.path = parD (bs x.path) ∧ z.dir = true := by
  simp only [rightT, Bool.and_eq_true, Bool.not_eq_true', List.any_eq_false] at h
  have := h.2 x hx
  rw [dirBad, dirE] at this
  cases hf : l.find? (fun y => bs y.path == parD (bs x.path)) with
  | none => rw [hf] at this; simp at this
  | some z =>
    rw [hf] at this
    have hz := List.find?_some hf
    refine ⟨z, List.mem_of_find?_eq_some hf, by simpa using hz, ?_⟩
    cases hd : z.dir
    · simp [hd] at this
    · rfl
theorem same_node {l : List Nd} (h : rightT l = true) {x y : Nd} (hx : x ∈ l) (hy : y ∈ l) (e : bs x.path = bs y.path) : x = y := by
  obtain ⟨i, hi, rfl⟩ := List.mem_iff_getElem.1 hx
  obtain ⟨j, hj, rfl⟩ := List.mem_iff_getElem.1 hy
  have := rises_inj (right_rises h) (i := i) (j := j) (x := l[i]) (y := l[j]) (by simp [hi]) (by simp [hj]) e
  subst this
  rfl
/-- Whatever a node is under is there, and is a directory, unless it is the node. -/
theorem up_in {l : List Nd} (h : rightT l = true) : ∀ (n : Nat) (y : Nd), y ∈ l → (splitL (bs y.path)).length = n → ∀ q, underL q (bs y.path) = true → ∃ z ∈ l, bs z.path = q ∧ (q ≠ bs y.path → z.dir = true) := by
  intro n
  induction n using Nat.strongRecOn with
  | _ n ih =>
    intro y hy hn q hq
    by_cases e : q = bs y.path
    · exact ⟨y, hy, e.symm, fun hne => (hne e).elim⟩
    · obtain ⟨hqE, hyE, hpre⟩ := under_iff.1 hq
      have hyr : bs y.path ≠ [47] := fun e47 => by
        rw [e47, show splitL [47] = [] by decide] at hpre
        have : splitL q = [] := List.prefix_nil.1 hpre
        exact e (by rw [e47]; exact Path.split_inj hqE (by decide) (by rw [this]; decide))
      obtain ⟨_, _, hdE, hup, hlen⟩ := path_form hyE hyr
      have hyt := in_tail h hy hyr
      obtain ⟨z, hz, hzp, hzd⟩ := par_in h hyt
      have hql : (splitL q).length ≤ (splitL (parD (bs y.path))).length := by
        have h1 := hpre.length_le
        have h2 : (splitL q).length ≠ (splitL (bs y.path)).length := fun hh => e (Path.split_inj hqE hyE (hpre.eq_of_length hh))
        omega
      have hqz : underL q (bs z.path) = true := by
        rw [hzp]
        exact under_iff.2 ⟨hqE, hdE, List.prefix_of_prefix_length_le hpre (under_iff.1 hup).2.2 hql⟩
      obtain ⟨u, hu, hup', hud⟩ := ih (splitL (bs z.path)).length (by rw [hzp]; omega) z hz rfl q hqz
      refine ⟨u, hu, hup', fun _ => ?_⟩
      by_cases e2 : q = bs z.path
      · have := same_node h hu hz (by rw [hup', e2])
        rw [this]; exact hzd
      · exact hud e2
end Go.Proofs.YtpghaghmejgjbaaGreatDoor.Tree
