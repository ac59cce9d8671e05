/- Trees (chapter 7), plain: what Add, Remove and Move tell is a tree; what is moved back is as it was. -/
import Derived.Test.YtpghaghmejgjbaaGreatDoorUc
namespace Go.Proofs.YtpghaghmejgjbaaGreatDoor.Tree
open Go.RowKit
open Path (Bs bs mk bs_mk mk_bs tl_bs splitE splitL MaxC parD parE parN nameL underL under_iff under_trans under_anti moveE moveS joinP split_inj)
set_option linter.unusedSimpArgs false
set_option linter.unusedVariables false

theorem split_root {p : Bs} (hE : splitE p = 0) (h : splitL p = []) : p = [47] := split_inj hE (by decide) (by rw [h]; decide)
theorem par_split {p : Bs} (hE : splitE p = 0) (hp : p ≠ [47]) : splitE (parD p) = 0 ∧ ∃ n, splitL p = splitL (parD p) ++ [n] := by
  have hL : splitL p ≠ [] := fun e => hp (split_root hE e)
  obtain ⟨init, n, pre, h⟩ := Path.par_yes hE hL
  have hm := Path.par_more hE h
  exact ⟨by rw [h.D]; exact hm.dE, n, by rw [h.D, hm.dL]; exact h.L⟩
theorem par_eq {q z : Bs} {n : Bs} (hq : splitE q = 0) (hz : splitE z = 0) (h : splitL q = splitL z ++ [n]) : parD q = z := by
  have hne : q ≠ [47] := fun e => by
    rw [e, show splitL [47] = [] by decide] at h
    have := congrArg List.length h; simp at this
  obtain ⟨h1, m, h2⟩ := par_split hq hne
  refine split_inj h1 hz ?_
  rw [h2] at h
  exact (List.append_inj' h rfl).1
theorem under_self {p : Bs} (h : splitE p = 0) : underL p p = true := under_iff.2 ⟨h, h, List.prefix_refl _⟩
theorem par_under {p : Bs} (hE : splitE p = 0) (hp : p ≠ [47]) : underL (parD p) p = true := by
  obtain ⟨h1, n, h2⟩ := par_split hE hp
  exact under_iff.2 ⟨h1, hE, by rw [h2]; exact List.prefix_append _ _⟩
/-- What is under p, and is not p, has its parent under p. -/
theorem under_par {a p : Bs} (h : underL a p = true) (hne : a ≠ p) : p ≠ [47] ∧ underL a (parD p) = true := by
  obtain ⟨h1, h2, h3⟩ := under_iff.1 h
  have hp : p ≠ [47] := fun e => by
    rw [e, show splitL [47] = [] by decide] at h3
    exact hne ((split_root h1 (List.prefix_nil.1 h3)).trans e.symm)
  obtain ⟨g1, n, g2⟩ := par_split h2 hp
  refine ⟨hp, under_iff.2 ⟨h1, g1, ?_⟩⟩
  rw [g2] at h3
  rcases List.prefix_concat_iff.1 h3 with h4 | h4
  · exact absurd (split_inj h1 h2 (h4.trans g2.symm)) hne
  · exact h4

/-- A tree, in other words. -/
structure RightP (l : List Nd) : Prop where
  len : l.length ≤ 60
  rises : Rises l
  fits : ∀ x ∈ l, fitsN x = true
  root : ∃ x ∈ l, bs x.path = [47]
  up : ∀ x ∈ l, bs x.path ≠ [47] → ∃ z ∈ l, bs z.path = parD (bs x.path) ∧ z.dir = true
theorem right_p {l : List Nd} (h : rightT l = true) : RightP l :=
  ⟨right_len h, right_rises h, fun x hx => right_fits h hx, right_nonempty h, fun x hx hp => par_in h (in_tail h hx hp)⟩
theorem fits_split {x : Nd} (h : fitsN x = true) : splitE (bs x.path) = 0 := by
  simp only [fitsN, Bool.and_eq_true, decide_eq_true_eq] at h
  exact h.1.1.1
theorem fits_root {x : Nd} (h : fitsN x = true) (hp : bs x.path = [47]) : x.dir = true := by
  cases hd : x.dir
  · simp [fitsN, hd, hp] at h
  · rfl
theorem not_lt_root {p : Bs} (h : splitE p = 0) : ltB p [47] = false := by
  have := (Path.split_ok h).2
  rw [joinP] at this
  rw [← this]
  generalize [(47 : UInt8)].intercalate (splitL p) = t
  cases t <;> simp [ltB, Op.bytesLess]
theorem find_mem {l : List Nd} (h : Rises l) {x : Nd} (hx : x ∈ l) : l.find? (fun y => bs y.path == bs x.path) = some x := by
  obtain ⟨i, hi, rfl⟩ := List.mem_iff_getElem.1 hx
  exact find_at h (List.getElem?_eq_getElem hi)
theorem p_right {l : List Nd} (h : RightP l) : rightT l = true := by
  obtain ⟨r, hr, hrp⟩ := h.root
  simp only [rightT, rightA, Bool.and_eq_true, Bool.not_eq_true']
  refine ⟨⟨?_, ?_⟩, ?_⟩
  · cases l with
    | nil => cases hr
    | cons x t =>
      have hx : bs x.path = [47] := by
        rcases List.mem_cons.1 hr with rfl | hr
        · exact hrp
        · have h1 := List.rel_of_pairwise_cons h.rises hr
          rw [hrp, not_lt_root (fits_split (h.fits x (List.mem_cons_self ..)))] at h1
          cases h1
      simp only [headOk, Bool.and_eq_true, decide_eq_true_eq]
      exact ⟨⟨h.len, by simpa using hx⟩, fits_root (h.fits x (List.mem_cons_self ..)) hx⟩
  · refine List.all_eq_true.2 fun k hk => ?_
    have hk : k < l.length := List.mem_range.1 hk
    have hx : l[k]? = some l[k] := by simp [hk]
    rw [okA, hx]
    simp only [Bool.and_eq_true]
    refine ⟨h.fits _ (List.getElem_mem hk), ?_⟩
    cases k with
    | zero => rfl
    | succ j =>
      have hy : l[j]? = some l[j] := by simp [show j < l.length by omega]
      simp only [hy]
      exact rises_get h.rises hy hx (Nat.lt_succ_self j)
  · rw [List.any_eq_false]
    intro x hx
    have hxl := tail_in hx
    have hne : bs x.path ≠ [47] := fun e => by
      cases l with
      | nil => cases hr
      | cons y t =>
        have h1 := List.rel_of_pairwise_cons h.rises (show x ∈ t from hx)
        rw [e, not_lt_root (fits_split (h.fits y (List.mem_cons_self ..)))] at h1
        cases h1
    obtain ⟨z, hz, hzp, hzd⟩ := h.up x hxl hne
    rw [dirBad, dirE, ← hzp, find_mem h.rises hz]
    simp [hzd]

/-! What hangs on all but the place of the blocks. -/
theorem keys_pur (l : List Nd) : keys (l.map pur) = keys l := by rw [keys, keys, List.map_map]; rfl
theorem keys_same {q m : List Nd} (e : q.map pur = m.map pur) : keys q = keys m := by rw [← keys_pur q, e, keys_pur]
theorem fits_pur (x : Nd) : fitsN (pur x) = fitsN x := rfl
theorem fits_same {q m : List Nd} (e : q.map pur = m.map pur) (h : ∀ x ∈ m, fitsN x = true) : ∀ x ∈ q, fitsN x = true := fun x hx => by
  have : pur x ∈ m.map pur := by rw [← e]; exact List.mem_map_of_mem hx
  obtain ⟨y, hy, hyx⟩ := List.mem_map.1 this
  rw [← fits_pur, ← hyx, fits_pur]
  exact h y hy
theorem right_same {q m : List Nd} (e : q.map pur = m.map pur) : rightT q = rightT m := by
  have h1 : ∀ {q m : List Nd}, q.map pur = m.map pur → rightT m = true → rightT q = true := fun e h => right_keys (keys_same e) (fits_same e (right_p h).fits) h
  cases hm : rightT m
  · cases hq : rightT q
    · rfl
    · rw [h1 e.symm hq] at hm; cases hm
  · exact h1 e hm
theorem right_pur (l : List Nd) : rightT (l.map pur) = rightT l := right_same (by rw [List.map_map]; rfl)
theorem fiN_map (f : Nd → Bool) (g : Nd → Nd) (l : List Nd) : fiN f (l.map g) = fiN (f ∘ g) l := by
  rw [fiN, fiN, List.findIdx?_map]
theorem find_pur (p : Bs) (l : List Nd) : findI p (l.map pur) = findI p l := by rw [findI, fiN_map]; rfl
theorem find_same {q m : List Nd} (e : q.map pur = m.map pur) (p : Bs) : findI p q = findI p m := by rw [← find_pur, e, find_pur]
theorem isSome_pur (p : Bs) (l : List Nd) : ((l.map pur).find? fun x => bs x.path == p).isSome = (l.find? fun x => bs x.path == p).isSome := by
  rw [List.find?_map, Option.isSome_map]; rfl
theorem isSome_same {q m : List Nd} (e : q.map pur = m.map pur) (p : Bs) : (q.find? fun x => bs x.path == p).isSome = (m.find? fun x => bs x.path == p).isSome := by
  rw [← isSome_pur, e, isSome_pur]
theorem rmE_same {q m : List Nd} (e : q.map pur = m.map pur) (p : Bs) : rmE q p = rmE m p := by
  rw [rmE, rmE, right_same e, isSome_same e]
theorem filter_pur (f : Nd → Bool) (hf : ∀ x, f (pur x) = f x) (l : List Nd) : (l.filter f).map pur = (l.map pur).filter f := by
  rw [List.filter_map]
  congr 1
  exact List.filter_congr fun x _ => (hf x).symm
theorem rmL_same {q m : List Nd} (e : q.map pur = m.map pur) (p : Bs) : rmL q p = rmL m p := by
  rw [rmL, rmL, filter_pur _ (fun _ => rfl), e, ← filter_pur _ (fun _ => rfl)]
theorem find_none {l : List Nd} {p : Bs} : findI p l < 0 ↔ ∀ x ∈ l, bs x.path ≠ p := by
  rcases find_facts p l with ⟨h1, h2⟩ | ⟨i, y, h1, h2, h3⟩
  · rw [h1]
    refine ⟨fun _ x hx e => ?_, fun _ => by omega⟩
    exact absurd (by simpa using e) (List.find?_eq_none.1 h2 x hx)
  · rw [h1]
    refine ⟨fun h => by omega, fun h => ?_⟩
    exact absurd (by simpa using List.find?_some h3) (h y (List.mem_of_find?_eq_some h3))
theorem find_neg {l : List Nd} {p : Bs} : findI p l < 0 ↔ l.find? (fun x => bs x.path == p) = none := by
  rw [find_none, List.find?_eq_none]
  exact forall_congr' fun x => forall_congr' fun _ => by simp
theorem find_pos {l : List Nd} {p : Bs} (h : ∃ x ∈ l, bs x.path = p) : 0 ≤ findI p l := by
  obtain ⟨x, hx, e⟩ := h
  by_cases hc : findI p l < 0
  · exact absurd e (find_none.1 hc x hx)
  · omega

/-! Add. -/
theorem addE_zero {l : List Nd} {n : Nd} (h : addE l n = 0) : rightT l = true ∧ fitsN n = true ∧ bs n.path ≠ [47] ∧ findI (bs n.path) l < 0 ∧ (∃ z ∈ l, bs z.path = parD (bs n.path) ∧ z.dir = true) ∧ l.length < 60 := by
  rw [addE] at h
  split at h
  · rename_i hc
    split at h
    · cases h
    · rename_i hno
      split at h
      · rename_i hne; exact absurd h hne
      · rename_i hde
        split at h
        · cases h
        · rename_i h60
          refine ⟨hc.1, hc.2.1, hc.2.2, find_neg.2 ?_, ?_, by omega⟩
          · cases hf : l.find? (fun x => bs x.path == bs n.path) with
            | none => rfl
            | some x => rw [hf] at hno; exact absurd rfl hno
          · have hde : dirE l (bs n.path) = 0 := Classical.not_not.1 hde
            rw [dirE] at hde
            cases hf : l.find? (fun y => bs y.path == parD (bs n.path)) with
            | none => rw [hf] at hde; cases hde
            | some z =>
              rw [hf] at hde
              refine ⟨z, List.mem_of_find?_eq_some hf, by simpa using List.find?_some hf, ?_⟩
              cases hd : z.dir
              · simp [hd] at hde
              · rfl
  · cases h
theorem add_right {l : List Nd} {n : Nd} (h : addE l n = 0) : RightP (ins n l) := by
  obtain ⟨hr, hf, hp, hno, ⟨z, hz, hzp, hzd⟩, hl⟩ := addE_zero h
  have R := right_p hr
  have hm : ∀ x, x ∈ ins n l ↔ x = n ∨ x ∈ l := fun x => by rw [(ins_perm n l).mem_iff, List.mem_cons]
  refine ⟨by rw [(ins_perm n l).length_eq, List.length_cons]; omega, rises_ins R.rises fun y hy => find_none.1 hno y hy, fun x hx => ?_, ?_, fun x hx hne => ?_⟩
  · rcases (hm x).1 hx with rfl | hx
    · exact hf
    · exact R.fits x hx
  · obtain ⟨r, hr, hrp⟩ := R.root
    exact ⟨r, (hm r).2 (.inr hr), hrp⟩
  · rcases (hm x).1 hx with rfl | hx
    · exact ⟨z, (hm z).2 (.inr hz), hzp, hzd⟩
    · obtain ⟨u, hu, h1, h2⟩ := R.up x hx hne
      exact ⟨u, (hm u).2 (.inr hu), h1, h2⟩
theorem ins_filter {f : Nd → Bool} {n : Nd} (h : f n = false) : ∀ l : List Nd, (ins n l).filter f = l.filter f
  | [] => by simp [ins, h]
  | y :: t => by
    rw [ins]
    split
    · rw [List.filter_cons, if_neg (by simp [h])]
    · rw [List.filter_cons, List.filter_cons, ins_filter h t]
/-- What was added, and is taken away. -/
theorem add_rem {l : List Nd} {n : Nd} (h : addE l n = 0) : rmE (ins n l) (bs n.path) = 0 ∧ rmL (ins n l) (bs n.path) = l.map pur := by
  obtain ⟨hr, hf, hp, hno, _, hl⟩ := addE_zero h
  have hR := p_right (add_right h)
  have hs := fits_split hf
  have hin : n ∈ ins n l := (ins_perm n l).mem_iff.2 (List.mem_cons_self ..)
  refine ⟨?_, ?_⟩
  · rw [rmE, if_pos ⟨hR, hs, hp⟩, find_mem (right_rises hR) hin]; rfl
  · rw [rmL, ins_filter (by rw [under_self hs]; rfl), List.filter_eq_self.2]
    intro x hx
    cases hu : underL (bs n.path) (bs x.path)
    · rfl
    · obtain ⟨z, hz, hzp, _⟩ := up_in hr _ x hx rfl _ hu
      exact absurd hzp (find_none.1 hno z hz)

/-! Remove. -/
theorem rmE_zero {l : List Nd} {p : Bs} (h : rmE l p = 0) : rightT l = true ∧ splitE p = 0 ∧ p ≠ [47] ∧ ∃ x ∈ l, bs x.path = p := by
  rw [rmE] at h
  split at h
  · rename_i hc
    refine ⟨hc.1, hc.2.1, hc.2.2, ?_⟩
    cases hf : l.find? (fun x => bs x.path == p) with
    | none => rw [hf] at h; simp at h
    | some x => exact ⟨x, List.mem_of_find?_eq_some hf, by simpa using List.find?_some hf⟩
  · cases h
theorem rem_right {l : List Nd} {p : Bs} (h : rmE l p = 0) : RightP (l.filter fun x => !underL p (bs x.path)) := by
  obtain ⟨hr, hs, hp, _⟩ := rmE_zero h
  have R := right_p hr
  refine ⟨Nat.le_trans (List.length_filter_le _ _) R.len, R.rises.filter _, fun x hx => R.fits x (List.mem_filter.1 hx).1, ?_, fun x hx hne => ?_⟩
  · obtain ⟨r, hr, hrp⟩ := R.root
    exact ⟨r, List.mem_filter.2 ⟨hr, by rw [hrp, under_root hp]; rfl⟩, hrp⟩
  · obtain ⟨hx1, hx2⟩ := List.mem_filter.1 hx
    obtain ⟨z, hz, h1, h2⟩ := R.up x hx1 hne
    refine ⟨z, List.mem_filter.2 ⟨hz, ?_⟩, h1, h2⟩
    cases hu : underL p (bs z.path)
    · rfl
    · rw [h1] at hu
      rw [under_trans hu (par_under (fits_split (R.fits x hx1)) hne)] at hx2
      cases hx2
theorem rem_less {l : List Nd} {p : Bs} (h : rmE l p = 0) : (rmL l p).length < l.length ∧ findI p (rmL l p) < 0 := by
  obtain ⟨hr, hs, hp, x, hx, e⟩ := rmE_zero h
  refine ⟨?_, ?_⟩
  · rw [rmL, List.length_map]
    exact List.length_filter_lt_length_iff_exists.2 ⟨x, hx, by rw [e, under_self hs]; simp⟩
  · rw [rmL, find_pur, find_none]
    intro y hy e
    have := (List.mem_filter.1 hy).2
    rw [e, under_self hs] at this
    cases this
end Go.Proofs.YtpghaghmejgjbaaGreatDoor.Tree
