/- Trees (chapter 7), plain: what Move tells is a tree; what is moved back is as it was. -/
import Derived.Test.YtpghaghmejgjbaaGreatDoorUh
namespace Go.Proofs.YtpghaghmejgjbaaGreatDoor.Tree
open Go.RowKit
open Path (Bs bs mk bs_mk mk_bs tl_bs splitE splitL MaxC parD parE parN nameL underL under_iff under_trans under_anti moveE moveS joinP split_inj)
set_option linter.unusedSimpArgs false
set_option linter.unusedVariables false

structure Mv (l : List Nd) (a b : Bs) : Prop where
  R : RightP l
  aE : splitE a = 0
  bE : splitE b = 0
  aN : a ≠ [47]
  bN : b ≠ [47]
  no : underL a b = false
  src : ∃ x ∈ l, bs x.path = a
  dst : ∃ z ∈ l, bs z.path = parD b ∧ z.dir = true
  clash : ∀ x ∈ l, bs x.path = a → ∀ y ∈ l, bs y.path = b → x.dir = false ∧ y.dir = false
  ok : ∀ x ∈ l, underL a (bs x.path) = true → splitE (moveS (bs x.path) a b) = 0 ∧ splitL (moveS (bs x.path) a b) = splitL b ++ (splitL (bs x.path)).drop (splitL a).length
theorem dirE_zero {l : List Nd} {p : Bs} (h : dirE l p = 0) : ∃ z ∈ l, bs z.path = parD p ∧ z.dir = true := by
  rw [dirE] at h
  cases hf : l.find? (fun y => bs y.path == parD p) with
  | none => rw [hf] at h; cases h
  | some z =>
    rw [hf] at h
    refine ⟨z, List.mem_of_find?_eq_some hf, by simpa using List.find?_some hf, ?_⟩
    cases hd : z.dir
    · simp [hd] at h
    · rfl
theorem dirE_mk {l : List Nd} (hr : Rises l) {p : Bs} (h : ∃ z ∈ l, bs z.path = parD p ∧ z.dir = true) : dirE l p = 0 := by
  obtain ⟨z, hz, h1, h2⟩ := h
  rw [dirE, ← h1, find_mem hr hz]
  simp [h2]
theorem mv_of {l : List Nd} {a b : Bs} (h : mvE l a b = 0) : Mv l a b := by
  obtain ⟨hr, ha, hb, haN, hbN, hno, x, hx, hd, hcl, hbad⟩ := mvE_zero h
  have R := right_p hr
  have hxl := List.mem_of_find?_eq_some hx
  have hxp : bs x.path = a := by simpa using List.find?_some hx
  refine ⟨R, ha, hb, haN, hbN, hno, ⟨x, hxl, hxp⟩, dirE_zero hd, fun x' hx' e' y hy ey => ?_, fun y hy hu => ?_⟩
  · have e1 : x' = x := same_node hr hx' hxl (e'.trans hxp.symm)
    rw [clash, ← ey, find_mem R.rises hy] at hcl
    rw [e1]
    simpa using hcl
  · have := List.any_eq_false.1 hbad y hy
    rw [mvBad, hu] at this
    have := moved_split hu (by simpa using this)
    exact this.2
theorem of_mv {l : List Nd} {a b : Bs} (h : Mv l a b) (hok : ∀ x ∈ l, underL a (bs x.path) = true → moveE (bs x.path) a b = 0) : mvE l a b = 0 := by
  obtain ⟨x, hx, hxp⟩ := h.src
  have hf : l.find? (fun x => bs x.path == a) = some x := by rw [← hxp]; exact find_mem h.R.rises hx
  have hcl : clash l b x = false := by
    rw [clash]
    cases hy : l.find? (fun y => bs y.path == b) with
    | none => rfl
    | some y =>
      obtain ⟨h1, h2⟩ := h.clash x hx hxp y (List.mem_of_find?_eq_some hy) (by simpa using List.find?_some hy)
      simp [h1, h2]
  have hb : l.any (mvBad a b) = false := by
    rw [List.any_eq_false]
    intro y hy
    rw [mvBad]
    cases hu : underL a (bs y.path)
    · simp
    · simp [hok y hy hu]
  rw [mvE, if_pos ⟨p_right h.R, h.aE, h.bE, h.aN, h.bN, h.no⟩, hf]
  simp only []
  rw [if_neg (by rw [dirE_mk h.R.rises h.dst]; simp), hcl, if_neg (by simp), hb, if_neg (by simp)]
theorem mem_mvD {l : List Nd} {a b : Bs} {y : Nd} : y ∈ mvD l a b ↔ ∃ x ∈ l, mvK a b x = true ∧ mvN a b x = y := by
  rw [mvD, List.mem_map]
  exact ⟨fun ⟨x, hx, e⟩ => ⟨x, (List.mem_filter.1 hx).1, (List.mem_filter.1 hx).2, e⟩, fun ⟨x, hx, h1, e⟩ => ⟨x, List.mem_filter.2 ⟨hx, h1⟩, e⟩⟩
theorem mem_sortd {l : List Nd} {y : Nd} : y ∈ sortd l ↔ y ∈ l := (sortd_perm l).mem_iff
theorem mvN_yes {a b : Bs} {x : Nd} (h : underL a (bs x.path) = true) : bs (mvN a b x).path = moveS (bs x.path) a b ∧ (mvN a b x).dir = x.dir := by
  rw [mvN, if_pos h]; exact ⟨bs_mk _, rfl⟩
theorem mvN_no {a b : Bs} {x : Nd} (h : underL a (bs x.path) = false) : mvN a b x = x := by
  rw [mvN, if_neg (by rw [h]; simp)]
theorem split_ne {p : Bs} (hE : splitE p = 0) (hp : p ≠ [47]) : splitL p ≠ [] := fun e => hp (split_root hE e)
theorem drop_self_len {α : Type} (l : List α) : l.drop l.length = [] := List.drop_length
/-- Who was moved there stands under the new place. -/
theorem Mv.down {l : List Nd} {a b : Bs} (h : Mv l a b) {x : Nd} (hx : x ∈ l) (hu : underL a (bs x.path) = true) : underL b (moveS (bs x.path) a b) = true := by
  obtain ⟨h1, h2⟩ := h.ok x hx hu
  exact under_iff.2 ⟨h.bE, h1, by rw [h2]; exact List.prefix_append _ _⟩
theorem Mv.moved_ne {l : List Nd} {a b : Bs} (h : Mv l a b) {x : Nd} (hx : x ∈ l) (hu : underL a (bs x.path) = true) : moveS (bs x.path) a b ≠ [47] := fun e => by
  obtain ⟨h1, h2⟩ := h.ok x hx hu
  rw [e, show splitL [47] = [] by decide] at h2
  exact split_ne h.bE h.bN (List.append_eq_nil_iff.1 h2.symm).1
theorem Mv.top {l : List Nd} {a b : Bs} (h : Mv l a b) {x : Nd} (hx : x ∈ l) (e : bs x.path = a) : moveS (bs x.path) a b = b := by
  obtain ⟨h1, h2⟩ := h.ok x hx (by rw [e]; exact under_self h.aE)
  refine split_inj h1 h.bE ?_
  rw [h2, e, List.drop_length, List.append_nil]
/-- The parent of what was moved. -/
theorem Mv.par {l : List Nd} {a b : Bs} (h : Mv l a b) {x z : Nd} (hx : x ∈ l) (hz : z ∈ l) (hu : underL a (bs x.path) = true) (hne : a ≠ bs x.path) (hzp : bs z.path = parD (bs x.path)) : underL a (bs z.path) = true ∧ parD (moveS (bs x.path) a b) = moveS (bs z.path) a b := by
  obtain ⟨hr, hpu⟩ := under_par hu hne
  have hzu : underL a (bs z.path) = true := by rw [hzp]; exact hpu
  obtain ⟨x1, x2⟩ := h.ok x hx hu
  obtain ⟨z1, z2⟩ := h.ok z hz hzu
  obtain ⟨_, n, hn⟩ := par_split (fits_split (h.R.fits x hx)) hr
  refine ⟨hzu, par_eq x1 z1 (n := n) ?_⟩
  have hle := (under_iff.1 hzu).2.2.length_le
  rw [x2, z2, hn, ← hzp, List.drop_append_of_le_length hle, List.append_assoc]
theorem fits_moved {x : Nd} {p : ByteArray} (h : fitsN x = true) (h1 : splitE (bs p) = 0) (h2 : bs p ≠ [47]) : fitsN { x with path := p } = true := by
  have hs := fits_split h
  cases hd : x.dir
  · simp only [fitsN, hd, Bool.and_eq_true, decide_eq_true_eq, Bool.not_eq_true', if_neg (show ¬ false = true by simp)] at h ⊢
    exact ⟨⟨⟨h1, h.1.1.2⟩, h.1.2⟩, ⟨⟨⟨by simpa using h2, h.2.1.1.1.2⟩, h.2.1.1.2⟩, h.2.1.2⟩, h.2.2⟩
  · simp only [fitsN, hd, Bool.and_eq_true, decide_eq_true_eq, if_pos (show true = true by rfl)] at h ⊢
    exact ⟨⟨⟨h1, h.1.1.2⟩, h.1.2⟩, h.2⟩
theorem Mv.keeps {l : List Nd} {a b : Bs} {x : Nd} (hp : bs x.path ≠ b) : mvK a b x = true := by
  rw [mvK]; simp [hp]
theorem mvK_up {a b : Bs} {x : Nd} (hu : underL a (bs x.path) = true) : mvK a b x = true := by rw [mvK, hu]; rfl
theorem mv_right {l : List Nd} {a b : Bs} (h : mvE l a b = 0) : RightP (sortd (mvD l a b)) := by
  have M := mv_of h
  have R := M.R
  refine ⟨?_, ?_, fun y hy => ?_, ?_, fun y hy hne => ?_⟩
  · rw [(sortd_perm _).length_eq, mvD, List.length_map]
    exact Nat.le_trans (List.length_filter_le _ _) R.len
  · exact sorted_rises (sortd_sorted _) ((((sortd_perm _).map fun x => bs x.path).nodup_iff).2 (mv_nodup h))
  · obtain ⟨x, hx, _, rfl⟩ := mem_mvD.1 (mem_sortd.1 hy)
    cases hu : underL a (bs x.path)
    · rw [mvN_no hu]; exact R.fits x hx
    · rw [mvN, if_pos hu]
      exact fits_moved (R.fits x hx) (by rw [bs_mk]; exact (M.ok x hx hu).1) (by rw [bs_mk]; exact M.moved_ne hx hu)
  · obtain ⟨r, hr, hrp⟩ := R.root
    exact ⟨r, mem_sortd.2 (mem_mvD.2 ⟨r, hr, Mv.keeps (l := l) (by rw [hrp]; exact fun e => M.bN e.symm), mvN_no (by rw [hrp]; exact under_root M.aN)⟩), hrp⟩
  · obtain ⟨x, hx, hk, rfl⟩ := mem_mvD.1 (mem_sortd.1 hy)
    cases hu : underL a (bs x.path)
    · rw [mvN_no hu] at hne ⊢
      obtain ⟨z, hz, hzp, hzd⟩ := R.up x hx hne
      have hzu : underL a (bs z.path) = false := by
        cases hzu : underL a (bs z.path)
        · rfl
        · rw [hzp] at hzu
          rw [under_trans hzu (par_under (fits_split (R.fits x hx)) hne)] at hu
          cases hu
      refine ⟨z, mem_sortd.2 (mem_mvD.2 ⟨z, hz, Mv.keeps (l := l) fun e => ?_, mvN_no hzu⟩), hzp, hzd⟩
      obtain ⟨s, hs, hsp⟩ := M.src
      rw [(M.clash s hs hsp z hz e).2] at hzd
      cases hzd
    · rw [(mvN_yes hu).1] at hne ⊢
      by_cases e : a = bs x.path
      · rw [M.top hx e.symm]
        obtain ⟨z, hz, hzp, hzd⟩ := M.dst
        have hbu := par_under M.bE M.bN
        refine ⟨z, mem_sortd.2 (mem_mvD.2 ⟨z, hz, Mv.keeps (l := l) fun e2 => ?_, mvN_no ?_⟩), hzp, hzd⟩
        · obtain ⟨_, n, hn⟩ := par_split M.bE M.bN
          rw [← hzp, e2] at hn
          have := congrArg List.length hn
          simp at this
        · cases hzu : underL a (bs z.path)
          · rfl
          · rw [hzp] at hzu
            have := M.no
            rw [under_trans hzu hbu] at this
            cases this
      · obtain ⟨hxr, _⟩ := under_par hu e
        obtain ⟨z, hz, hzp, hzd⟩ := R.up x hx hxr
        obtain ⟨hzu, hpar⟩ := M.par hx hz hu e hzp
        exact ⟨mvN a b z, mem_sortd.2 (mem_mvD.2 ⟨z, hz, mvK_up hzu, rfl⟩), by rw [(mvN_yes hzu).1, hpar], by rw [(mvN_yes hzu).2, hzd]⟩
/-- Nobody stands under the old place any more. -/
theorem Mv.gone {l : List Nd} {a b : Bs} (M : Mv l a b) {y : Nd} (hy : y ∈ mvD l a b) : bs y.path ≠ a := by
  obtain ⟨x, hx, hk, rfl⟩ := mem_mvD.1 hy
  intro e
  cases hu : underL a (bs x.path)
  · rw [mvN_no hu] at e
    rw [e, under_self M.aE] at hu
    cases hu
  · rw [(mvN_yes hu).1] at e
    have hd := M.down hx hu
    rw [e] at hd
    obtain ⟨s, hs, hsp⟩ := M.src
    obtain ⟨z, hz, hzp, hzd⟩ := up_in (p_right M.R) _ s hs rfl b (by rw [hsp]; exact hd)
    have hne : b ≠ bs s.path := fun e2 => by
      have := M.no
      rw [e2, hsp, under_self M.aE] at this
      cases this
    have := (M.clash s hs hsp z hz hzp).2
    rw [hzd hne] at this
    cases this
theorem Mv.there {l : List Nd} {a b : Bs} (M : Mv l a b) : ∃ y ∈ mvD l a b, bs y.path = b := by
  obtain ⟨s, hs, hsp⟩ := M.src
  have hu : underL a (bs s.path) = true := by rw [hsp]; exact under_self M.aE
  exact ⟨_, mem_mvD.2 ⟨s, hs, mvK_up hu, rfl⟩, by rw [(mvN_yes hu).1, M.top hs hsp]⟩
theorem move_less {l : List Nd} {a b : Bs} (h : mvE l a b = 0) : (mvL l a b).length ≤ l.length ∧ findI a (mvL l a b) < 0 ∧ 0 ≤ findI b (mvL l a b) ∧ rightT (mvL l a b) = true := by
  have M := mv_of h
  refine ⟨?_, ?_, ?_, ?_⟩
  · rw [mvL, List.length_map, (sortd_perm _).length_eq, mvD, List.length_map]
    exact List.length_filter_le _ _
  · rw [mvL, find_pur, find_none]
    exact fun y hy => M.gone (mem_sortd.1 hy)
  · rw [mvL, find_pur]
    obtain ⟨y, hy, e⟩ := M.there
    exact find_pos ⟨y, mem_sortd.2 hy, e⟩
  · rw [mvL, right_pur]
    exact p_right (mv_right h)

/-! There and back. -/
theorem Mv.no_b {l : List Nd} {a b : Bs} (M : Mv l a b) (hb : ∀ x ∈ l, bs x.path ≠ b) {x : Nd} (hx : x ∈ l) : underL b (bs x.path) = false := by
  cases hu : underL b (bs x.path)
  · rfl
  · obtain ⟨z, hz, hzp, _⟩ := up_in (p_right M.R) _ x hx rfl b hu
    exact absurd hzp (hb z hz)
theorem Mv.back_path {l : List Nd} {a b : Bs} (M : Mv l a b) {x : Nd} (hx : x ∈ l) (hu : underL a (bs x.path) = true) : moveE (moveS (bs x.path) a b) b a = 0 ∧ moveS (moveS (bs x.path) a b) b a = bs x.path := by
  obtain ⟨h1, h2⟩ := M.ok x hx hu
  have hd := M.down hx hu
  have hok : Path.moveOk (moveS (bs x.path) a b) b a = true := by rw [Path.moveOk, hd]; simp [M.aE]
  have hxE := fits_split (M.R.fits x hx)
  have hn : Path.moveN (moveS (bs x.path) a b) b a = splitL (bs x.path) := by
    rw [Path.moveN, h2, List.drop_left]
    have := (under_iff.1 hu).2.2
    obtain ⟨r, hr⟩ := this
    rw [← hr, List.drop_left]
  obtain ⟨g1, g2⟩ := Path.split_ok hxE
  refine ⟨by rw [moveE, if_pos hok, hn]; exact g1, ?_⟩
  rw [moveS, if_pos hok, hn, Path.joinS, if_pos g1, g2]
theorem mvD_all {l : List Nd} {a b : Bs} (hb : ∀ x ∈ l, bs x.path ≠ b) : mvD l a b = l.map (mvN a b) := by
  rw [mvD, List.filter_eq_self.2 fun x hx => Mv.keeps (l := l) (hb x hx)]
theorem mvN_back {l : List Nd} {a b : Bs} (M : Mv l a b) (hb : ∀ x ∈ l, bs x.path ≠ b) {x : Nd} (hx : x ∈ l) : mvK b a (mvN a b x) = true ∧ mvN b a (mvN a b x) = x := by
  cases hu : underL a (bs x.path)
  · rw [mvN_no hu]
    refine ⟨Mv.keeps (l := l) fun e => ?_, mvN_no (M.no_b hb hx)⟩
    rw [e, under_self M.aE] at hu; cases hu
  · have hd := M.down hx hu
    have h1 : underL b (bs (mvN a b x).path) = true := by rw [(mvN_yes hu).1]; exact hd
    refine ⟨mvK_up h1, ?_⟩
    rw [mvN, if_pos h1, (mvN_yes hu).1, (M.back_path hx hu).2, mvN, if_pos hu, mk_bs]
theorem mv_back {l : List Nd} {a b : Bs} (h : mvE l a b = 0) (hno : findI b l < 0) : mvE (sortd (mvD l a b)) b a = 0 ∧ mvL (sortd (mvD l a b)) b a = l.map pur := by
  have M := mv_of h
  have hb := find_none.1 hno
  have hmem : ∀ y, y ∈ sortd (mvD l a b) ↔ ∃ x ∈ l, mvN a b x = y := fun y => by
    rw [mem_sortd, mvD_all hb, List.mem_map]
  have hR := mv_right h
  refine ⟨of_mv ⟨hR, M.bE, M.aE, M.bN, M.aN, ?_, ?_, ?_, ?_, ?_⟩ ?_, ?_⟩
  · obtain ⟨s, hs, hsp⟩ := M.src
    have := M.no_b hb hs
    rwa [hsp] at this
  · obtain ⟨y, hy, e⟩ := M.there
    exact ⟨y, mem_sortd.2 hy, e⟩
  · obtain ⟨s, hs, hsp⟩ := M.src
    obtain ⟨z, hz, hzp, hzd⟩ := M.R.up s hs (by rw [hsp]; exact M.aN)
    rw [hsp] at hzp
    have hzu : underL a (bs z.path) = false := by
      cases hzu : underL a (bs z.path)
      · rfl
      · obtain ⟨_, n, hn⟩ := par_split M.aE M.aN
        have h3 := (under_iff.1 hzu).2.2.length_le
        rw [hzp] at h3
        have := congrArg List.length hn
        rw [List.length_append] at this
        simp at this
        omega
    exact ⟨z, (hmem z).2 ⟨z, hz, mvN_no hzu⟩, hzp, hzd⟩
  · intro x _ _ y hy e
    exact absurd e (M.gone (mem_sortd.1 hy))
  · intro y hy hu
    obtain ⟨x, hx, rfl⟩ := (hmem y).1 hy
    cases hxu : underL a (bs x.path)
    · rw [mvN_no hxu, M.no_b hb hx] at hu; cases hu
    · have hbp := M.back_path hx hxu
      rw [(mvN_yes hxu).1] at hu ⊢
      exact (moved_split hu hbp.1).2
  · intro y hy hu
    obtain ⟨x, hx, rfl⟩ := (hmem y).1 hy
    cases hxu : underL a (bs x.path)
    · rw [mvN_no hxu, M.no_b hb hx] at hu; cases hu
    · rw [(mvN_yes hxu).1]
      exact (M.back_path hx hxu).1
  · have hp : (mvD (sortd (mvD l a b)) b a).Perm l := by
      have h1 : (mvD (sortd (mvD l a b)) b a).Perm (mvD (mvD l a b) b a) := by
        exact ((sortd_perm _).filter (mvK b a)).map (mvN b a)
      refine h1.trans ?_
      rw [mvD_all hb, mvD, List.filter_eq_self.2, List.map_map, List.map_congr_left (g := id), List.map_id]
      · exact fun x hx => (mvN_back M hb hx).2
      · intro y hy
        obtain ⟨x, hx, rfl⟩ := List.mem_map.1 hy
        exact (mvN_back M hb hx).1
    have hs : Sorted (sortd (mvD (sortd (mvD l a b)) b a)) := sortd_sorted _
    exact perm_rises (p := l.map pur) (((sortd_perm _).trans hp).map pur) hs (List.pairwise_map.2 (M.R.rises.imp fun {a b} h => h))
theorem mvN_pur (a b : Bs) (x : Nd) : mvN a b (pur x) = pur (mvN a b x) := by
  rw [mvN, mvN, show (pur x).path = x.path from rfl]
  split <;> rfl
theorem ins_pur (n : Nd) : ∀ l : List Nd, (ins n l).map pur = ins (pur n) (l.map pur)
  | [] => rfl
  | y :: t => by
    rw [ins, List.map_cons, ins]
    show List.map pur (if ltB (bs n.path) (bs y.path) = true then _ else _) = if ltB (bs n.path) (bs y.path) = true then _ else _
    split
    · rfl
    · rw [List.map_cons, ins_pur n t]
theorem foldl_pur : ∀ (l o : List Nd), (l.foldl (fun o x => ins x o) o).map pur = (l.map pur).foldl (fun o x => ins x o) (o.map pur)
  | [], o => rfl
  | x :: t, o => by rw [List.foldl_cons, foldl_pur t, ins_pur, List.map_cons, List.foldl_cons]
theorem sortd_pur (l : List Nd) : (sortd l).map pur = sortd (l.map pur) := foldl_pur l []
theorem mvD_pur (l : List Nd) (a b : Bs) : (mvD l a b).map pur = mvD (l.map pur) a b := by
  rw [mvD, mvD, ← filter_pur _ (fun _ => rfl), List.map_map, List.map_map]
  exact List.map_congr_left fun x _ => (mvN_pur a b x).symm
theorem mvL_same {q m : List Nd} (e : q.map pur = m.map pur) (a b : Bs) : mvL q a b = mvL m a b := by
  rw [mvL, mvL, sortd_pur, sortd_pur, mvD_pur, mvD_pur, e]
theorem Mv.same {q m : List Nd} (e : q.map pur = m.map pur) {a b : Bs} (h : Mv m a b) : Mv q a b := by
  have hm : ∀ x ∈ q, ∃ y ∈ m, pur x = pur y := fun x hx => by
    have : pur x ∈ m.map pur := by rw [← e]; exact List.mem_map_of_mem hx
    obtain ⟨y, hy, hyx⟩ := List.mem_map.1 this
    exact ⟨y, hy, hyx.symm⟩
  have hm' : ∀ x ∈ m, ∃ y ∈ q, pur x = pur y := fun x hx => by
    have : pur x ∈ q.map pur := by rw [e]; exact List.mem_map_of_mem hx
    obtain ⟨y, hy, hyx⟩ := List.mem_map.1 this
    exact ⟨y, hy, hyx.symm⟩
  have pf : ∀ {x y : Nd}, pur x = pur y → bs x.path = bs y.path ∧ x.dir = y.dir := fun h => ⟨by rw [(pur_facts h).1], (pur_facts h).2.1⟩
  refine ⟨right_p (by rw [right_same e]; exact p_right h.R), h.aE, h.bE, h.aN, h.bN, h.no, ?_, ?_, fun x hx ex y hy ey => ?_, fun x hx hu => ?_⟩
  · obtain ⟨x, hx, e⟩ := h.src
    obtain ⟨y, hy, hyx⟩ := hm' x hx
    exact ⟨y, hy, by rw [← (pf hyx).1, e]⟩
  · obtain ⟨x, hx, e1, e2⟩ := h.dst
    obtain ⟨y, hy, hyx⟩ := hm' x hx
    exact ⟨y, hy, by rw [← (pf hyx).1, e1], by rw [← (pf hyx).2, e2]⟩
  · obtain ⟨x', hx', e1⟩ := hm x hx
    obtain ⟨y', hy', e2⟩ := hm y hy
    have := h.clash x' hx' (by rw [← (pf e1).1, ex]) y' hy' (by rw [← (pf e2).1, ey])
    rw [(pf e1).2, (pf e2).2]
    exact this
  · obtain ⟨x', hx', e1⟩ := hm x hx
    rw [(pf e1).1] at hu ⊢
    exact h.ok x' hx' hu
theorem mvE_same {q m : List Nd} (e : q.map pur = m.map pur) {a b : Bs} (h : mvE m a b = 0) : mvE q a b = 0 := by
  have M := mv_of h
  refine of_mv (M.same e) fun x hx hu => ?_
  have : pur x ∈ m.map pur := by rw [← e]; exact List.mem_map_of_mem hx
  obtain ⟨y, hy, hyx⟩ := List.mem_map.1 this
  have hp : bs y.path = bs x.path := by rw [(pur_facts hyx).1]
  obtain ⟨_, _, _, _, _, _, _, _, _, _, hbad⟩ := mvE_zero h
  have := List.any_eq_false.1 hbad y hy
  rw [mvBad, hp, hu] at this
  simpa using this
end Go.Proofs.YtpghaghmejgjbaaGreatDoor.Tree
