/- Parts of the proof, one behind the other: Ua, Uc, Uh, Ui, Un. -/
import Derived.Test.YtdfckkadmgmcaaaGreatDoorGc
/- Trees (chapter 7): the chapter's tree and examples. -/
namespace Go.Proofs.YtdfckkadmgmcaaaGreatDoor.Tree
open Go.RowKit
open Path (Bs bs mk bs_mk mk_bs tl_bs splitE splitL MaxC rd_cellsS OwnS)
set_option linter.unusedSimpArgs false
set_option linter.unusedVariables false

def dirN (p : ByteArray) : Nd := ⟨p, true, -1, [], .slice none 0 0, -1⟩
def fileN (p : ByteArray) : Nd := ⟨p, false, -1, [], .slice none 0 0, -1⟩
theorem rdB_nil (w : World) : Rd w 3 encB (.slice none 0 0) [] := ⟨_, _, rfl, Nat.le_refl _, Nat.zero_le _, fun i x hx => by cases hx⟩
/-- A row of nodes without blocks, laid in a block of its own. -/
theorem lit_rd {w : World} {B n : Nat} {cs : Array Value} {l : List Nd} (h : w.heap[B]? = some (.cells cs 35 (0, 0))) (hl : l.length = n) (hm : n ≤ maxLen) (hc : cs.toList = flatN l) (hz : ∀ x ∈ l, x.bv = .slice none 0 0 ∧ x.blocks = []) : RdN w (.slice (some ⟨B, 0, none⟩) n n) l := by
  subst hl
  refine ⟨⟨_, _, rfl, Nat.le_refl _, hm, fun i x hx => ⟨B, 0, rfl, lt_of_block h, fun j u hu => ?_⟩⟩, fun x hx => ?_⟩
  · rw [cell_of_blk h]
    have hj := (List.getElem?_eq_some_iff.1 hu).1
    have h2 := flat_get encN 5 encN_len l i j _ hx (by simpa [encN_len] using hj)
    rw [← Array.getElem?_toList, hc, Nat.zero_add, flatN, h2, hu]
  · rw [(hz x hx).1, (hz x hx).2]; exact rdB_nil w
def baseL : List Nd := [dirN ⟨#[47]⟩, dirN ⟨#[47, 97]⟩, fileN ⟨#[47, 97, 47, 120]⟩, dirN ⟨#[47, 98]⟩]
def movedL : List Nd := [dirN ⟨#[47]⟩, dirN ⟨#[47, 98]⟩, dirN ⟨#[47, 98, 47, 99]⟩, fileN ⟨#[47, 98, 47, 99, 47, 120]⟩]
theorem ex_facts : listE baseL (bs ⟨#[47]⟩) = 0 ∧ (listN baseL (bs ⟨#[47]⟩)).map bs = [[97], [98]] ∧ addE baseL (fileN ⟨#[47, 97, 47, 120, 47, 121]⟩) = 7 ∧ mvE baseL (bs ⟨#[47, 97]⟩) (bs ⟨#[47, 97, 47, 98]⟩) = 1 ∧ mvE baseL (bs ⟨#[47, 97]⟩) (bs ⟨#[47, 98, 47, 99]⟩) = 0 ∧ rightT baseL = true := by decide +kernel
theorem ex_facts2 : mvL baseL (bs ⟨#[47, 97]⟩) (bs ⟨#[47, 98, 47, 99]⟩) = movedL := by kernel_rfl
theorem two_rd {w : World} {B : Nat} {t : TypeId} {a b : ByteArray} (h : w.heap[B]? = some (.cells #[.string a, .string b] t (0, 0))) : Rd w 1 Path.encS (.slice (some ⟨B, 0, none⟩) 2 2) [a, b] := by
  refine ⟨_, _, rfl, Nat.le_refl _, by decide, fun i x hx => ⟨B, 0, rfl, lt_of_block h, fun j u hu => ?_⟩⟩
  rw [cell_of_blk h]
  rcases i with _ | _ | i
  all_goals simp only [List.getElem?_cons_zero, List.getElem?_cons_succ, Option.some.injEq, List.getElem?_nil, reduceCtorEq, Nat.zero_add, Nat.reduceAdd, Nat.reduceMul] at hx
  all_goals
    subst hx
    rcases j with _ | j
    all_goals first | (simp [Path.encS] at hu; done) | (simpa [Path.encS] using hu)
end Go.Proofs.YtdfckkadmgmcaaaGreatDoor.Tree

/- Trees (chapter 7), plain: TreeRefuses. -/
namespace Go.Proofs.YtdfckkadmgmcaaaGreatDoor.Tree
open Go.RowKit
open Path (Bs bs mk bs_mk mk_bs tl_bs splitE splitL MaxC parD parE parN nameL)
set_option linter.unusedSimpArgs false
set_option linter.unusedVariables false

theorem last_part {a b n m : Bs} (hn : (47 : UInt8) ∉ n) (hm : (47 : UInt8) ∉ m) (e : a ++ [47] ++ n = b ++ [47] ++ m) : a = b ∧ n = m := by
  have key : ∀ (a b k : Bs), b ++ [(47 : UInt8)] = a ++ [47] ++ k → k ≠ [] → (47 : UInt8) ∈ k := fun a b k h hk => by
    have h1 := congrArg List.getLast? h
    rw [List.getLast?_append, List.getLast?_append] at h1
    cases h2 : k.getLast? with
    | none => exact absurd (List.getLast?_eq_none_iff.1 h2) hk
    | some u =>
      rw [h2] at h1
      simp at h1
      rw [← h1] at h2
      exact List.mem_of_getLast? h2
  rcases List.append_eq_append_iff.1 e with ⟨k, h1, h2⟩ | ⟨k, h1, h2⟩
  · by_cases hk : k = []
    · subst hk
      simp at h1 h2
      exact ⟨h1.symm, h2⟩
    · exact absurd (by rw [h2]; exact List.mem_append_left _ (key a b k h1 hk)) hn
  · by_cases hk : k = []
    · subst hk
      simp at h1 h2
      exact ⟨h1, h2.symm⟩
    · exact absurd (by rw [h2]; exact List.mem_append_left _ (key b a k h1 hk)) hm
theorem inD_form (p : Bs) : ∃ a, inD p = a ++ [47] := by
  rw [inD]
  split
  · exact ⟨[], rfl⟩
  · exact ⟨p, rfl⟩
theorem inD_eq {d e : Bs} (hd : splitE d = 0) (he : splitE e = 0) (h : inD d = inD e) : d = e := by
  have nn : ∀ q : Bs, splitE q = 0 → q ≠ [] := fun q hq e => by rw [e] at hq; exact absurd hq (by decide)
  by_cases h1 : d = [47] <;> by_cases h2 : e = [47]
  · rw [h1, h2]
  · rw [h1, inD, if_pos rfl, inD, if_neg h2] at h
    have : e = [] := by cases e with
      | nil => rfl
      | cons a t => have := congrArg List.length h; simp at this
    exact absurd this (nn e he)
  · rw [h2, inD, if_neg h1, inD, if_pos rfl] at h
    have : d = [] := by cases d with
      | nil => rfl
      | cons a t => have := congrArg List.length h; simp at this
    exact absurd this (nn d hd)
  · rw [inD, if_neg h1, inD, if_neg h2] at h
    exact List.append_cancel_right h
theorem par_join {d n : Bs} (hd : splitE d = 0) (hn : nameL n = true) (hE : splitE (inD d ++ n) = 0) : parD (inD d ++ n) = d ∧ parN (inD d ++ n) = n ∧ inD d ++ n ≠ [47] := by
  obtain ⟨a, ha⟩ := inD_form d
  have hne : inD d ++ n ≠ [47] := fun e => by
    have h1 := Path.name_ne hn
    rw [ha] at e
    have := congrArg List.length e
    have h2 : 0 < n.length := List.length_pos_iff.2 h1
    simp at this
    omega
  obtain ⟨h1, h2, h3, _, _⟩ := path_form hE hne
  obtain ⟨b, hb⟩ := inD_form (parD (inD d ++ n))
  have h4 : a ++ [47] ++ n = b ++ [47] ++ parN (inD d ++ n) := by rw [← ha, ← hb]; exact h1
  obtain ⟨h5, h6⟩ := last_part (Path.name_slash hn) (Path.name_slash h2) h4
  exact ⟨(inD_eq hd h3 (ha.trans ((congrArg (· ++ [47]) h5).trans hb.symm))).symm, h6.symm, hne⟩

theorem mem_find {l : List Nd} (h : rightT l = true) {x : Nd} (hx : x ∈ l) : l.find? (fun y => bs y.path == bs x.path) = some x := by
  obtain ⟨i, hi, rfl⟩ := List.mem_iff_getElem.1 hx
  exact find_at (right_rises h) (List.getElem?_eq_getElem hi)
theorem ref_exist {l : List Nd} (h : rightT l = true) {x : Nd} (hx : x ∈ l) (hp : bs x.path ≠ [47]) : addE l (dirN x.path) = 6 := by
  have hs := right_splits h hx
  have hf : fitsN (dirN x.path) = true := by simp [fitsN, dirN, hs]
  rw [addE, if_pos ⟨h, hf, hp⟩, if_pos (by rw [show (dirN x.path).path = x.path from rfl, mem_find h hx]; rfl)]
theorem ref_arg {l : List Nd} (h : rightT l = false) (n : Nd) : addE l n = 1 := by
  rw [addE, if_neg (fun hc => by rw [h] at hc; cases hc.1)]
theorem file_fits {p : ByteArray} (h : fitsN (fileN p) = true) : splitE (bs p) = 0 ∧ bs p ≠ [47] := by
  simp only [fitsN, fileN, Bool.and_eq_true, decide_eq_true_eq] at h
  refine ⟨of_decide_eq_true h.1.1.1, ?_⟩
  have h2 := h.2
  simp at h2
  exact h2
/-- A file of a good name beside what is there. -/
theorem ref_new {l : List Nd} (h : rightT l = true) {x : Nd} (hx : x ∈ l) {p : ByteArray} {n : Bs} (hp : bs p = inD (bs x.path) ++ n) (hn : nameL n = true) (hf : fitsN (fileN p) = true) (hno : findI (bs p) l < 0) :
    addE l (fileN p) = if x.dir = true then (if 60 ≤ l.length then 4 else 0) else 7 := by
  obtain ⟨hE, h47⟩ := file_fits hf
  rw [hp] at hE
  obtain ⟨hpd, _, _⟩ := par_join (right_splits h hx) hn hE
  have hfd : l.find? (fun y => bs y.path == bs p) = none := by
    rcases find_facts (bs p) l with ⟨_, h2⟩ | ⟨i, y, h1, _⟩
    · exact h2
    · rw [h1] at hno; omega
  have hd : dirE l (bs p) = if x.dir = true then 0 else 7 := by
    rw [dirE, hp, hpd, mem_find h hx]
  rw [addE, if_pos ⟨h, hf, h47⟩, show (fileN p).path = p from rfl, hfd, if_neg (by simp), hd]
  cases x.dir <;> simp
/-- .. and below that file nothing. -/
theorem ref_below {l : List Nd} {p q : ByteArray} {n : Bs} (hE : splitE (bs p) = 0) (h47 : bs p ≠ [47]) (hq : bs q = bs p ++ 47 :: n) (hn : nameL n = true) (hno : findI (bs p) l < 0) : addE l (fileN q) ≠ 0 := by
  intro h0
  rw [addE] at h0
  split at h0
  · rename_i hc
    obtain ⟨hr, hf, _⟩ := hc
    split at h0
    · cases h0
    · split at h0
      · rename_i hne; exact hne h0
      · rename_i hde
        have hde : dirE l (bs q) = 0 := Classical.not_not.1 hde
        have hqi : bs q = inD (bs p) ++ n := by rw [hq, inD, if_neg h47]; simp
        have hqE : splitE (bs q) = 0 := (file_fits hf).1
        rw [hqi] at hqE
        obtain ⟨hpd, _, _⟩ := par_join hE hn hqE
        rw [dirE, hqi, hpd] at hde
        rcases find_facts (bs p) l with ⟨_, h2⟩ | ⟨i, y, h1, _⟩
        · rw [h2] at hde; cases hde
        · rw [h1] at hno; omega
  · cases h0
theorem find_in {q : List Nd} {p : ByteArray} {x : Nd} (hx : x ∈ q) (e : bs x.path = bs p) : 0 ≤ findI (bs p) q := by
  rcases find_facts (bs p) q with ⟨_, h2⟩ | ⟨i, y, h1, _⟩
  · rw [List.find?_eq_none] at h2
    exact absurd (by simpa using e) (h2 x hx)
  · rw [h1]; omega
theorem pur_in {q m : List Nd} (e : q.map pur = m.map pur) {x : Nd} (hx : x ∈ m) : ∃ y ∈ q, y.path = x.path := by
  have : pur x ∈ q.map pur := by rw [e]; exact List.mem_map_of_mem hx
  obtain ⟨y, hy, h⟩ := List.mem_map.1 this
  exact ⟨y, hy, (pur_facts h).1⟩
theorem add_in {q l : List Nd} {n : Nd} (e : q.map pur = addL l n) : 0 ≤ findI (bs n.path) q := by
  obtain ⟨y, hy, h⟩ := pur_in (m := ins n l) e ((ins_perm n l).mem_iff.2 (List.mem_cons_self ..))
  exact find_in hy (by rw [h])
end Go.Proofs.YtdfckkadmgmcaaaGreatDoor.Tree

/- Trees (chapter 7), plain: what Add, Remove and Move tell is a tree; what is moved back is as it was. -/
namespace Go.Proofs.YtdfckkadmgmcaaaGreatDoor.Tree
open Go.RowKit
open Path (Bs bs mk bs_mk mk_bs tl_bs splitE splitL MaxC parD parE parN nameL underL under_iff under_trans under_anti moveE moveS joinP split_inj)
set_option linter.unusedSimpArgs false
set_option linter.unusedVariables false

theorem split_root {p : Bs} (hE : splitE p = 0) (h : splitL p = []) : p = [47] := split_inj hE (by decide) (by rw [h]; decide)
theorem par_split {p : Bs} (hE : splitE p = 0) (hp : p ≠ [47]) : splitE (parD p) = 0 ∧ ∃ n, splitL p = splitL (parD p) ++ [n] := by
  have hL : splitL p ≠ [] := fun e => hp (split_root hE e)
  obtain ⟨init, n, pre, h⟩ := Path.par_yes hE hL
  have hm := Path.par_more hE h
  exact ⟨by rw [h.D]; exact hm.dE, n, by rw [h.D, hm.dL]; exact h.L⟩
theorem par_eq {q z : Bs} {n : Bs} (hq : splitE q = 0) (hz : splitE z = 0) (h : splitL q = splitL z ++ [n]) : parD q = z := by
  have hne : q ≠ [47] := fun e => by
    rw [e, show splitL [47] = [] by decide] at h
    have := congrArg List.length h; simp at this
  obtain ⟨h1, m, h2⟩ := par_split hq hne
  refine split_inj h1 hz ?_
  rw [h2] at h
  exact (List.append_inj' h rfl).1
theorem under_self {p : Bs} (h : splitE p = 0) : underL p p = true := under_iff.2 ⟨h, h, List.prefix_refl _⟩
theorem par_under {p : Bs} (hE : splitE p = 0) (hp : p ≠ [47]) : underL (parD p) p = true := by
  obtain ⟨h1, n, h2⟩ := par_split hE hp
  exact under_iff.2 ⟨h1, hE, by rw [h2]; exact List.prefix_append _ _⟩
/-- What is under p, and is not p, has its parent under p. -/
theorem under_par {a p : Bs} (h : underL a p = true) (hne : a ≠ p) : p ≠ [47] ∧ underL a (parD p) = true := by
  obtain ⟨h1, h2, h3⟩ := under_iff.1 h
  have hp : p ≠ [47] := fun e => by
    rw [e, show splitL [47] = [] by decide] at h3
    exact hne ((split_root h1 (List.prefix_nil.1 h3)).trans e.symm)
  obtain ⟨g1, n, g2⟩ := par_split h2 hp
  refine ⟨hp, under_iff.2 ⟨h1, g1, ?_⟩⟩
  rw [g2] at h3
  rcases List.prefix_concat_iff.1 h3 with h4 | h4
  · exact absurd (split_inj h1 h2 (h4.trans g2.symm)) hne
  · exact h4

/-- A tree, in other words. -/
structure RightP (l : List Nd) : Prop where
  len : l.length ≤ 60
  rises : Rises l
  fits : ∀ x ∈ l, fitsN x = true
  root : ∃ x ∈ l, bs x.path = [47]
  up : ∀ x ∈ l, bs x.path ≠ [47] → ∃ z ∈ l, bs z.path = parD (bs x.path) ∧ z.dir = true
theorem right_p {l : List Nd} (h : rightT l = true) : RightP l :=
  ⟨right_len h, right_rises h, fun x hx => right_fits h hx, right_nonempty h, fun x hx hp => par_in h (in_tail h hx hp)⟩
theorem fits_split {x : Nd} (h : fitsN x = true) : splitE (bs x.path) = 0 := by
  simp only [fitsN, Bool.and_eq_true, decide_eq_true_eq] at h
  exact h.1.1.1
theorem fits_root {x : Nd} (h : fitsN x = true) (hp : bs x.path = [47]) : x.dir = true := by
  cases hd : x.dir
  · simp [fitsN, hd, hp] at h
  · rfl
theorem not_lt_root {p : Bs} (h : splitE p = 0) : ltB p [47] = false := by
  have := (Path.split_ok h).2
  rw [joinP] at this
  rw [← this]
  generalize [(47 : UInt8)].intercalate (splitL p) = t
  cases t <;> simp [ltB, Op.bytesLess]
theorem find_mem {l : List Nd} (h : Rises l) {x : Nd} (hx : x ∈ l) : l.find? (fun y => bs y.path == bs x.path) = some x := by
  obtain ⟨i, hi, rfl⟩ := List.mem_iff_getElem.1 hx
  exact find_at h (List.getElem?_eq_getElem hi)
theorem p_right {l : List Nd} (h : RightP l) : rightT l = true := by
  obtain ⟨r, hr, hrp⟩ := h.root
  simp only [rightT, rightA, Bool.and_eq_true, Bool.not_eq_true']
  refine ⟨⟨?_, ?_⟩, ?_⟩
  · cases l with
    | nil => cases hr
    | cons x t =>
      have hx : bs x.path = [47] := by
        rcases List.mem_cons.1 hr with rfl | hr
        · exact hrp
        · have h1 := List.rel_of_pairwise_cons h.rises hr
          rw [hrp, not_lt_root (fits_split (h.fits x (List.mem_cons_self ..)))] at h1
          cases h1
      simp only [headOk, Bool.and_eq_true, decide_eq_true_eq]
      exact ⟨⟨h.len, by simpa using hx⟩, fits_root (h.fits x (List.mem_cons_self ..)) hx⟩
  · refine List.all_eq_true.2 fun k hk => ?_
    have hk : k < l.length := List.mem_range.1 hk
    have hx : l[k]? = some l[k] := by simp [hk]
    rw [okA, hx]
    simp only [Bool.and_eq_true]
    refine ⟨h.fits _ (List.getElem_mem hk), ?_⟩
    cases k with
    | zero => rfl
    | succ j =>
      have hy : l[j]? = some l[j] := by simp [show j < l.length by omega]
      simp only [hy]
      exact rises_get h.rises hy hx (Nat.lt_succ_self j)
  · rw [List.any_eq_false]
    intro x hx
    have hxl := tail_in hx
    have hne : bs x.path ≠ [47] := fun e => by
      cases l with
      | nil => cases hr
      | cons y t =>
        have h1 := List.rel_of_pairwise_cons h.rises (show x ∈ t from hx)
        rw [e, not_lt_root (fits_split (h.fits y (List.mem_cons_self ..)))] at h1
        cases h1
    obtain ⟨z, hz, hzp, hzd⟩ := h.up x hxl hne
    rw [dirBad, dirE, ← hzp, find_mem h.rises hz]
    simp [hzd]

/-! What hangs on all but the place of the blocks. -/
theorem keys_pur (l : List Nd) : keys (l.map pur) = keys l := by rw [keys, keys, List.map_map]; rfl
theorem keys_same {q m : List Nd} (e : q.map pur = m.map pur) : keys q = keys m := by rw [← keys_pur q, e, keys_pur]
theorem fits_pur (x : Nd) : fitsN (pur x) = fitsN x := rfl
theorem fits_same {q m : List Nd} (e : q.map pur = m.map pur) (h : ∀ x ∈ m, fitsN x = true) : ∀ x ∈ q, fitsN x = true := fun x hx => by
  have : pur x ∈ m.map pur := by rw [← e]; exact List.mem_map_of_mem hx
  obtain ⟨y, hy, hyx⟩ := List.mem_map.1 this
  rw [← fits_pur, ← hyx, fits_pur]
  exact h y hy
theorem right_same {q m : List Nd} (e : q.map pur = m.map pur) : rightT q = rightT m := by
  have h1 : ∀ {q m : List Nd}, q.map pur = m.map pur → rightT m = true → rightT q = true := fun e h => right_keys (keys_same e) (fits_same e (right_p h).fits) h
  cases hm : rightT m
  · cases hq : rightT q
    · rfl
    · rw [h1 e.symm hq] at hm; cases hm
  · exact h1 e hm
theorem right_pur (l : List Nd) : rightT (l.map pur) = rightT l := right_same (by rw [List.map_map]; rfl)
theorem fiN_map (f : Nd → Bool) (g : Nd → Nd) (l : List Nd) : fiN f (l.map g) = fiN (f ∘ g) l := by
  rw [fiN, fiN, List.findIdx?_map]
theorem find_pur (p : Bs) (l : List Nd) : findI p (l.map pur) = findI p l := by rw [findI, fiN_map]; rfl
theorem find_same {q m : List Nd} (e : q.map pur = m.map pur) (p : Bs) : findI p q = findI p m := by rw [← find_pur, e, find_pur]
theorem isSome_pur (p : Bs) (l : List Nd) : ((l.map pur).find? fun x => bs x.path == p).isSome = (l.find? fun x => bs x.path == p).isSome := by
  rw [List.find?_map, Option.isSome_map]; rfl
theorem isSome_same {q m : List Nd} (e : q.map pur = m.map pur) (p : Bs) : (q.find? fun x => bs x.path == p).isSome = (m.find? fun x => bs x.path == p).isSome := by
  rw [← isSome_pur, e, isSome_pur]
theorem rmE_same {q m : List Nd} (e : q.map pur = m.map pur) (p : Bs) : rmE q p = rmE m p := by
  rw [rmE, rmE, right_same e, isSome_same e]
theorem filter_pur (f : Nd → Bool) (hf : ∀ x, f (pur x) = f x) (l : List Nd) : (l.filter f).map pur = (l.map pur).filter f := by
  rw [List.filter_map]
  congr 1
  exact List.filter_congr fun x _ => (hf x).symm
theorem rmL_same {q m : List Nd} (e : q.map pur = m.map pur) (p : Bs) : rmL q p = rmL m p := by
  rw [rmL, rmL, filter_pur _ (fun _ => rfl), e, ← filter_pur _ (fun _ => rfl)]
theorem find_none {l : List Nd} {p : Bs} : findI p l < 0 ↔ ∀ x ∈ l, bs x.path ≠ p := by
  rcases find_facts p l with ⟨h1, h2⟩ | ⟨i, y, h1, h2, h3⟩
  · rw [h1]
    refine ⟨fun _ x hx e => ?_, fun _ => by omega⟩
    exact absurd (by simpa using e) (List.find?_eq_none.1 h2 x hx)
  · rw [h1]
    refine ⟨fun h => by omega, fun h => ?_⟩
    exact absurd (by simpa using List.find?_some h3) (h y (List.mem_of_find?_eq_some h3))
theorem find_neg {l : List Nd} {p : Bs} : findI p l < 0 ↔ l.find? (fun x => bs x.path == p) = none := by
  rw [find_none, List.find?_eq_none]
  exact forall_congr' fun x => forall_congr' fun _ => by simp
theorem find_pos {l : List Nd} {p : Bs} (h : ∃ x ∈ l, bs x.path = p) : 0 ≤ findI p l := by
  obtain ⟨x, hx, e⟩ := h
  by_cases hc : findI p l < 0
  · exact absurd e (find_none.1 hc x hx)
  · omega

/-! Add. -/
theorem addE_zero {l : List Nd} {n : Nd} (h : addE l n = 0) : rightT l = true ∧ fitsN n = true ∧ bs n.path ≠ [47] ∧ findI (bs n.path) l < 0 ∧ (∃ z ∈ l, bs z.path = parD (bs n.path) ∧ z.dir = true) ∧ l.length < 60 := by
  rw [addE] at h
  split at h
  · rename_i hc
    split at h
    · cases h
    · rename_i hno
      split at h
      · rename_i hne; exact absurd h hne
      · rename_i hde
        split at h
        · cases h
        · rename_i h60
          refine ⟨hc.1, hc.2.1, hc.2.2, find_neg.2 ?_, ?_, by omega⟩
          · cases hf : l.find? (fun x => bs x.path == bs n.path) with
            | none => rfl
            | some x => rw [hf] at hno; exact absurd rfl hno
          · have hde : dirE l (bs n.path) = 0 := Classical.not_not.1 hde
            rw [dirE] at hde
            cases hf : l.find? (fun y => bs y.path == parD (bs n.path)) with
            | none => rw [hf] at hde; cases hde
            | some z =>
              rw [hf] at hde
              refine ⟨z, List.mem_of_find?_eq_some hf, by simpa using List.find?_some hf, ?_⟩
              cases hd : z.dir
              · simp [hd] at hde
              · rfl
  · cases h
theorem add_right {l : List Nd} {n : Nd} (h : addE l n = 0) : RightP (ins n l) := by
  obtain ⟨hr, hf, hp, hno, ⟨z, hz, hzp, hzd⟩, hl⟩ := addE_zero h
  have R := right_p hr
  have hm : ∀ x, x ∈ ins n l ↔ x = n ∨ x ∈ l := fun x => by rw [(ins_perm n l).mem_iff, List.mem_cons]
  refine ⟨by rw [(ins_perm n l).length_eq, List.length_cons]; omega, rises_ins R.rises fun y hy => find_none.1 hno y hy, fun x hx => ?_, ?_, fun x hx hne => ?_⟩
  · rcases (hm x).1 hx with rfl | hx
    · exact hf
    · exact R.fits x hx
  · obtain ⟨r, hr, hrp⟩ := R.root
    exact ⟨r, (hm r).2 (.inr hr), hrp⟩
  · rcases (hm x).1 hx with rfl | hx
    · exact ⟨z, (hm z).2 (.inr hz), hzp, hzd⟩
    · obtain ⟨u, hu, h1, h2⟩ := R.up x hx hne
      exact ⟨u, (hm u).2 (.inr hu), h1, h2⟩
theorem ins_filter {f : Nd → Bool} {n : Nd} (h : f n = false) : ∀ l : List Nd, (ins n l).filter f = l.filter f
  | [] => by simp [ins, h]
  | y :: t => by
    rw [ins]
    split
    · rw [List.filter_cons, if_neg (by simp [h])]
    · rw [List.filter_cons, List.filter_cons, ins_filter h t]
/-- What was added, and is taken away. -/
theorem add_rem {l : List Nd} {n : Nd} (h : addE l n = 0) : rmE (ins n l) (bs n.path) = 0 ∧ rmL (ins n l) (bs n.path) = l.map pur := by
  obtain ⟨hr, hf, hp, hno, _, hl⟩ := addE_zero h
  have hR := p_right (add_right h)
  have hs := fits_split hf
  have hin : n ∈ ins n l := (ins_perm n l).mem_iff.2 (List.mem_cons_self ..)
  refine ⟨?_, ?_⟩
  · rw [rmE, if_pos ⟨hR, hs, hp⟩, find_mem (right_rises hR) hin]; rfl
  · rw [rmL, ins_filter (by rw [under_self hs]; rfl), List.filter_eq_self.2]
    intro x hx
    cases hu : underL (bs n.path) (bs x.path)
    · rfl
    · obtain ⟨z, hz, hzp, _⟩ := up_in hr _ x hx rfl _ hu
      exact absurd hzp (find_none.1 hno z hz)

/-! Remove. -/
theorem rmE_zero {l : List Nd} {p : Bs} (h : rmE l p = 0) : rightT l = true ∧ splitE p = 0 ∧ p ≠ [47] ∧ ∃ x ∈ l, bs x.path = p := by
  rw [rmE] at h
  split at h
  · rename_i hc
    refine ⟨hc.1, hc.2.1, hc.2.2, ?_⟩
    cases hf : l.find? (fun x => bs x.path == p) with
    | none => rw [hf] at h; simp at h
    | some x => exact ⟨x, List.mem_of_find?_eq_some hf, by simpa using List.find?_some hf⟩
  · cases h
theorem rem_right {l : List Nd} {p : Bs} (h : rmE l p = 0) : RightP (l.filter fun x => !underL p (bs x.path)) := by
  obtain ⟨hr, hs, hp, _⟩ := rmE_zero h
  have R := right_p hr
  refine ⟨Nat.le_trans (List.length_filter_le _ _) R.len, R.rises.filter _, fun x hx => R.fits x (List.mem_filter.1 hx).1, ?_, fun x hx hne => ?_⟩
  · obtain ⟨r, hr, hrp⟩ := R.root
    exact ⟨r, List.mem_filter.2 ⟨hr, by rw [hrp, under_root hp]; rfl⟩, hrp⟩
  · obtain ⟨hx1, hx2⟩ := List.mem_filter.1 hx
    obtain ⟨z, hz, h1, h2⟩ := R.up x hx1 hne
    refine ⟨z, List.mem_filter.2 ⟨hz, ?_⟩, h1, h2⟩
    cases hu : underL p (bs z.path)
    · rfl
    · rw [h1] at hu
      rw [under_trans hu (par_under (fits_split (R.fits x hx1)) hne)] at hx2
      cases hx2
theorem rem_less {l : List Nd} {p : Bs} (h : rmE l p = 0) : (rmL l p).length < l.length ∧ findI p (rmL l p) < 0 := by
  obtain ⟨hr, hs, hp, x, hx, e⟩ := rmE_zero h
  refine ⟨?_, ?_⟩
  · rw [rmL, List.length_map]
    exact List.length_filter_lt_length_iff_exists.2 ⟨x, hx, by rw [e, under_self hs]; simp⟩
  · rw [rmL, find_pur, find_none]
    intro y hy e
    have := (List.mem_filter.1 hy).2
    rw [e, under_self hs] at this
    cases this
end Go.Proofs.YtdfckkadmgmcaaaGreatDoor.Tree

/- Trees (chapter 7), plain: what Move tells is a tree; what is moved back is as it was. -/
namespace Go.Proofs.YtdfckkadmgmcaaaGreatDoor.Tree
open Go.RowKit
open Path (Bs bs mk bs_mk mk_bs tl_bs splitE splitL MaxC parD parE parN nameL underL under_iff under_trans under_anti moveE moveS joinP split_inj)
set_option linter.unusedSimpArgs false
set_option linter.unusedVariables false

structure Mv (l : List Nd) (a b : Bs) : Prop where
  R : RightP l
  aE : splitE a = 0
  bE : splitE b = 0
  aN : a ≠ [47]
  bN : b ≠ [47]
  no : underL a b = false
  src : ∃ x ∈ l, bs x.path = a
  dst : ∃ z ∈ l, bs z.path = parD b ∧ z.dir = true
  clash : ∀ x ∈ l, bs x.path = a → ∀ y ∈ l, bs y.path = b → x.dir = false ∧ y.dir = false
  ok : ∀ x ∈ l, underL a (bs x.path) = true → splitE (moveS (bs x.path) a b) = 0 ∧ splitL (moveS (bs x.path) a b) = splitL b ++ (splitL (bs x.path)).drop (splitL a).length
theorem dirE_zero {l : List Nd} {p : Bs} (h : dirE l p = 0) : ∃ z ∈ l, bs z.path = parD p ∧ z.dir = true := by
  rw [dirE] at h
  cases hf : l.find? (fun y => bs y.path == parD p) with
  | none => rw [hf] at h; cases h
  | some z =>
    rw [hf] at h
    refine ⟨z, List.mem_of_find?_eq_some hf, by simpa using List.find?_some hf, ?_⟩
    cases hd : z.dir
    · simp [hd] at h
    · rfl
theorem dirE_mk {l : List Nd} (hr : Rises l) {p : Bs} (h : ∃ z ∈ l, bs z.path = parD p ∧ z.dir = true) : dirE l p = 0 := by
  obtain ⟨z, hz, h1, h2⟩ := h
  rw [dirE, ← h1, find_mem hr hz]
  simp [h2]
theorem mv_of {l : List Nd} {a b : Bs} (h : mvE l a b = 0) : Mv l a b := by
  obtain ⟨hr, ha, hb, haN, hbN, hno, x, hx, hd, hcl, hbad⟩ := mvE_zero h
  have R := right_p hr
  have hxl := List.mem_of_find?_eq_some hx
  have hxp : bs x.path = a := by simpa using List.find?_some hx
  refine ⟨R, ha, hb, haN, hbN, hno, ⟨x, hxl, hxp⟩, dirE_zero hd, fun x' hx' e' y hy ey => ?_, fun y hy hu => ?_⟩
  · have e1 : x' = x := same_node hr hx' hxl (e'.trans hxp.symm)
    rw [clash, ← ey, find_mem R.rises hy] at hcl
    rw [e1]
    simpa using hcl
  · have := List.any_eq_false.1 hbad y hy
    rw [mvBad, hu] at this
    have := moved_split hu (by simpa using this)
    exact this.2
theorem of_mv {l : List Nd} {a b : Bs} (h : Mv l a b) (hok : ∀ x ∈ l, underL a (bs x.path) = true → moveE (bs x.path) a b = 0) : mvE l a b = 0 := by
  obtain ⟨x, hx, hxp⟩ := h.src
  have hf : l.find? (fun x => bs x.path == a) = some x := by rw [← hxp]; exact find_mem h.R.rises hx
  have hcl : clash l b x = false := by
    rw [clash]
    cases hy : l.find? (fun y => bs y.path == b) with
    | none => rfl
    | some y =>
      obtain ⟨h1, h2⟩ := h.clash x hx hxp y (List.mem_of_find?_eq_some hy) (by simpa using List.find?_some hy)
      simp [h1, h2]
  have hb : l.any (mvBad a b) = false := by
    rw [List.any_eq_false]
    intro y hy
    rw [mvBad]
    cases hu : underL a (bs y.path)
    · simp
    · simp [hok y hy hu]
  rw [mvE, if_pos ⟨p_right h.R, h.aE, h.bE, h.aN, h.bN, h.no⟩, hf]
  simp only []
  rw [if_neg (by rw [dirE_mk h.R.rises h.dst]; simp), hcl, if_neg (by simp), hb, if_neg (by simp)]
theorem mem_mvD {l : List Nd} {a b : Bs} {y : Nd} : y ∈ mvD l a b ↔ ∃ x ∈ l, mvK a b x = true ∧ mvN a b x = y := by
  rw [mvD, List.mem_map]
  exact ⟨fun ⟨x, hx, e⟩ => ⟨x, (List.mem_filter.1 hx).1, (List.mem_filter.1 hx).2, e⟩, fun ⟨x, hx, h1, e⟩ => ⟨x, List.mem_filter.2 ⟨hx, h1⟩, e⟩⟩
theorem mem_sortd {l : List Nd} {y : Nd} : y ∈ sortd l ↔ y ∈ l := (sortd_perm l).mem_iff
theorem mvN_yes {a b : Bs} {x : Nd} (h : underL a (bs x.path) = true) : bs (mvN a b x).path = moveS (bs x.path) a b ∧ (mvN a b x).dir = x.dir := by
  rw [mvN, if_pos h]; exact ⟨bs_mk _, rfl⟩
theorem mvN_no {a b : Bs} {x : Nd} (h : underL a (bs x.path) = false) : mvN a b x = x := by
  rw [mvN, if_neg (by rw [h]; simp)]
theorem split_ne {p : Bs} (hE : splitE p = 0) (hp : p ≠ [47]) : splitL p ≠ [] := fun e => hp (split_root hE e)
theorem drop_self_len {α : Type} (l : List α) : l.drop l.length = [] := List.drop_length
/-- Who was moved there stands under the new place. -/
theorem Mv.down {l : List Nd} {a b : Bs} (h : Mv l a b) {x : Nd} (hx : x ∈ l) (hu : underL a (bs x.path) = true) : underL b (moveS (bs x.path) a b) = true := by
  obtain ⟨h1, h2⟩ := h.ok x hx hu
  exact under_iff.2 ⟨h.bE, h1, by rw [h2]; exact List.prefix_append _ _⟩
theorem Mv.moved_ne {l : List Nd} {a b : Bs} (h : Mv l a b) {x : Nd} (hx : x ∈ l) (hu : underL a (bs x.path) = true) : moveS (bs x.path) a b ≠ [47] := fun e => by
  obtain ⟨h1, h2⟩ := h.ok x hx hu
  rw [e, show splitL [47] = [] by decide] at h2
  exact split_ne h.bE h.bN (List.append_eq_nil_iff.1 h2.symm).1
theorem Mv.top {l : List Nd} {a b : Bs} (h : Mv l a b) {x : Nd} (hx : x ∈ l) (e : bs x.path = a) : moveS (bs x.path) a b = b := by
  obtain ⟨h1, h2⟩ := h.ok x hx (by rw [e]; exact under_self h.aE)
  refine split_inj h1 h.bE ?_
  rw [h2, e, List.drop_length, List.append_nil]
/-- The parent of what was moved. -/
theorem Mv.par {l : List Nd} {a b : Bs} (h : Mv l a b) {x z : Nd} (hx : x ∈ l) (hz : z ∈ l) (hu : underL a (bs x.path) = true) (hne : a ≠ bs x.path) (hzp : bs z.path = parD (bs x.path)) : underL a (bs z.path) = true ∧ parD (moveS (bs x.path) a b) = moveS (bs z.path) a b := by
  obtain ⟨hr, hpu⟩ := under_par hu hne
  have hzu : underL a (bs z.path) = true := by rw [hzp]; exact hpu
  obtain ⟨x1, x2⟩ := h.ok x hx hu
  obtain ⟨z1, z2⟩ := h.ok z hz hzu
  obtain ⟨_, n, hn⟩ := par_split (fits_split (h.R.fits x hx)) hr
  refine ⟨hzu, par_eq x1 z1 (n := n) ?_⟩
  have hle := (under_iff.1 hzu).2.2.length_le
  rw [x2, z2, hn, ← hzp, List.drop_append_of_le_length hle, List.append_assoc]
theorem fits_moved {x : Nd} {p : ByteArray} (h : fitsN x = true) (h1 : splitE (bs p) = 0) (h2 : bs p ≠ [47]) : fitsN { x with path := p } = true := by
  have hs := fits_split h
  cases hd : x.dir
  · simp only [fitsN, hd, Bool.and_eq_true, decide_eq_true_eq, Bool.not_eq_true', if_neg (show ¬ false = true by simp)] at h ⊢
    exact ⟨⟨⟨h1, h.1.1.2⟩, h.1.2⟩, ⟨⟨⟨by simpa using h2, h.2.1.1.1.2⟩, h.2.1.1.2⟩, h.2.1.2⟩, h.2.2⟩
  · simp only [fitsN, hd, Bool.and_eq_true, decide_eq_true_eq, if_pos (show true = true by rfl)] at h ⊢
    exact ⟨⟨⟨h1, h.1.1.2⟩, h.1.2⟩, h.2⟩
theorem Mv.keeps {l : List Nd} {a b : Bs} {x : Nd} (hp : bs x.path ≠ b) : mvK a b x = true := by
  rw [mvK]; simp [hp]
theorem mvK_up {a b : Bs} {x : Nd} (hu : underL a (bs x.path) = true) : mvK a b x = true := by rw [mvK, hu]; rfl
theorem mv_right {l : List Nd} {a b : Bs} (h : mvE l a b = 0) : RightP (sortd (mvD l a b)) := by
  have M := mv_of h
  have R := M.R
  refine ⟨?_, ?_, fun y hy => ?_, ?_, fun y hy hne => ?_⟩
  · rw [(sortd_perm _).length_eq, mvD, List.length_map]
    exact Nat.le_trans (List.length_filter_le _ _) R.len
  · exact sorted_rises (sortd_sorted _) ((((sortd_perm _).map fun x => bs x.path).nodup_iff).2 (mv_nodup h))
  · obtain ⟨x, hx, _, rfl⟩ := mem_mvD.1 (mem_sortd.1 hy)
    cases hu : underL a (bs x.path)
    · rw [mvN_no hu]; exact R.fits x hx
    · rw [mvN, if_pos hu]
      exact fits_moved (R.fits x hx) (by rw [bs_mk]; exact (M.ok x hx hu).1) (by rw [bs_mk]; exact M.moved_ne hx hu)
  · obtain ⟨r, hr, hrp⟩ := R.root
    exact ⟨r, mem_sortd.2 (mem_mvD.2 ⟨r, hr, Mv.keeps (l := l) (by rw [hrp]; exact fun e => M.bN e.symm), mvN_no (by rw [hrp]; exact under_root M.aN)⟩), hrp⟩
  · obtain ⟨x, hx, hk, rfl⟩ := mem_mvD.1 (mem_sortd.1 hy)
    cases hu : underL a (bs x.path)
    · rw [mvN_no hu] at hne ⊢
      obtain ⟨z, hz, hzp, hzd⟩ := R.up x hx hne
      have hzu : underL a (bs z.path) = false := by
        cases hzu : underL a (bs z.path)
        · rfl
        · rw [hzp] at hzu
          rw [under_trans hzu (par_under (fits_split (R.fits x hx)) hne)] at hu
          cases hu
      refine ⟨z, mem_sortd.2 (mem_mvD.2 ⟨z, hz, Mv.keeps (l := l) fun e => ?_, mvN_no hzu⟩), hzp, hzd⟩
      obtain ⟨s, hs, hsp⟩ := M.src
      rw [(M.clash s hs hsp z hz e).2] at hzd
      cases hzd
    · rw [(mvN_yes hu).1] at hne ⊢
      by_cases e : a = bs x.path
      · rw [M.top hx e.symm]
        obtain ⟨z, hz, hzp, hzd⟩ := M.dst
        have hbu := par_under M.bE M.bN
        refine ⟨z, mem_sortd.2 (mem_mvD.2 ⟨z, hz, Mv.keeps (l := l) fun e2 => ?_, mvN_no ?_⟩), hzp, hzd⟩
        · obtain ⟨_, n, hn⟩ := par_split M.bE M.bN
          rw [← hzp, e2] at hn
          have := congrArg List.length hn
          simp at this
        · cases hzu : underL a (bs z.path)
          · rfl
          · rw [hzp] at hzu
            have := M.no
            rw [under_trans hzu hbu] at this
            cases this
      · obtain ⟨hxr, _⟩ := under_par hu e
        obtain ⟨z, hz, hzp, hzd⟩ := R.up x hx hxr
        obtain ⟨hzu, hpar⟩ := M.par hx hz hu e hzp
        exact ⟨mvN a b z, mem_sortd.2 (mem_mvD.2 ⟨z, hz, mvK_up hzu, rfl⟩), by rw [(mvN_yes hzu).1, hpar], by rw [(mvN_yes hzu).2, hzd]⟩
/-- Nobody stands under the old place any more. -/
theorem Mv.gone {l : List Nd} {a b : Bs} (M : Mv l a b) {y : Nd} (hy : y ∈ mvD l a b) : bs y.path ≠ a := by
  obtain ⟨x, hx, hk, rfl⟩ := mem_mvD.1 hy
  intro e
  cases hu : underL a (bs x.path)
  · rw [mvN_no hu] at e
    rw [e, under_self M.aE] at hu
    cases hu
  · rw [(mvN_yes hu).1] at e
    have hd := M.down hx hu
    rw [e] at hd
    obtain ⟨s, hs, hsp⟩ := M.src
    obtain ⟨z, hz, hzp, hzd⟩ := up_in (p_right M.R) _ s hs rfl b (by rw [hsp]; exact hd)
    have hne : b ≠ bs s.path := fun e2 => by
      have := M.no
      rw [e2, hsp, under_self M.aE] at this
      cases this
    have := (M.clash s hs hsp z hz hzp).2
    rw [hzd hne] at this
    cases this
theorem Mv.there {l : List Nd} {a b : Bs} (M : Mv l a b) : ∃ y ∈ mvD l a b, bs y.path = b := by
  obtain ⟨s, hs, hsp⟩ := M.src
  have hu : underL a (bs s.path) = true := by rw [hsp]; exact under_self M.aE
  exact ⟨_, mem_mvD.2 ⟨s, hs, mvK_up hu, rfl⟩, by rw [(mvN_yes hu).1, M.top hs hsp]⟩
theorem move_less {l : List Nd} {a b : Bs} (h : mvE l a b = 0) : (mvL l a b).length ≤ l.length ∧ findI a (mvL l a b) < 0 ∧ 0 ≤ findI b (mvL l a b) ∧ rightT (mvL l a b) = true := by
  have M := mv_of h
  refine ⟨?_, ?_, ?_, ?_⟩
  · rw [mvL, List.length_map, (sortd_perm _).length_eq, mvD, List.length_map]
    exact List.length_filter_le _ _
  · rw [mvL, find_pur, find_none]
    exact fun y hy => M.gone (mem_sortd.1 hy)
  · rw [mvL, find_pur]
    obtain ⟨y, hy, e⟩ := M.there
    exact find_pos ⟨y, mem_sortd.2 hy, e⟩
  · rw [mvL, right_pur]
    exact p_right (mv_right h)

/-! There and back. -/
theorem Mv.no_b {l : List Nd} {a b : Bs} (M : Mv l a b) (hb : ∀ x ∈ l, bs x.path ≠ b) {x : Nd} (hx : x ∈ l) : underL b (bs x.path) = false := by
  cases hu : underL b (bs x.path)
  · rfl
  · obtain ⟨z, hz, hzp, _⟩ := up_in (p_right M.R) _ x hx rfl b hu
    exact absurd hzp (hb z hz)
theorem Mv.back_path {l : List Nd} {a b : Bs} (M : Mv l a b) {x : Nd} (hx : x ∈ l) (hu : underL a (bs x.path) = true) : moveE (moveS (bs x.path) a b) b a = 0 ∧ moveS (moveS (bs x.path) a b) b a = bs x.path := by
  obtain ⟨h1, h2⟩ := M.ok x hx hu
  have hd := M.down hx hu
  have hok : Path.moveOk (moveS (bs x.path) a b) b a = true := by rw [Path.moveOk, hd]; simp [M.aE]
  have hxE := fits_split (M.R.fits x hx)
  have hn : Path.moveN (moveS (bs x.path) a b) b a = splitL (bs x.path) := by
    rw [Path.moveN, h2, List.drop_left]
    have := (under_iff.1 hu).2.2
    obtain ⟨r, hr⟩ := this
    rw [← hr, List.drop_left]
  obtain ⟨g1, g2⟩ := Path.split_ok hxE
  refine ⟨by rw [moveE, if_pos hok, hn]; exact g1, ?_⟩
  rw [moveS, if_pos hok, hn, Path.joinS, if_pos g1, g2]
theorem mvD_all {l : List Nd} {a b : Bs} (hb : ∀ x ∈ l, bs x.path ≠ b) : mvD l a b = l.map (mvN a b) := by
  rw [mvD, List.filter_eq_self.2 fun x hx => Mv.keeps (l := l) (hb x hx)]
theorem mvN_back {l : List Nd} {a b : Bs} (M : Mv l a b) (hb : ∀ x ∈ l, bs x.path ≠ b) {x : Nd} (hx : x ∈ l) : mvK b a (mvN a b x) = true ∧ mvN b a (mvN a b x) = x := by
  cases hu : underL a (bs x.path)
  · rw [mvN_no hu]
    refine ⟨Mv.keeps (l := l) fun e => ?_, mvN_no (M.no_b hb hx)⟩
    rw [e, under_self M.aE] at hu; cases hu
  · have hd := M.down hx hu
    have h1 : underL b (bs (mvN a b x).path) = true := by rw [(mvN_yes hu).1]; exact hd
    refine ⟨mvK_up h1, ?_⟩
    rw [mvN, if_pos h1, (mvN_yes hu).1, (M.back_path hx hu).2, mvN, if_pos hu, mk_bs]
theorem mv_back {l : List Nd} {a b : Bs} (h : mvE l a b = 0) (hno : findI b l < 0) : mvE (sortd (mvD l a b)) b a = 0 ∧ mvL (sortd (mvD l a b)) b a = l.map pur := by
  have M := mv_of h
  have hb := find_none.1 hno
  have hmem : ∀ y, y ∈ sortd (mvD l a b) ↔ ∃ x ∈ l, mvN a b x = y := fun y => by
    rw [mem_sortd, mvD_all hb, List.mem_map]
  have hR := mv_right h
  refine ⟨of_mv ⟨hR, M.bE, M.aE, M.bN, M.aN, ?_, ?_, ?_, ?_, ?_⟩ ?_, ?_⟩
  · obtain ⟨s, hs, hsp⟩ := M.src
    have := M.no_b hb hs
    rwa [hsp] at this
  · obtain ⟨y, hy, e⟩ := M.there
    exact ⟨y, mem_sortd.2 hy, e⟩
  · obtain ⟨s, hs, hsp⟩ := M.src
    obtain ⟨z, hz, hzp, hzd⟩ := M.R.up s hs (by rw [hsp]; exact M.aN)
    rw [hsp] at hzp
    have hzu : underL a (bs z.path) = false := by
      cases hzu : underL a (bs z.path)
      · rfl
      · obtain ⟨_, n, hn⟩ := par_split M.aE M.aN
        have h3 := (under_iff.1 hzu).2.2.length_le
        rw [hzp] at h3
        have := congrArg List.length hn
        rw [List.length_append] at this
        simp at this
        omega
    exact ⟨z, (hmem z).2 ⟨z, hz, mvN_no hzu⟩, hzp, hzd⟩
  · intro x _ _ y hy e
    exact absurd e (M.gone (mem_sortd.1 hy))
  · intro y hy hu
    obtain ⟨x, hx, rfl⟩ := (hmem y).1 hy
    cases hxu : underL a (bs x.path)
    · rw [mvN_no hxu, M.no_b hb hx] at hu; cases hu
    · have hbp := M.back_path hx hxu
      rw [(mvN_yes hxu).1] at hu ⊢
      exact (moved_split hu hbp.1).2
  · intro y hy hu
    obtain ⟨x, hx, rfl⟩ := (hmem y).1 hy
    cases hxu : underL a (bs x.path)
    · rw [mvN_no hxu, M.no_b hb hx] at hu; cases hu
    · rw [(mvN_yes hxu).1]
      exact (M.back_path hx hxu).1
  · have hp : (mvD (sortd (mvD l a b)) b a).Perm l := by
      have h1 : (mvD (sortd (mvD l a b)) b a).Perm (mvD (mvD l a b) b a) := by
        exact ((sortd_perm _).filter (mvK b a)).map (mvN b a)
      refine h1.trans ?_
      rw [mvD_all hb, mvD, List.filter_eq_self.2, List.map_map, List.map_congr_left (g := id), List.map_id]
      · exact fun x hx => (mvN_back M hb hx).2
      · intro y hy
        obtain ⟨x, hx, rfl⟩ := List.mem_map.1 hy
        exact (mvN_back M hb hx).1
    have hs : Sorted (sortd (mvD (sortd (mvD l a b)) b a)) := sortd_sorted _
    exact perm_rises (p := l.map pur) (((sortd_perm _).trans hp).map pur) hs (List.pairwise_map.2 (M.R.rises.imp fun {a b} h => h))
theorem mvN_pur (a b : Bs) (x : Nd) : mvN a b (pur x) = pur (mvN a b x) := by
  rw [mvN, mvN, show (pur x).path = x.path from rfl]
  split <;> rfl
theorem ins_pur (n : Nd) : ∀ l : List Nd, (ins n l).map pur = ins (pur n) (l.map pur)
  | [] => rfl
  | y :: t => by
    rw [ins, List.map_cons, ins]
    show List.map pur (if ltB (bs n.path) (bs y.path) = true then _ else _) = if ltB (bs n.path) (bs y.path) = true then _ else _
    split
    · rfl
    · rw [List.map_cons, ins_pur n t]
theorem foldl_pur : ∀ (l o : List Nd), (l.foldl (fun o x => ins x o) o).map pur = (l.map pur).foldl (fun o x => ins x o) (o.map pur)
  | [], o => rfl
  | x :: t, o => by rw [List.foldl_cons, foldl_pur t, ins_pur, List.map_cons, List.foldl_cons]
theorem sortd_pur (l : List Nd) : (sortd l).map pur = sortd (l.map pur) := foldl_pur l []
theorem mvD_pur (l : List Nd) (a b : Bs) : (mvD l a b).map pur = mvD (l.map pur) a b := by
  rw [mvD, mvD, ← filter_pur _ (fun _ => rfl), List.map_map, List.map_map]
  exact List.map_congr_left fun x _ => (mvN_pur a b x).symm
theorem mvL_same {q m : List Nd} (e : q.map pur = m.map pur) (a b : Bs) : mvL q a b = mvL m a b := by
  rw [mvL, mvL, sortd_pur, sortd_pur, mvD_pur, mvD_pur, e]
theorem Mv.same {q m : List Nd} (e : q.map pur = m.map pur) {a b : Bs} (h : Mv m a b) : Mv q a b := by
  have hm : ∀ x ∈ q, ∃ y ∈ m, pur x = pur y := fun x hx => by
    have : pur x ∈ m.map pur := by rw [← e]; exact List.mem_map_of_mem hx
    obtain ⟨y, hy, hyx⟩ := List.mem_map.1 this
    exact ⟨y, hy, hyx.symm⟩
  have hm' : ∀ x ∈ m, ∃ y ∈ q, pur x = pur y := fun x hx => by
    have : pur x ∈ q.map pur := by rw [e]; exact List.mem_map_of_mem hx
    obtain ⟨y, hy, hyx⟩ := List.mem_map.1 this
    exact ⟨y, hy, hyx.symm⟩
  have pf : ∀ {x y : Nd}, pur x = pur y → bs x.path = bs y.path ∧ x.dir = y.dir := fun h => ⟨by rw [(pur_facts h).1], (pur_facts h).2.1⟩
  refine ⟨right_p (by rw [right_same e]; exact p_right h.R), h.aE, h.bE, h.aN, h.bN, h.no, ?_, ?_, fun x hx ex y hy ey => ?_, fun x hx hu => ?_⟩
  · obtain ⟨x, hx, e⟩ := h.src
    obtain ⟨y, hy, hyx⟩ := hm' x hx
    exact ⟨y, hy, by rw [← (pf hyx).1, e]⟩
  · obtain ⟨x, hx, e1, e2⟩ := h.dst
    obtain ⟨y, hy, hyx⟩ := hm' x hx
    exact ⟨y, hy, by rw [← (pf hyx).1, e1], by rw [← (pf hyx).2, e2]⟩
  · obtain ⟨x', hx', e1⟩ := hm x hx
    obtain ⟨y', hy', e2⟩ := hm y hy
    have := h.clash x' hx' (by rw [← (pf e1).1, ex]) y' hy' (by rw [← (pf e2).1, ey])
    rw [(pf e1).2, (pf e2).2]
    exact this
  · obtain ⟨x', hx', e1⟩ := hm x hx
    rw [(pf e1).1] at hu ⊢
    exact h.ok x' hx' hu
theorem mvE_same {q m : List Nd} (e : q.map pur = m.map pur) {a b : Bs} (h : mvE m a b = 0) : mvE q a b = 0 := by
  have M := mv_of h
  refine of_mv (M.same e) fun x hx hu => ?_
  have : pur x ∈ m.map pur := by rw [← e]; exact List.mem_map_of_mem hx
  obtain ⟨y, hy, hyx⟩ := List.mem_map.1 this
  have hp : bs y.path = bs x.path := by rw [(pur_facts hyx).1]
  obtain ⟨_, _, _, _, _, _, _, _, _, _, hbad⟩ := mvE_zero h
  have := List.any_eq_false.1 hbad y hy
  rw [mvBad, hp, hu] at this
  simpa using this
end Go.Proofs.YtdfckkadmgmcaaaGreatDoor.Tree

/- Trees (chapter 7): the document's Copy; rows of nodes in memory of their own. -/
namespace Go.Proofs.YtdfckkadmgmcaaaGreatDoor.Tree
open Go.RowKit
open Path (Bs bs mk bs_mk mk_bs tl_bs splitE splitL MaxC parD parE parN)
set_option linter.unusedSimpArgs false
set_option linter.unusedVariables false

/-- Rows joined: what is laid behind a row of the call's own. -/
theorem OwnX.join {w w' w8 : World} {v v' : Value} {q r : List Nd} {n : Nat} {xs : List Value} (hv : w'.ownsRow 0 35 5 v n xs) (hq : ∀ x ∈ q, OwnB w w' x.bv x.blocks) (hr : ∀ x ∈ r, OwnB w w' x.bv x.blocks) (hnew : ∀ g, v.ownBlock = some g → w.heap.size ≤ g) (hs : w.heap.size ≤ w'.heap.size)
    (own : w8.ownsRow 0 35 5 v' (q.length + r.length) (flatN q ++ flatN r)) (grow : w'.grownBy w8 v.ownBlock) (hat : v'.ownBlock = v.ownBlock ∨ v'.ownBlock = some w'.heap.size) : OwnX w w8 v' (q ++ r) := by
  refine ⟨?_, fun g hg => ?_, fun x hx => ?_⟩
  · rw [List.length_append, flatN, List.flatMap_append]; exact own
  · rcases hat with h | h
    · exact hnew g (h ▸ hg)
    · rw [h] at hg; cases hg; exact hs
  · have hb : OwnB w w' x.bv x.blocks := by
      rcases List.mem_append.1 hx with hx | hx
      · exact hq x hx
      · exact hr x hx
    exact hb.grown grow (apart hv hb)
theorem blk5c {w : World} {b : Nat} {v0 v1 v2 v3 v4 : Value} {t : TypeId} (h : w.heap[b]? = some (.cells #[v0, v1, v2, v3, v4] t (0, 0))) : w.cell? ⟨b, 0, none⟩ = some v0 ∧ w.cell? ⟨b, 1, none⟩ = some v1 ∧ w.cell? ⟨b, 2, none⟩ = some v2 ∧ w.cell? ⟨b, 3, none⟩ = some v3 ∧ w.cell? ⟨b, 4, none⟩ = some v4 :=
  ⟨cell_of_blk h, cell_of_blk h, cell_of_blk h, cell_of_blk h, cell_of_blk h⟩
theorem blk5z {w : World} {b : Nat} {cs : Array Value} {t : TypeId} (h : w.heap[b]? = some (.cells cs t (0, 0))) : w.frozen? ⟨b, 0, none⟩ = false ∧ w.frozen? ⟨b, 1, none⟩ = false ∧ w.frozen? ⟨b, 2, none⟩ = false ∧ w.frozen? ⟨b, 3, none⟩ = false ∧ w.frozen? ⟨b, 4, none⟩ = false :=
  ⟨free_of_blk h, free_of_blk h, free_of_blk h, free_of_blk h, free_of_blk h⟩
theorem store5 {w : World} (c b j : Nat) (u v0 v1 v2 v3 v4 : Value) {cs : Array Value} {t : TypeId} (h : w.heap[b]? = some (.cells cs t (0, 0))) (hne : b ≠ c) {u0 u1 u2 u3 u4 : Value} (hc : cs = #[u0, u1, u2, u3, u4] := by rfl) :
    ((((((w.setCell ⟨c, j, none⟩ u).setCell ⟨b, 0, none⟩ v0).setCell ⟨b, 1, none⟩ v1).setCell ⟨b, 2, none⟩ v2).setCell ⟨b, 3, none⟩ v3).setCell ⟨b, 4, none⟩ v4).heap[b]? = some (.cells #[v0, v1, v2, v3, v4] t (0, 0)) := by
  subst hc
  exact heap_setCell_same _ _ 4 _ _ v4 (heap_setCell_same _ _ 3 _ _ v3 (heap_setCell_same _ _ 2 _ _ v2 (heap_setCell_same _ _ 1 _ _ v1 (heap_setCell_same _ _ 0 _ _ v0 ((heap_setCell_other w ⟨c, j, none⟩ _ u hne).trans h)))))
theorem bv_one {w : World} {x : Nd} (h : Rd w 3 encB x.bv x.blocks) : x.bv.oneCell' = true := by
  obtain ⟨ao, cap, e⟩ := bv_slice h
  rw [e]; rfl
set_option maxHeartbeats 4000000 in
theorem copy_calls (w : World) (x : Nd) (h : Rd w 3 encB x.bv x.blocks) (hn : x.blocks.length ≤ 5864062014805) :
    Calls Tryz.prog 53 #[.agg #[.string x.path, .bool x.dir, .int .i64 x.quota, x.bv, .int .i64 x.writer]] w fun e w' => (∃ v', e = .returned (.agg #[.string x.path, .bool x.dir, .int .i64 x.quota, v', .int .i64 x.writer]) ∧ OwnB w w' v' x.blocks) ∧ Below w.heap.size w w' := by
  have hfl := fun ad cap (hv : x.bv = .slice (some ad) x.blocks.length cap) => rd_flatB h hv
  obtain ⟨ax, cx, hbv, hcap, hcm, hcell⟩ := rd_cellsB h
  have Hfl := Lib.hid hfl; clear hfl h
  have Hcell := Lib.hid hcell; clear hcell
  rw [hbv]
  cases ax with
  | none =>
    have hl : x.blocks = [] := by
      cases hb : x.blocks with
      | nil => rfl
      | cons y t => obtain ⟨b, off, e, _⟩ := Hcell.out w (Below.refl _ _) 0 y (by rw [hb]; rfl); cases e
    rw [hl]
    clear Hcell Hfl hbv hl hcap
    go_enter Tryz.func53, Tryz.ntmps53
    go_wp2_with (fail)
    have b1 : Below w.heap.size w (w.alloc (.cells #[.string x.path, .bool x.dir, .int .i64 x.quota, .slice none 0 0, .int .i64 x.writer] 35 (0, 0))) := (Below.refl _ _).alloc (Nat.le_refl _) _
    have n1 := heap_alloc_new (w.alloc (.cells #[.string x.path, .bool x.dir, .int .i64 x.quota, .slice none 0 0, .int .i64 x.writer] 35 (0, 0))) (.cells #[.string x.path, .bool x.dir, .int .i64 x.quota, .slice none 0 0, .int .i64 x.writer] 35 (0, 0))
    refine bodyPost_ret (results_cell_row rfl _ _ (w.alloc (.cells #[.string x.path, .bool x.dir, .int .i64 x.quota, .slice none 0 0, .int .i64 x.writer] 35 (0, 0))).heap.size _ _ _ _ (by simp) n1 Tryz.underlying35 rfl (by kernel_rfl)) rfl ⟨⟨_, rfl, OwnB.nil _ _⟩, b1.alloc b1.size _⟩
  | some ad =>
    clear Hcell
    have b0 : Below w.heap.size w (w.alloc (.cells #[.string x.path, .bool x.dir, .int .i64 x.quota, .slice (some ad) x.blocks.length cx, .int .i64 x.writer] 35 (0, 0))) := (Below.refl _ _).alloc (Nat.le_refl _) _
    have b1 : Below w.heap.size w ((w.alloc (.cells #[.string x.path, .bool x.dir, .int .i64 x.quota, .slice (some ad) x.blocks.length cx, .int .i64 x.writer] 35 (0, 0))).alloc (.cells #[.string ⟨#[]⟩, .bool false, .int .i64 0, .slice none 0 0, .int .i64 0] 35 (0, 0))) := b0.alloc b0.size _
    have hfl := Hfl.out ad cx hbv _ b1
    have k0 : ((w.alloc (.cells #[.string x.path, .bool x.dir, .int .i64 x.quota, .slice (some ad) x.blocks.length cx, .int .i64 x.writer] 35 (0, 0))).alloc (.cells #[.string ⟨#[]⟩, .bool false, .int .i64 0, .slice none 0 0, .int .i64 0] 35 (0, 0))).heap[w.heap.size]? = some (.cells #[.string x.path, .bool x.dir, .int .i64 x.quota, .slice (some ad) x.blocks.length cx, .int .i64 x.writer] 35 (0, 0)) := (Below.alloc (Below.refl _ _) (Nat.le_refl _) _).block _ (by simp) |>.trans (heap_alloc_new _ _)
    have k1 : ((w.alloc (.cells #[.string x.path, .bool x.dir, .int .i64 x.quota, .slice (some ad) x.blocks.length cx, .int .i64 x.writer] 35 (0, 0))).alloc (.cells #[.string ⟨#[]⟩, .bool false, .int .i64 0, .slice none 0 0, .int .i64 0] 35 (0, 0))).heap[w.heap.size + 1]? = some (.cells #[.string ⟨#[]⟩, .bool false, .int .i64 0, .slice none 0 0, .int .i64 0] 35 (0, 0)) := by have := heap_alloc_new (w.alloc (.cells #[.string x.path, .bool x.dir, .int .i64 x.quota, .slice (some ad) x.blocks.length cx, .int .i64 x.writer] 35 (0, 0))) (.cells #[.string ⟨#[]⟩, .bool false, .int .i64 0, .slice none 0 0, .int .i64 0] 35 (0, 0)); simpa using this
    have Hf := Lib.hid hfl; have B1 := Lib.hid b1; have K0 := Lib.hid k0; have K1 := Lib.hid k1
    clear hfl b1 b0 Hfl hbv k0 k1
    go_enter Tryz.func53, Tryz.ntmps53
    go_wp2_with (at_builtin; (with_reducible refine etB.wpList_app (v := .slice none 0 0) (n := 0) (xs := []) (World.ownsRow_nil _ _ _ _) (m := x.blocks.length) (c := cx) (ao := some ad) (news := flatB x.blocks) (flatB_len x.blocks) (fun h => by cases h) (fun ad' h => by cases h; exact Hf.out) (flatB_one x.blocks) (by omega) (by unfold maxLen; omega) rfl (.const (.slice none 0 0)) (.tmp 4) rfl rfl rfl ?_); intro v1 w1 own1 grow1 at1 nil1; simp only [Nat.zero_add, List.nil_append] at own1; have q1 := (Below.refl _ _).grown grow1 (Nat.le_refl _) (fun k hk => by cases hk); have k0 := (q1.block _ (by simp; omega)).trans K0.out; have k1 := (q1.block _ (by simp)).trans K1.out; obtain ⟨a1, c1, rfl, -⟩ := own_slice own1; obtain ⟨g0, g1, g2, g3, g4⟩ := blk5c k0; obtain ⟨z0, z1, z2, z3, z4⟩ := blk5z k0; obtain ⟨o0, o1, o2, o3, o4⟩ := blk5c k1; obtain ⟨y0, y1, y2, y3, y4⟩ := blk5z k1; have Own1 := Lib.hid own1; have Grow1 := Lib.hid grow1; have At1 := Lib.hid at1; have KK := Lib.hid k1; have KK0 := Lib.hid k0; clear own1 grow1 at1 nil1 q1 k0 k1)
    have hne : w.heap.size + 1 ≠ w.heap.size := by omega
    have hs1 : w.heap.size + 2 ≤ w1.heap.size := by have := lt_of_block KK.out; omega
    have hW := store5 w.heap.size (w.heap.size + 1) 3 (.slice a1 x.blocks.length c1) (.string x.path) (.bool x.dir) (.int .i64 x.quota) (.slice a1 x.blocks.length c1) (.int .i64 x.writer) KK.out hne
    have b1 : Below w.heap.size w w1 := B1.out.grown Grow1.out (by simp; omega) (fun k hk => by cases hk)
    have hnew : ∀ g, (Value.slice a1 x.blocks.length c1).ownBlock = some g → w.heap.size + 2 ≤ g := fun g hg => by
      rcases At1.out with h | h
      · rw [h] at hg; cases hg
      · rw [h] at hg; simp at hg; omega
    have ho : ∀ (j k : Nat) (W : World) (u : Value), k < 2 → W.ownsRow 0 31 3 (.slice a1 x.blocks.length c1) x.blocks.length (flatB x.blocks) → (W.setCell ⟨w.heap.size + k, j, none⟩ u).ownsRow 0 31 3 (.slice a1 x.blocks.length c1) x.blocks.length (flatB x.blocks) := fun j k W u hk h =>
      ownsRow_setCell_other h (fun hg => by have := hnew _ hg; simp at this; omega) _
    refine bodyPost_ret (results_cell_row rfl _ _ (w.heap.size + 1) _ _ _ _ rfl hW Tryz.underlying35 rfl (by kernel_rfl)) rfl ⟨⟨_, rfl, ⟨?_, fun g hg => by have := hnew g hg; omega⟩⟩, ?_⟩
    · exact ho 4 1 _ _ (by omega) (ho 3 1 _ _ (by omega) (ho 2 1 _ _ (by omega) (ho 1 1 _ _ (by omega) (ho 0 1 _ _ (by omega) (ho 3 0 _ _ (by omega) Own1.out)))))
    · exact ((((((b1.setCell (Nat.le_refl _) _).setCell (Nat.le_succ _) _).setCell (Nat.le_succ _) _).setCell (Nat.le_succ _) _).setCell (Nat.le_succ _) _).setCell (Nat.le_succ _) _)
theorem pur_bv (x : Nd) (v : Value) : pur { x with bv := v } = pur x := rfl
/-- One node more behind a row of the call's own. -/
theorem OwnX.snoc {w w' w8 : World} {v : Value} {q : List Nd} {x : Nd} {g cap : Nat} {o : Obj} (hO : OwnX w w' v q) (hx : OwnB w w' x.bv x.blocks) (hs : w.heap.size ≤ w'.heap.size)
    (own : w8.ownsRow 0 35 5 (.slice (some ⟨g, 0, none⟩) (q.length + 1) cap) (q.length + 1) (flatN q ++ encN x)) (grow : (w'.alloc o).grownBy w8 v.ownBlock) (hat : v.ownBlock = some g ∨ g = (w'.alloc o).heap.size) : OwnX w w8 (.slice (some ⟨g, 0, none⟩) (q.length + 1) cap) (q ++ [x]) := by
  have hb := (Below.refl w'.heap.size w').alloc (Nat.le_refl _) o
  refine OwnX.join (r := [x]) (hO.own.alloc o) (fun y hy => (hO.bl y hy).below hb) (fun y hy => ?_) hO.new (Nat.le_trans hs hb.size) (by simpa [flatN] using own) grow ?_
  · rw [List.mem_singleton] at hy
    subst hy
    exact hx.below hb
  · rcases hat with h | h
    · exact .inl (by rw [h]; rfl)
    · exact .inr (by rw [h]; rfl)
theorem take_map {l : List Nd} {k : Nat} {x : Nd} (hx : l[k]? = some x) : (l.take (k + 1)).map pur = (l.take k).map pur ++ [pur x] := by
  rw [List.take_add_one, hx, List.map_append]; rfl
def CopyPost (w : World) (l : List Nd) (e : Ending) (w' : World) : Prop := (∃ v' q, e = .returned v' ∧ OwnX w w' v' q ∧ q.map pur = l.map pur) ∧ Below w.heap.size w w'
set_option maxRecDepth 4000 in
set_option maxHeartbeats 8000000 in
theorem all_calls (w : World) (v : Value) (l : List Nd) (h : RdN w v l) (hn : l.length ≤ 2199023255488) (hbn : ∀ x ∈ l, x.blocks.length ≤ 5864062014805) :
    Calls Tryz.prog 181 #[v] w (CopyPost w l) := by
  (have hcp := fun W (hW : Below w.heap.size w W) x (hx : x ∈ l) => copy_calls W x ((h.bl x hx).below hW (Nat.le_refl _)) (hbn x hx)); (have hbvs : ∀ x ∈ l, ∃ ao cap, x.bv = .slice ao x.blocks.length cap := fun x hx => bv_slice (h.bl x hx)); (obtain ⟨ao, cap, rfl, _, _, hcell⟩ := rd_cellsN h.rd); (have Hcell := Lib.hid hcell); (have Hcp := Lib.hid hcp); (have Hbvs := Lib.hid hbvs); (clear hcell hcp h hbn hbvs); (generalize hm : l.length = m at *); (have Hm := Lib.hid hm); (clear hm)
  go_enter Tryz.func181, Tryz.ntmps181
  (go_wp2_with (fail)); (go_loopw [3, 4] (fun vo vk wr => ∃ k : Nat, vk = .int .i64 k ∧ k ≤ m ∧ (∃ q, OwnX w wr vo q ∧ q.map pur = (l.take k).map pur) ∧ Below w.heap.size w wr) (fun _ vk _ => m - (intOf vk).toNat)); (case atStart => exact ⟨0, rfl, Nat.zero_le _, ⟨[], OwnX.nil _ _, rfl⟩, Below.refl _ _⟩); (case round => (obtain ⟨k, rfl, hk, ⟨q, hO, hq⟩, hb⟩ := hrel); (have hql : q.length ≤ k := by have h1 := congrArg List.length hq; rw [List.length_map, List.length_map, List.length_take] at h1; omega); (have HO := Lib.hid hO); (have Hq := Lib.hid hq); (clear hO hq); (by_cases hlt : k < m); (focus ((obtain ⟨x, hx⟩ : ∃ x, l[k]? = some x := ⟨l[k]'(by rw [Hm.out]; exact hlt), by rw [List.getElem?_eq_getElem]⟩); (obtain ⟨b', off', rfl, _, d0, d1, d2, d3, d4⟩ := Hcell.out wr hb k x hx); (have hxm := List.mem_of_getElem? hx); (obtain ⟨ax, cx, hbvx⟩ := Hbvs.out x hxm); (have hc := Hcp.out wr hb x hxm); (rw [hbvx] at d3 hc); (have Hx := Lib.hid hx); (clear hx hxm hbvx); (go_wp2_with (fail)); (refine hc.mono ?_); (rintro e w4 ⟨⟨v4, rfl, ho4⟩, hb4⟩); (clear hc d0 d1 d2 d3 d4); (have HO4 := Lib.hid (HO.out.below hb4)); (have Ho4 := Lib.hid ho4); (have B4 := hb.trans (hb4.mono hb.size)); (have hone : v4.oneCell' = true := bv_one (x := { x with bv := v4 }) ho4.rd); (obtain ⟨a4, c4, rfl, -, -, -⟩ := rd_cellsB ho4.rd); (clear ho4 hone); (generalize hwq : q.length = n1 at *); (have Hwq := Lib.hid hwq); (have HW := Lib.hid HO4.out.own); (rw [hwq] at HW); (clear hwq); (go_wp2_with (at_builtin; (with_reducible refine etN.wpList1 (HW.out.alloc _) (heap_alloc_new _ _) rfl (by simp [Value.oneCell']) (by omega) (by unfold maxLen; omega) rfl (.tmp 11) (.tmp 17) rfl rfl rfl ?_); intro g1 cap1 w8 hown1 hgrow hat hlt1)); (go_roundw); (case rel => (have hs := OwnX.snoc (x := { x with bv := .slice a4 x.blocks.length c4 }) HO4.out (Ho4.out.up hb.size) B4.size (by rw [Hwq.out]; exact hown1) hgrow hat); (exact ⟨k + 1, by go_num, by omega, ⟨_, by rw [Hwq.out] at hs; exact hs, by rw [List.map_append, Hq.out, take_map Hx.out]; rfl⟩, (B4.alloc B4.size _).grown hgrow (by have := B4.size; simp; omega) (fun g hg => HO4.out.new g hg)⟩)); (case measure => simp [intOf]; omega))); (focus ((obtain rfl : k = m := by omega); (go_wp2_with (fail)); go_ret; (exact ⟨⟨_, q, rfl, HO.out, by rw [Hq.out, ← Hm.out, List.take_length]⟩, hb⟩))))
end Go.Proofs.YtdfckkadmgmcaaaGreatDoor.Tree
