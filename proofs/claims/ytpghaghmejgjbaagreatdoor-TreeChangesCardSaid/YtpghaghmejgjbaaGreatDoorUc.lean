/- Trees (chapter 7), plain: TreeRefuses. -/
import Derived.Test.YtpghaghmejgjbaaGreatDoorUa
namespace Go.Proofs.YtpghaghmejgjbaaGreatDoor.Tree
open Go.RowKit
open Path (Bs bs mk bs_mk mk_bs tl_bs splitE splitL MaxC parD parE parN nameL)
set_option linter.unusedSimpArgs false
set_option linter.unusedVariables false

theorem last_part {a b n m : Bs} (hn : (47 : UInt8) ∉ n) (hm : (47 : UInt8) ∉ m) (e : a ++ [47] ++ n = b ++ [47] ++ m) : a = b ∧ n = m := by
  have key : ∀ (a b k : Bs), b ++ [(47 : UInt8)] = a ++ [47] ++ k → k ≠ [] → (47 : UInt8) ∈ k := fun a b k h hk => by
    have h1 := congrArg List.getLast? h
    rw [List.getLast?_append, List.getLast?_append] at h1
    cases h2 : k.getLast? with
    | none => exact absurd (List.getLast?_eq_none_iff.1 h2) hk
    | some u =>
      rw [h2] at h1
      simp at h1
      rw [← h1] at h2
      exact List.mem_of_getLast? h2
  rcases List.append_eq_append_iff.1 e with ⟨k, h1, h2⟩ | ⟨k, h1, h2⟩
  · by_cases hk : k = []
    · subst hk
      simp at h1 h2
      exact ⟨h1.symm, h2⟩
    · exact absurd (by rw [h2]; exact List.mem_append_left _ (key a b k h1 hk)) hn
  · by_cases hk : k = []
    · subst hk
      simp at h1 h2
      exact ⟨h1, h2.symm⟩
    · exact absurd (by rw [h2]; exact List.mem_append_left _ (key b a k h1 hk)) hm
theorem inD_form (p : Bs) : ∃ a, inD p = a ++ [47] := by
  rw [inD]
  split
  · exact ⟨[], rfl⟩
  · exact ⟨p, rfl⟩
theorem inD_eq {d e : Bs} (hd : splitE d = 0) (he : splitE e = 0) (h : inD d = inD e) : d = e := by
  have nn : ∀ q : Bs, splitE q = 0 → q ≠ [] := fun q hq e => by rw [e] at hq; exact absurd hq (by decide)
  by_cases h1 : d = [47] <;> by_cases h2 : e = [47]
  · rw [h1, h2]
  · rw [h1, inD, if_pos rfl, inD, if_neg h2] at h
    have : e = [] := by cases e with
      | nil => rfl
      | cons a t => have := congrArg List.length h; simp at this
    exact absurd this (nn e he)
  · rw [h2, inD, if_neg h1, inD, if_pos rfl] at h
    have : d = [] := by cases d with
      | nil => rfl
      | cons a t => have := congrArg List.length h; simp at this
    exact absurd this (nn d hd)
  · rw [inD, if_neg h1, inD, if_neg h2] at h
    exact List.append_cancel_right h
theorem par_join {d n : Bs} (hd : splitE d = 0) (hn : nameL n = true) (hE : splitE (inD d ++ n) = 0) : parD (inD d ++ n) = d ∧ parN (inD d ++ n) = n ∧ inD d ++ n ≠ [47] := by
  obtain ⟨a, ha⟩ := inD_form d
  have hne : inD d ++ n ≠ [47] := fun e => by
    have h1 := Path.name_ne hn
    rw [ha] at e
    have := congrArg List.length e
    have h2 : 0 < n.length := List.length_pos_iff.2 h1
    simp at this
    omega
  obtain ⟨h1, h2, h3, _, _⟩ := path_form hE hne
  obtain ⟨b, hb⟩ := inD_form (parD (inD d ++ n))
  have h4 : a ++ [47] ++ n = b ++ [47] ++ parN (inD d ++ n) := by rw [← ha, ← hb]; exact h1
  obtain ⟨h5, h6⟩ := last_part (Path.name_slash hn) (Path.name_slash h2) h4
  exact ⟨(inD_eq hd h3 (ha.trans ((congrArg (· ++ [47]) h5).trans hb.symm))).symm, h6.symm, hne⟩

theorem mem_find {l : List Nd} (h : rightT l = true) {x : Nd} (hx : x ∈ l) : l.find? (fun y => bs y.path == bs x.path) = some x := by
  obtain ⟨i, hi, rfl⟩ := List.mem_iff_getElem.1 hx
  exact find_at (right_rises h) (List.getElem?_eq_getElem hi)
theorem ref_exist {l : List Nd} (h : rightT l = true) {x : Nd} (hx : x ∈ l) (hp : bs x.path ≠ [47]) : addE l (dirN x.path) = 6 := by
  have hs := right_splits h hx
  have hf : fitsN (dirN x.path) = true := by simp [fitsN, dirN, hs]
  rw [addE, if_pos ⟨h, hf, hp⟩, if_pos (by rw [show (dirN x.path).path = x.path from rfl, mem_find h hx]; rfl)]
theorem ref_arg {l : List Nd} (h : rightT l = false) (n : Nd) : addE l n = 1 := by
  rw [addE, if_neg (fun hc => by rw [h] at hc; cases hc.1)]
theorem file_fits {p : ByteArray} (h : fitsN (fileN p) = true) : splitE (bs p) = 0 ∧ bs p ≠ [47] := by
  simp only [fitsN, fileN, Bool.and_eq_true, decide_eq_true_eq] at h
  refine ⟨of_decide_eq_true h.1.1.1, ?_⟩
  have h2 := h.2
  simp at h2
  exact h2
/-- A file of a good name beside what is there. -/
theorem ref_new {l : List Nd} (h : rightT l = true) {x : Nd} (hx : x ∈ l) {p : ByteArray} {n : Bs} (hp : bs p = inD (bs x.path) ++ n) (hn : nameL n = true) (hf : fitsN (fileN p) = true) (hno : findI (bs p) l < 0) :
    addE l (fileN p) = if x.dir = true then (if 60 ≤ l.length then 4 else 0) else 7 := by
  obtain ⟨hE, h47⟩ := file_fits hf
  rw [hp] at hE
  obtain ⟨hpd, _, _⟩ := par_join (right_splits h hx) hn hE
  have hfd : l.find? (fun y => bs y.path == bs p) = none := by
    rcases find_facts (bs p) l with ⟨_, h2⟩ | ⟨i, y, h1, _⟩
    · exact h2
    · rw [h1] at hno; omega
  have hd : dirE l (bs p) = if x.dir = true then 0 else 7 := by
    rw [dirE, hp, hpd, mem_find h hx]
  rw [addE, if_pos ⟨h, hf, h47⟩, show (fileN p).path = p from rfl, hfd, if_neg (by simp), hd]
  cases x.dir <;> simp
/-- .. and below that file nothing. -/
theorem ref_below {l : List Nd} {p q : ByteArray} {n : Bs} (hE : splitE (bs p) = 0) (h47 : bs p ≠ [47]) (hq : bs q = bs p ++ 47 :: n) (hn : nameL n = true) (hno : findI (bs p) l < 0) : addE l (fileN q) ≠ 0 := by
  intro h0
  rw [addE] at h0
  split at h0
  · rename_i hc
    obtain ⟨hr, hf, _⟩ := hc
    split at h0
    · cases h0
    · split at h0
      · rename_i hne; exact hne h0
      · rename_i hde
        have hde : dirE l (bs q) = 0 := Classical.not_not.1 hde
        have hqi : bs q = inD (bs p) ++ n := by rw [hq, inD, if_neg h47]; simp
        have hqE : splitE (bs q) = 0 := (file_fits hf).1
        rw [hqi] at hqE
        obtain ⟨hpd, _, _⟩ := par_join hE hn hqE
        rw [dirE, hqi, hpd] at hde
        rcases find_facts (bs p) l with ⟨_, h2⟩ | ⟨i, y, h1, _⟩
        · rw [h2] at hde; cases hde
        · rw [h1] at hno; omega
  · cases h0
theorem find_in {q : List Nd} {p : ByteArray} {x : Nd} (hx : x ∈ q) (e : bs x.path = bs p) : 0 ≤ findI (bs p) q := by
  rcases find_facts (bs p) q with ⟨_, h2⟩ | ⟨i, y, h1, _⟩
  · rw [List.find?_eq_none] at h2
    exact absurd (by simpa using e) (h2 x hx)
  · rw [h1]; omega
theorem pur_in {q m : List Nd} (e : q.map pur = m.map pur) {x : Nd} (hx : x ∈ m) : ∃ y ∈ q, y.path = x.path := by
  have : pur x ∈ q.map pur := by rw [e]; exact List.mem_map_of_mem hx
  obtain ⟨y, hy, h⟩ := List.mem_map.1 this
  exact ⟨y, hy, (pur_facts h).1⟩
theorem add_in {q l : List Nd} {n : Nd} (e : q.map pur = addL l n) : 0 ≤ findI (bs n.path) q := by
  obtain ⟨y, hy, h⟩ := pur_in (m := ins n l) e ((ins_perm n l).mem_iff.2 (List.mem_cons_self ..))
  exact find_in hy (by rw [h])
end Go.Proofs.YtpghaghmejgjbaaGreatDoor.Tree
