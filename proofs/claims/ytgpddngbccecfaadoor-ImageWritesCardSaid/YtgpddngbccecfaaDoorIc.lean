/- Images, in plain words: the parts of bytes; what is written is read. -/
import Derived.Test.YtgpddngbccecfaaDoorIb
namespace Go.Proofs.YtgpddngbccecfaaDoor.Image
open Go.RowKit
open Path (Bs bs mk bs_mk mk_bs tl_bs MaxC)
open Tree Space
open Wire (numB textB sealB takeN textT openE openT)
set_option linter.unusedSimpArgs false
set_option linter.unusedVariables false
theorem num_ne (n : Int) : numB n ≠ [] := by
  rw [numB, Wire.vb]; split <;> simp
theorem text_len (s : Bs) : s.length < (textB s).length := by
  have := List.length_pos_iff.2 (num_ne (s.length : Int))
  rw [textB, List.length_append]; omega
theorem open_zero {b : Bs} (h : openE b = 0) : ∃ s r, textT b = some (s, r) ∧ ¬ r.length < 4 ∧ r.take 4 = Wire.fourB (Wire.sumN s) ∧ openT b = (s, r.drop 4) := by
  cases ht : textT b with
  | none => rw [(Wire.open_none ht).1] at h; cases h
  | some x =>
    obtain ⟨s, r⟩ := x
    by_cases hl : r.length < 4
    · rw [(Wire.open_short ht hl).1] at h; cases h
    · by_cases hn : r.take 4 = Wire.fourB (Wire.sumN s)
      · exact ⟨s, r, rfl, hl, hn, (Wire.open_good ht hl hn).2⟩
      · rw [(Wire.open_bad ht hl hn).1] at h; cases h
/-- What can be opened is a seal, and what is behind it. -/
theorem open_form {b : Bs} (h : openE b = 0) : b = sealB (openT b).1 ++ (openT b).2 ∧ (openT b).1.length ≤ 4000 := by
  obtain ⟨s, r, ht, hl, hn, e⟩ := open_zero h
  obtain ⟨h1, -, h2⟩ := Wire.textT_len ht
  rw [e]
  refine ⟨?_, h1⟩
  rw [h2, sealB, ← hn]
  simp only [List.append_assoc, List.take_append_drop]
theorem seal_pos (s : Bs) : 4 < (sealB s).length := by
  have := text_len s
  rw [sealB, List.length_append, Wire.fourB_len]; omega
theorem open_lt {b : Bs} (h : openE b = 0) : (openT b).2.length + 5 ≤ b.length := by
  have h1 := (open_form h).1
  have h2 := congrArg List.length h1
  have h3 := seal_pos (openT b).1
  rw [List.length_append] at h2
  omega
/-- All parts of some bytes; or the first error. -/
def openAll (b : Bs) : Int × List Bs :=
  if b = [] then (0, []) else if h : openE b = 0 then
    (if (openAll (openT b).2).1 = 0 then (0, (openT b).1 :: (openAll (openT b).2).2) else ((openAll (openT b).2).1, []))
  else (openE b, [])
termination_by b.length
decreasing_by all_goals (have := open_lt h; omega)
theorem all_nil : openAll [] = (0, []) := by rw [openAll, if_pos rfl]
theorem all_bad {b : Bs} (hb : b ≠ []) (h : openE b ≠ 0) : openAll b = (openE b, []) := by rw [openAll, if_neg hb, dif_neg h]
/-- Parts ahead of what the rest tells. -/
def ahead (l : List Bs) (x : Int × List Bs) : Int × List Bs := if x.1 = 0 then (0, l ++ x.2) else (x.1, [])
theorem ahead_nil {x : Int × List Bs} (h : x.1 ≠ 0 → x.2 = []) : ahead [] x = x := by
  obtain ⟨e, l⟩ := x
  rw [ahead]
  split
  · rename_i h0; simp only at h0; subst h0; rfl
  · rename_i h0; have := h h0; simp only at this; subst this; rfl
theorem all_err (b : Bs) : (openAll b).1 ≠ 0 → (openAll b).2 = [] := by
  rw [openAll]
  split
  · intro h; exact absurd rfl h
  · split
    · split
      · intro h; exact absurd rfl h
      · intro _; rfl
    · intro _; rfl
theorem all_good {b : Bs} (hb : b ≠ []) (h : openE b = 0) : openAll b = ahead [(openT b).1] (openAll (openT b).2) := by
  rw [openAll, if_neg hb, dif_pos h, ahead]; rfl
theorem ahead_ahead (l m : List Bs) (x : Int × List Bs) : ahead l (ahead m x) = ahead (l ++ m) x := by
  rw [ahead, ahead, ahead]
  by_cases h : x.1 = 0
  · rw [if_pos h, if_pos h, if_pos rfl, List.append_assoc]
  · rw [if_neg h, if_neg h, if_neg h]
theorem all_next {b r : Bs} {l : List Bs} (hb : r ≠ []) (h : openE r = 0) (hinv : openAll b = ahead l (openAll r)) : openAll b = ahead (l ++ [(openT r).1]) (openAll (openT r).2) := by
  rw [hinv, all_good hb h, ahead_ahead]
theorem all_end {b : Bs} {l : List Bs} (hinv : openAll b = ahead l (openAll [])) : openAll b = (0, l) := by
  rw [hinv, all_nil, ahead, if_pos rfl, List.append_nil]
theorem all_stop {b r : Bs} {l : List Bs} (hb : r ≠ []) (h : openE r ≠ 0) (hinv : openAll b = ahead l (openAll r)) : openAll b = (openE r, []) := by
  rw [hinv, all_bad hb h, ahead, if_neg h]
theorem all_seals : ∀ (l : List Bs), (∀ t ∈ l, t.length ≤ 4000) → openAll (l.flatMap sealB) = (0, l)
  | [], _ => all_nil
  | t :: l, h => by
    obtain ⟨h1, h2⟩ := Wire.open_seal t (l.flatMap sealB) (h t (by simp))
    have hb : (t :: l).flatMap sealB ≠ [] := by
      intro e
      rw [List.flatMap_cons] at e
      have h3 := seal_pos t
      rw [(List.append_eq_nil_iff.1 e).1] at h3
      simp at h3
    rw [List.flatMap_cons] at hb ⊢
    rw [all_good hb h1, h2, all_seals l fun u hu => h u (List.mem_cons_of_mem _ hu)]
    rfl
theorem headT_len {s : Sp} (h : OkI (headI s)) : (headT s).length ≤ 61 := by
  have := nums_len h
  rw [headT, List.length_cons]
  have e : (headI s).length = 6 := rfl
  omega
theorem nodeT_len {x : Nd} (h : fitsN x = true) : (nodeT x).length ≤ 420 := by
  obtain ⟨-, -, -, -, h5, hp, -⟩ := fits_nums h
  have h1 := nums_len (node_ok h)
  have h2 := nodeI_len h5
  have h3 := Wire.numB_len (inI_nat (n := (bs x.path).length) (by omega))
  rw [nodeT, List.length_append, textB, List.length_append]
  omega
theorem leaseT_len {x : Lease.Le} (h : OkI [x.c, x.u]) : (leaseT x).length ≤ 20 := by
  have := nums_len h
  rw [leaseT]; exact this
theorem texts_len {s : Sp} (h : spaceB s = true) : ∀ t ∈ texts s, t.length ≤ 4000 := by
  obtain ⟨-, h2, h3⟩ := space_parts h
  have hN : s.nodes.length ≤ 60 := right_len h2
  have hL : s.leases.length ≤ 4 := Lease.right_len h3
  intro t ht
  rw [texts] at ht
  rcases List.mem_cons.1 ht with rfl | ht
  · have := headT_len (head_ok h (by omega) (by omega)); omega
  · rcases List.mem_append.1 ht with ht | ht
    · obtain ⟨x, hx, rfl⟩ := List.mem_map.1 ht
      have := nodeT_len (right_fit h2 hx); omega
    · obtain ⟨x, hx, rfl⟩ := List.mem_map.1 ht
      have := leaseT_len (lease_ok h3 hx); omega
theorem flat_congr {α : Type} {f g : α → Bs} : ∀ {l : List α}, (∀ x ∈ l, f x = g x) → l.flatMap f = l.flatMap g
  | [], _ => rfl
  | x :: t, h => by rw [List.flatMap_cons, List.flatMap_cons, h x (by simp), flat_congr fun y hy => h y (List.mem_cons_of_mem _ hy)]
theorem seal_yes {t : Bs} (h : t.length ≤ 4000) : sealS t = sealB t := if_pos h
theorem image_texts {s : Sp} (h : spaceB s = true) : imageB s = (texts s).flatMap sealB := by
  have hl := texts_len h
  have e1 : headB s = sealB (headT s) := seal_yes (hl (headT s) (by rw [texts]; exact List.mem_cons_self ..))
  have e2 : s.nodes.flatMap nodeB = (s.nodes.map nodeT).flatMap sealB := by
    rw [List.flatMap_map]
    refine flat_congr fun x hx => ?_
    exact seal_yes (hl (nodeT x) (by rw [texts]; exact List.mem_cons_of_mem _ (List.mem_append_left _ (List.mem_map_of_mem hx))))
  have e3 : s.leases.flatMap leaseB = (s.leases.map leaseT).flatMap sealB := by
    rw [List.flatMap_map]
    refine flat_congr fun x hx => ?_
    exact seal_yes (hl (leaseT x) (by rw [texts]; exact List.mem_cons_of_mem _ (List.mem_append_right _ (List.mem_map_of_mem hx))))
  rw [imageB, e1, e2, e3, texts, List.flatMap_cons, List.flatMap_append, List.append_assoc]
theorem image_open {s : Sp} (h : spaceB s = true) : openAll (imageB s) = (0, texts s) := by
  rw [image_texts h]; exact all_seals _ (texts_len h)
end Go.Proofs.YtgpddngbccecfaaDoor.Image
