/- Quotas, in plain words: a directory counts itself and what stands in it. -/
import Derived.Test.YtbgeiebfjlgcmaaDoorQd
import Derived.Test.YtbgeiebfjlgcmaaDoorTn
namespace Go.Proofs.YtbgeiebfjlgcmaaDoor.Quota
open Go.RowKit
open Path (Bs bs mk bs_mk mk_bs tl_bs splitE splitL parD parE parN underL under_iff under_anti under_trans)
open Tree
set_option linter.unusedSimpArgs false
set_option linter.unusedVariables false

theorem countP_sum {α : Type} (f : α → Bool) (l : List α) : l.countP f = (l.map fun y => (f y).toNat).sum := by
  induction l with
  | nil => rfl
  | cons x l ih =>
    rw [List.map_cons, List.sum_cons, ← ih]
    cases h : f x
    · rw [List.countP_cons_of_neg (by rw [h]; decide)]; simp
    · rw [List.countP_cons_of_pos h]; simp [Nat.add_comm]
theorem sum_add {α : Type} (f g : α → Nat) (l : List α) : (l.map fun y => f y + g y).sum = (l.map f).sum + (l.map g).sum := by
  induction l with
  | nil => rfl
  | cons x l ih => simp only [List.map_cons, List.sum_cons, ih]; omega
theorem sum_swap {α β : Type} (f : α → β → Nat) (a : List α) (b : List β) : (a.map fun x => (b.map fun y => f x y).sum).sum = (b.map fun y => (a.map fun x => f x y).sum).sum := by
  induction a with
  | nil => induction b with
    | nil => rfl
    | cons y b ih => simp only [List.map_cons, List.sum_cons, List.map_nil, List.sum_nil] at ih ⊢; omega
  | cons x a ih => simp only [List.map_cons, List.sum_cons, ih, ← sum_add]
theorem sum_congr {α : Type} {f g : α → Nat} {l : List α} (h : ∀ x ∈ l, f x = g x) : (l.map f).sum = (l.map g).sum := by rw [List.map_congr_left h]
theorem count_one {l : List Nd} (hr : Rises l) {f : Nd → Bool} {q : Bs} (h1 : ∀ x ∈ l, f x = true → bs x.path = q) (h2 : ∃ x ∈ l, f x = true) : l.countP f = 1 := by
  rw [List.countP_eq_length_filter]
  have hp : (l.filter f).Pairwise fun x y => ltB (bs x.path) (bs y.path) = true := hr.sublist List.filter_sublist
  have ha : ∀ x ∈ l.filter f, bs x.path = q := fun x hx => h1 x (List.mem_filter.1 hx).1 (List.mem_filter.1 hx).2
  obtain ⟨x, hx, hfx⟩ := h2
  have hm : x ∈ l.filter f := List.mem_filter.2 ⟨hx, hfx⟩
  generalize l.filter f = m at *
  match m, hm with
  | [a], _ => rfl
  | a :: b :: t, _ =>
    have := List.rel_of_pairwise_cons hp (show b ∈ b :: t by simp)
    rw [ha a (by simp), ha b (by simp), lt_irr] at this
    cases this
theorem cnt_sum (l : List Nd) (p : Bs) : cntN l p = (l.map fun y => (underL p (bs y.path)).toNat).sum := by
  rw [cntN, ← List.countP_eq_length_filter, countP_sum]
theorem drop_rises {l : List Nd} (h : Rises l) : Rises (l.drop 1) := h.sublist (List.drop_sublist 1 l)
theorem child_facts {l : List Nd} (h : rightT l = true) {p : Bs} {c : Nd} (hc : c ∈ childL l p) : c ∈ l ∧ c ∈ l.drop 1 ∧ splitE (bs c.path) = 0 ∧ underL p (bs c.path) = true ∧ (splitL p).length + 1 = (splitL (bs c.path)).length := by
  obtain ⟨h1, h2⟩ := List.mem_filter.1 hc
  have hcl := tail_in h1
  have hE := right_splits h hcl
  obtain ⟨_, _, _, hu, hl⟩ := path_form hE (tail_ne h h1)
  rw [beq_iff_eq] at h2
  rw [h2] at hu hl
  exact ⟨hcl, h1, hE, hu, hl⟩
theorem child_point {l : List Nd} (h : rightT l = true) {x y : Nd} (hx : x ∈ l) (hy : y ∈ l) :
    (underL (bs x.path) (bs y.path)).toNat = (bs y.path == bs x.path).toNat + ((childL l (bs x.path)).map fun c => (underL (bs c.path) (bs y.path)).toNat).sum := by
  have hxE := right_splits h hx
  have hyE := right_splits h hy
  rw [← countP_sum (fun c : Nd => underL (bs c.path) (bs y.path))]
  by_cases e : bs y.path = bs x.path
  · have h0 : (childL l (bs x.path)).countP (fun c : Nd => underL (bs c.path) (bs y.path)) = 0 := by
      rw [List.countP_eq_zero]
      intro c hc hu
      obtain ⟨_, _, _, _, hl⟩ := child_facts h hc
      have := (under_iff.1 hu).2.2.length_le
      rw [e] at this
      omega
    rw [h0, e, under_iff.2 ⟨hxE, hxE, List.prefix_refl _⟩]
    simp
  · rw [beq_false_of_ne e]
    cases hu : underL (bs x.path) (bs y.path)
    · have h0 : (childL l (bs x.path)).countP (fun c : Nd => underL (bs c.path) (bs y.path)) = 0 := by
        rw [List.countP_eq_zero]
        intro c hc hcy
        obtain ⟨_, _, _, hxc, _⟩ := child_facts h hc
        have := under_trans hxc hcy
        rw [hu] at this; cases this
      rw [h0]; rfl
    · obtain ⟨_, _, hpre⟩ := under_iff.1 hu
      have hlt : (splitL (bs x.path)).length < (splitL (bs y.path)).length := by
        have h1 := hpre.length_le
        have h2 : (splitL (bs x.path)).length ≠ (splitL (bs y.path)).length := fun hh => e (Path.split_inj hxE hyE (hpre.eq_of_length hh)).symm
        omega
      have h1 : (childL l (bs x.path)).countP (fun c : Nd => underL (bs c.path) (bs y.path)) = 1 := by
        -- the one that has one name more
        have key : ∃ q, underL q (bs y.path) = true ∧ (splitL q).length = (splitL (bs x.path)).length + 1 ∧ splitE q = 0 := by
          have hj := (Path.split_ok hyE).1
          obtain ⟨v1, v2, v3⟩ := Path.joinE_ok.1 hj
          have hI : Path.joinE ((splitL (bs y.path)).take ((splitL (bs x.path)).length + 1)) = 0 := by
            refine Path.joinE_ok.2 ⟨fun n hn => v1 n (List.mem_of_mem_take hn), by rw [List.length_take]; omega, ?_⟩
            have := Path.inter_pre (ns := splitL (bs y.path)) (k := (splitL (bs x.path)).length + 1)
            omega
          obtain ⟨e1, e2⟩ := Path.join_ok hI
          exact ⟨_, under_iff.2 ⟨e1, hyE, by rw [e2]; exact List.take_prefix _ _⟩, by rw [e2, List.length_take]; omega, e1⟩
        obtain ⟨q, hq1, hq2, hqE⟩ := key
        obtain ⟨z, hz, hzq, _⟩ := up_in h _ y hy rfl q hq1
        have hxq : splitL (bs x.path) <+: splitL q := List.prefix_of_prefix_length_le hpre (under_iff.1 hq1).2.2 (by omega)
        have hqr : q ≠ [47] := fun e47 => by rw [e47, show splitL [47] = [] by decide] at hq2; simp at hq2
        obtain ⟨_, _, hdE, hup, hlen⟩ := path_form hqE hqr
        have hpar : parD q = bs x.path := by
          have h1 := List.prefix_of_prefix_length_le (under_iff.1 hup).2.2 hxq (by omega)
          exact Path.split_inj hdE hxE (h1.eq_of_length (by omega))
        refine count_one (q := q) ((drop_rises (right_rises h)).sublist List.filter_sublist) (fun c hc hcy => ?_) ⟨z, List.mem_filter.2 ⟨in_tail h hz (by rw [hzq]; exact hqr), by rw [hzq, hpar]; exact beq_self_eq_true _⟩, by rw [hzq]; exact hq1⟩
        obtain ⟨_, _, hcE, _, hl⟩ := child_facts h hc
        have h1 := List.prefix_of_prefix_length_le (under_iff.1 hcy).2.2 (under_iff.1 hq1).2.2 (by omega)
        exact Path.split_inj hcE hqE (h1.eq_of_length (by omega))
      rw [h1]; rfl
theorem cnt_self {l : List Nd} (h : rightT l = true) {x : Nd} (hx : x ∈ l) : cntN l (bs x.path) = 1 + ((childL l (bs x.path)).map fun c => cntN l (bs c.path)).sum := by
  rw [cnt_sum, sum_congr (fun y hy => child_point h hx hy), sum_add, sum_swap, ← countP_sum (fun y : Nd => bs y.path == bs x.path)]
  rw [count_one (q := bs x.path) (right_rises h) (fun y _ hy => by simpa using hy) ⟨x, hx, by simp⟩]
  congr 1
  exact sum_congr fun c _ => (cnt_sum l _).symm
theorem cnt_file {l : List Nd} (h : rightT l = true) {x : Nd} (hx : x ∈ l) (hd : x.dir = false) : cntN l (bs x.path) = 1 := by
  rw [cnt_self h hx]
  have : childL l (bs x.path) = [] := by
    rw [childL, List.filter_eq_nil_iff]
    intro c hc he
    obtain ⟨z, hz, hzp, hzd⟩ := par_in h hc
    have := same_node h hz hx (by rw [hzp]; simpa using he)
    rw [this, hd] at hzd
    cases hzd
  rw [this]; rfl
theorem cnt_root {l : List Nd} (h : rightT l = true) : cntN l [47] = l.length := by
  rw [cntN, List.filter_eq_self.2 fun y hy => ?_]
  exact under_iff.2 ⟨by decide, right_splits h hy, by rw [show splitL [47] = [] by decide]; exact List.nil_prefix⟩
theorem over_mem {l : List Nd} (h : rightT l = true) {p : ByteArray} (hp : p ∈ overL l) : ∃ (i : Nat) (x : Nd), l[i]? = some x ∧ x.path = p ∧ findI (bs p) l = i ∧ 0 ≤ x.quota ∧ x.quota < cntN l (bs p) := by
  rw [overL, if_pos h] at hp
  obtain ⟨x, hx, rfl⟩ := List.mem_map.1 hp
  obtain ⟨hxl, ho⟩ := List.mem_filter.1 hx
  simp only [overP, Bool.and_eq_true, decide_eq_true_eq] at ho
  rcases find_facts (bs x.path) l with ⟨_, hf⟩ | ⟨i, y, h1, h2, h3⟩
  · rw [List.find?_eq_none] at hf
    have := hf x hxl
    simp at this
  · have hy := List.find?_some h3
    have := same_node h (List.mem_of_getElem? h2) hxl (by simpa using hy)
    subst this
    exact ⟨i, y, h2, rfl, h1, ho.1.2, ho.2⟩
end Go.Proofs.YtbgeiebfjlgcmaaDoor.Quota
