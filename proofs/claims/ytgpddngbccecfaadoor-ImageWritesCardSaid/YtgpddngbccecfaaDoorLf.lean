/- Leases: lease.at, lease.Until; what is right rises. -/
import Derived.Test.YtgpddngbccecfaaDoorLe
namespace Go.Proofs.YtgpddngbccecfaaDoor.Lease
open Go.RowKit

theorem right_at {l : List Le} (h : rightB l = true) {k : Nat} {x : Le} (hx : l[k]? = some x) : 0 ≤ x.c ∧ x.c < 4 ∧ 0 ≤ x.u ∧ x.u ≤ 9007199254740991 ∧ ∀ j y, k = j + 1 → l[j]? = some y → y.c < x.c := by
  have hk := (List.getElem?_eq_some_iff.1 hx).1
  have := List.all_eq_true.1 h k (List.mem_range.2 hk)
  rw [okAt, hx] at this
  simp only [Bool.and_eq_true, decide_eq_true_eq] at this
  obtain ⟨⟨⟨⟨h1, h2⟩, h3⟩, h4⟩, h5⟩ := this
  refine ⟨h1, h2, h3, h4, fun j y hj hy => ?_⟩
  subst hj
  simpa [hy] using h5
theorem right_rises {l : List Le} (h : rightB l = true) : Rises l := by
  refine List.pairwise_iff_getElem.2 fun i j hi hj hij => ?_
  have key : ∀ d, ∀ hj : i + 1 + d < l.length, l[i].c < (l[i + 1 + d]'hj).c := by
    intro d
    induction d with
    | zero =>
      intro hj
      exact (right_at h (k := i + 1) (x := l[i + 1]) (by simp [show i + 1 < l.length by omega])).2.2.2.2 i l[i] rfl (by simp [hi])
    | succ d ih =>
      intro hj
      have h1 := ih (by omega)
      have h2 := (right_at h (k := i + 1 + d + 1) (x := l[i + 1 + d + 1]) (by simp [show i + 1 + d + 1 < l.length by omega])).2.2.2.2 (i + 1 + d) (l[i + 1 + d]'(by omega)) rfl (by simp [show i + 1 + d < l.length by omega])
      exact Int.lt_trans h1 h2
  have := key (j - (i + 1)) (by omega)
  have e : i + 1 + (j - (i + 1)) = j := by omega
  simpa only [e] using this
theorem right_len {l : List Le} (h : rightB l = true) : l.length ≤ 4 := by
  have hr := right_rises h
  have key : ∀ d, ∀ hd : d < l.length, (d : Int) ≤ (l[d]'hd).c := by
    intro d
    induction d with
    | zero => intro hd; have := (right_at h (k := 0) (x := l[0]) (by simp [hd])).1; omega
    | succ d ih =>
      intro hd
      have h1 := ih (by omega)
      have h2 := rises_get hr (p := d) (q := d + 1) (x := l[d]) (y := l[d + 1]) (by simp [show d < l.length by omega]) (by simp [hd]) (by omega)
      omega
  by_cases hl : l.length ≤ 4
  · exact hl
  · have h1 := key 4 (by omega)
    have h2 := (right_at h (k := 4) (x := l[4]) (by simp [show 4 < l.length by omega])).2.1
    omega
theorem has_find (key : Int) (l : List Le) : hasL key l = (l.find? (fun x => x.c == key)).isSome := by
  rw [hasL, Bool.eq_iff_iff, List.any_eq_true, List.find?_isSome]
theorem idx_has {l : List Le} {key : Int} (hr : Rises l) (h : hasL key l = true) : ∃ x, l[idxL key l]? = some x ∧ x.c = key ∧ l.find? (fun x => x.c == key) = some x := by
  rw [has_find, Option.isSome_iff_exists] at h
  obtain ⟨x, hx⟩ := h
  have hc : x.c = key := by have := List.find?_some hx; simpa using this
  obtain ⟨p, hp, hpx⟩ := List.mem_iff_getElem.1 (List.mem_of_find?_eq_some hx)
  have hp' : l[p]? = some x := by simp [hp, hpx]
  refine ⟨x, ?_, hc, hx⟩
  rw [idx_at (i := p) (by omega) (fun q y hq hy => ?_) (fun q y hq hy => ?_)]
  · exact hp'
  · have := rises_get hr hy hp' hq; omega
  · by_cases e : q = p
    · subst e
      have := hp'.symm.trans hy
      simp only [Option.some.injEq] at this
      rw [← this]; omega
    · have := rises_get hr hp' hy (by omega); omega

theorem at_calls (w : World) (v : Value) (l : List Le) (key : Int) (h : Rd w 2 encL v l) (hs : Rises l) (hn : l.length ≤ 8796093022208) :
    Calls Tryd.prog 46 #[v, .int .i64 key, .func (.func 47) #[] #[]] w fun e w' => e = .returned (.tuple #[.int .i64 (idxL key l), .bool (hasL key l)]) ∧ Below w.heap.size w w' := by
  have hb : Below w.heap.size w (w.alloc (.cells #[.func (.func 47) #[] #[]] 87)) := (Below.refl _ _).alloc (Nat.le_refl _) _
  have hbin := bin_calls (w.alloc (.cells #[.func (.func 47) #[] #[]] 87)) w.heap.size v l key (heap_alloc_new w _) (h.below hb (Nat.le_refl _)) hs hn
  clear h
  go_enter Tryd.func46, Tryd.ntmps46
  go_wp2_with (go_at_call 63; refine hbin.mono ?_; rintro e w1 ⟨rfl, hb1⟩)
  go_ret2
  exact ⟨rfl, hb.trans (hb1.mono hb.size)⟩

set_option maxHeartbeats 2000000 in
theorem until_calls (w : World) (v : Value) (l : List Le) (c : Int) (h : Rd w 2 encL v l) (hn : l.length ≤ 8796093022208) :
    Calls Tryd.prog 26 #[v, .int .i64 c] w fun e w' => e = .returned (.tuple #[.int .i64 (untilU c l), .bool (untilB c l)]) ∧ Below w.heap.size w w' := by
  have hr := right_calls w v l h hn
  by_cases hR : rightB l = true
  · have hat := fun W (hW : Below w.heap.size w W) => at_calls W v l c (h.below hW (Nat.le_refl _)) (right_rises hR) hn
    obtain ⟨ao, cap, rfl, hcap, _, hcell⟩ := rd_cells h
    have Hcell := Lib.hid hcell; have Hat := Lib.hid hat; clear hcell h hat
    by_cases hh : hasL c l = true
    · obtain ⟨x, hx, _, hf⟩ := idx_has (right_rises hR) hh
      rw [(until_hit hR hf).1, (until_hit hR hf).2]
      have hi := (List.getElem?_eq_some_iff.1 hx).1
      rw [hR] at hr
      have HR := Lib.hid hR; clear hR
      have Hh := Lib.hid hh; clear hh hf
      have Hx := Lib.hid hx; clear hx
      go_enter Tryd.func26, Tryd.ntmps26
      go_wp2_with (first
        | (go_at_call 24; refine hr.mono ?_; rintro e w1 ⟨rfl, hb1⟩)
        | (go_at_call 46; refine (Hat.out _ hb1).mono ?_; (rw [Hh.out]); rintro e w2 ⟨rfl, hb2⟩; obtain ⟨bx, ox, rfl, hbx, d0, d1⟩ := Hcell.out w2 (hb1.trans (hb2.mono hb1.size)) _ x Hx.out; generalize idxL c l = ii at *))
      go_ret2
      exact ⟨rfl, hb1.trans (hb2.mono hb1.size)⟩
    · rw [Bool.not_eq_true] at hh
      have hf : l.find? (fun x => x.c == c) = none := by rw [has_find] at hh; simpa using hh
      rw [(until_miss hf).1, (until_miss hf).2]
      rw [hR] at hr
      have HR := Lib.hid hR; clear hR
      have Hh := Lib.hid hh; clear hh hf
      go_enter Tryd.func26, Tryd.ntmps26
      go_wp2_with (first
        | (go_at_call 24; refine hr.mono ?_; rintro e w1 ⟨rfl, hb1⟩)
        | (go_at_call 46; refine (Hat.out _ hb1).mono ?_; (rw [Hh.out]); rintro e w2 ⟨rfl, hb2⟩; generalize idxL c l = ii at *))
      go_ret2
      exact ⟨rfl, hb1.trans (hb2.mono hb1.size)⟩
  · rw [Bool.not_eq_true] at hR
    rw [(until_bad hR).1, (until_bad hR).2]
    rw [hR] at hr
    clear hR h
    go_enter Tryd.func26, Tryd.ntmps26
    go_wp2_with (go_at_call 24; refine hr.mono ?_; rintro e w1 ⟨rfl, hb1⟩)
    go_ret2
    exact ⟨rfl, hb1⟩
end Go.Proofs.YtgpddngbccecfaaDoor.Lease
