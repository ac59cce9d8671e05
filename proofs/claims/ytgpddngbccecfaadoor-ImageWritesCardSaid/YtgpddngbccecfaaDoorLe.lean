/- Leases: where a client stands: slices.BinarySearchFunc, lease.at. -/
import Derived.Test.YtgpddngbccecfaaDoorLd
namespace Go.Proofs.YtgpddngbccecfaaDoor.Lease
open Go.RowKit

theorem by_calls (w : World) (bt : Nat) (x : Le) (key : Int) (hc : w.heap[bt]? = some (.cells #[.func (.func 47) #[] #[]] 87 (0, 0))) :
    Calls Tryd.prog 64 #[.agg #[.int .i64 x.c, .int .i64 x.u], .int .i64 key, .pointer (some ⟨bt, 0, none⟩)] w fun e w' => e = .returned (.int .i64 (cmpI x.c key)) ∧ Below w.heap.size w w' := by
  have hcc := cell_of_one hc
  have hbl := lt_of_block hc
  go_enter Tryd.func64, Tryd.ntmps64
  go_wp2_with (first
    | (go_at_call 47; refine (client_calls _ x).mono ?_; rintro e w1 ⟨rfl, hb1⟩)
    | (go_at_call 65; refine (cmp_calls _ _ _).mono ?_; rintro e w2 ⟨rfl, rfl⟩))
  go_ret
  exact ⟨rfl, ((Below.refl w.heap.size w).alloc (Nat.le_refl _) _).trans (hb1.mono (by simp))⟩

/-- The clients rise. -/
def Rises (l : List Le) : Prop := l.Pairwise fun x y => x.c < y.c
def idxL (key : Int) (l : List Le) : Nat := l.findIdx fun x => decide (key ≤ x.c)
def hasL (key : Int) (l : List Le) : Bool := l.any fun x => x.c == key
theorem idx_at {key : Int} {l : List Le} {i : Nat} (hi : i ≤ l.length) (h1 : ∀ p x, p < i → l[p]? = some x → x.c < key) (h2 : ∀ p x, i ≤ p → l[p]? = some x → key ≤ x.c) : idxL key l = i := by
  by_cases hlt : i < l.length
  · rw [idxL, List.findIdx_eq hlt]
    refine ⟨decide_eq_true (h2 i l[i] (Nat.le_refl _) (by simp [hlt])), fun j hj => decide_eq_false fun h => ?_⟩
    have := h1 j l[j] hj (by simp)
    omega
  · have e : i = l.length := by omega
    subst e
    rw [idxL, List.findIdx_eq_length]
    intro x hx
    obtain ⟨p, hp, rfl⟩ := List.mem_iff_getElem.1 hx
    have := h1 p l[p] hp (by simp [hp])
    simp; omega
theorem rises_get {l : List Le} (h : Rises l) {p q : Nat} {x y : Le} (hp : l[p]? = some x) (hq : l[q]? = some y) (hlt : p < q) : x.c < y.c := by
  have hp' := (List.getElem?_eq_some_iff.1 hp)
  have hq' := (List.getElem?_eq_some_iff.1 hq)
  obtain ⟨hp1, rfl⟩ := hp'
  obtain ⟨hq1, rfl⟩ := hq'
  exact List.pairwise_iff_getElem.1 h p q hp1 hq1 hlt

set_option maxHeartbeats 2000000 in
theorem bin_calls (w : World) (bt : Nat) (v : Value) (l : List Le) (key : Int) (hc : w.heap[bt]? = some (.cells #[.func (.func 47) #[] #[]] 87 (0, 0))) (h : Rd w 2 encL v l) (hs : Rises l) (hn : l.length ≤ 8796093022208) :
    Calls Tryd.prog 63 #[v, .int .i64 key, .func (.func 64) #[] #[.pointer (some ⟨bt, 0, none⟩)]] w fun e w' => e = .returned (.tuple #[.int .i64 (idxL key l), .bool (hasL key l)]) ∧ Below w.heap.size w w' := by
  obtain ⟨ao, cap, rfl, hcap, _, hcell⟩ := rd_cells h
  have Hcell := Lib.hid hcell; clear hcell h
  have hbl := lt_of_block hc
  have Hc := Lib.hid hc; clear hc
  have Hs := Lib.hid hs; clear hs
  go_enter Tryd.func63, Tryd.ntmps63
  go_wp2
  go_loopw [9, 10] (fun vi vj wr => ∃ i j : Nat, vi = .int .i64 i ∧ vj = .int .i64 j ∧ i ≤ j ∧ j ≤ l.length ∧ (∀ p x, p < i → l[p]? = some x → x.c < key) ∧ (∀ p x, j ≤ p → l[p]? = some x → key ≤ x.c) ∧ Below w.heap.size w wr) (fun vi vj _ => (intOf vj - intOf vi).toNat)
  case atStart => exact ⟨0, l.length, rfl, rfl, Nat.zero_le _, Nat.le_refl _, fun p x hp => by omega, fun p x hp hx => by have := (List.getElem?_eq_some_iff.1 hx).1; omega, Below.refl _ _⟩
  case round =>
    obtain ⟨i, j, rfl, rfl, hij, hjl, h1, h2, hb⟩ := hrel
    have H1 := Lib.hid h1; have H2 := Lib.hid h2; clear h1 h2
    have hsz := hb.size
    by_cases hlt : i < j
    · have hbt : wr.heap[bt]? = some (.cells #[.func (.func 47) #[] #[]] 87 (0, 0)) := (hb.block bt hbl).trans Hc.out
      have Hbt := Lib.hid hbt; clear hbt
      obtain ⟨x, hx⟩ : ∃ x, l[(i + j) / 2]? = some x := ⟨l[(i + j) / 2]'(by omega), by simp [show (i + j) / 2 < l.length by omega]⟩
      obtain ⟨b, off, rfl, hbb, c0, c1⟩ := Hcell.out wr hb _ x hx
      have Hx := Lib.hid hx; have Hb := Lib.hid hb; clear hx hb
      have hm1 : (i + j) / 2 < l.length := by omega
      by_cases hk : x.c < key
      · have hcm : cmpI x.c key = -1 := if_pos hk
        have hby := by_calls wr bt x key Hbt.out
        rw [hcm] at hby
        clear hcm
        go_wp2_with (go_at_call 64; refine hby.mono ?_; rintro e w1 ⟨rfl, hb1⟩)
        go_roundw
        case rel =>
          refine ⟨(i + j) / 2 + 1, j, by rw [show ((i : Int) + (j : Int)) / 2 + 1 = (((i + j) / 2 + 1 : Nat) : Int) by omega], rfl, by omega, hjl, fun p y hp hy => ?_, H2.out, Hb.out.trans (hb1.mono hsz)⟩
          by_cases he : p = (i + j) / 2
          · subst he
            have := Hx.out.symm.trans hy
            simp only [Option.some.injEq] at this
            rw [← this]; exact hk
          · have := rises_get Hs.out hy Hx.out (by omega)
            omega
        case measure => simp [intOf]; omega
      · have hcm : 0 ≤ cmpI x.c key := by unfold cmpI; rw [if_neg hk]; split <;> omega
        have hby := by_calls wr bt x key Hbt.out
        have hcm' : ¬ cmpI x.c key < 0 := by omega
        generalize cmpI x.c key = cm at *
        go_wp2_with (go_at_call 64; refine hby.mono ?_; rintro e w1 ⟨rfl, hb1⟩)
        go_roundw
        case rel =>
          refine ⟨i, (i + j) / 2, rfl, by rw [show ((i : Int) + (j : Int)) / 2 = (((i + j) / 2 : Nat) : Int) by omega], by omega, by omega, H1.out, fun p y hp hy => ?_, Hb.out.trans (hb1.mono hsz)⟩
          by_cases he : p = (i + j) / 2
          · subst he
            have := Hx.out.symm.trans hy
            simp only [Option.some.injEq] at this
            rw [← this]; omega
          · have := rises_get Hs.out Hx.out hy (by omega)
            omega
        case measure => simp [intOf]; omega
    · obtain rfl : j = i := by omega
      have Hidx : Hid (idxL key l = j) := idx_at hjl H1.out H2.out
      by_cases hjn : j < l.length
      · obtain ⟨x, hx⟩ : ∃ x, l[j]? = some x := ⟨l[j], by simp [hjn]⟩
        obtain ⟨b, off, rfl, hbb, c0, c1⟩ := Hcell.out wr hb _ x hx
        have hbt : wr.heap[bt]? = some (.cells #[.func (.func 47) #[] #[]] 87 (0, 0)) := (hb.block bt hbl).trans Hc.out
        have Hx := Lib.hid hx; have Hb := Lib.hid hb; clear hx hb
        have hby := by_calls wr bt x key hbt
        have Hcm : Hid ((cmpI x.c key == 0) = hasL key l) := by
          have hge := H2.out j x (Nat.le_refl _) Hx.out
          by_cases he : x.c = key
          · have e1 : cmpI x.c key = 0 := by unfold cmpI; rw [if_neg (by omega), if_neg (by omega)]
            rw [e1, hasL]
            have : l.any (fun x => x.c == key) = true := List.any_eq_true.2 ⟨x, List.mem_of_getElem? Hx.out, by simp [he]⟩
            rw [this]; rfl
          · have e1 : cmpI x.c key = 1 := by unfold cmpI; rw [if_neg (by omega), if_pos (by omega)]
            rw [e1, hasL]
            have : l.any (fun x => x.c == key) = false := by
              rw [List.any_eq_false]
              intro y hy
              obtain ⟨p, hp, rfl⟩ := List.mem_iff_getElem.1 hy
              have hp' : l[p]? = some l[p] := by simp [hp]
              by_cases h1 : p < j
              · have := H1.out p _ h1 hp'
                simp; omega
              · by_cases h2 : p = j
                · subst h2
                  have := Hx.out.symm.trans hp'
                  simp only [Option.some.injEq] at this
                  rw [← this]; simp [he]
                · have := rises_get Hs.out Hx.out hp' (by omega)
                  simp; omega
            rw [this]; rfl
        clear hbt
        generalize cmpI x.c key = cm at *
        go_wp2_with (go_at_call 64; refine hby.mono ?_; rintro e w1 ⟨rfl, hb1⟩)
        go_ret2
        exact ⟨by rw [Hidx.out, ← Hcm.out]; rfl, Hb.out.trans (hb1.mono hsz)⟩
      · have Hno : Hid (hasL key l = false) := by
          show hasL key l = false
          rw [hasL, List.any_eq_false]
          intro y hy
          obtain ⟨p, hp, rfl⟩ := List.mem_iff_getElem.1 hy
          have := H1.out p l[p] (by omega) (by simp [hp])
          simp; omega
        go_wp2
        go_ret2
        exact ⟨by rw [Hidx.out, Hno.out]; rfl, hb⟩
end Go.Proofs.YtgpddngbccecfaaDoor.Lease
