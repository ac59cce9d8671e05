/- Trees: slices.BinarySearchFunc over nodes; tree.at. -/
import Derived.Test.YtpghaghmejgjbaaGreatDoorTd
namespace Go.Proofs.YtpghaghmejgjbaaGreatDoor.Tree
open Go.RowKit
open Path (Bs bs mk bs_mk mk_bs tl_bs splitE splitL MaxC)
set_option linter.unusedSimpArgs false
set_option linter.unusedVariables false

set_option maxHeartbeats 4000000 in
theorem bin_calls (w : World) (v : Value) (l : List Nd) (key : ByteArray) (h : RdN w v l) (hs : Rises l) (hn : l.length ≤ 8796093022208) :
    Calls Tryz.prog 62 #[v, .string key, .func (.func 63) #[] #[]] w fun e w' => e = .returned (.tuple #[.int .i64 (idxN key l), .bool (hasN key l)]) ∧ Below w.heap.size w w' := by
  have hblk := fun W (hW : Below w.heap.size w W) x (hx : x ∈ l) => (h.bl x hx).below hW (Nat.le_refl _)
  obtain ⟨ao, cap, rfl, hcap, _, hcell⟩ := rd_cellsN h.rd
  have Hcell := Lib.hid hcell; have Hblk := Lib.hid hblk; clear hcell h hblk
  have Hs := Lib.hid hs; clear hs
  go_enter Tryz.func62, Tryz.ntmps62
  go_wp2_with (fail)
  go_loopw [9, 10] (fun vi vj wr => ∃ i j : Nat, vi = .int .i64 i ∧ vj = .int .i64 j ∧ i ≤ j ∧ j ≤ l.length ∧ (∀ p x, p < i → l[p]? = some x → ltB (bs x.path) (bs key) = true) ∧ (∀ p x, j ≤ p → l[p]? = some x → ltB (bs x.path) (bs key) = false) ∧ Below w.heap.size w wr) (fun vi vj _ => (intOf vj - intOf vi).toNat)
  case atStart => exact ⟨0, l.length, rfl, rfl, Nat.zero_le _, Nat.le_refl _, fun p x hp => by omega, fun p x hp hx => by have := (List.getElem?_eq_some_iff.1 hx).1; omega, Below.refl _ _⟩
  case round =>
    obtain ⟨i, j, rfl, rfl, hij, hjl, h1, h2, hb⟩ := hrel
    have H1 := Lib.hid h1; have H2 := Lib.hid h2; clear h1 h2
    have hsz := hb.size
    by_cases hlt : i < j
    · obtain ⟨x, hx⟩ : ∃ x, l[(i + j) / 2]? = some x := ⟨l[(i + j) / 2]'(by omega), by simp [show (i + j) / 2 < l.length by omega]⟩
      obtain ⟨b, off, rfl, hbb, c0, c1, c2, c3, c4⟩ := Hcell.out wr hb _ x hx
      have hby := by_calls wr x key (Hblk.out wr hb x (List.mem_of_getElem? hx))
      rw [cmp_lt] at hby
      have Hx := Lib.hid hx; have Hb := Lib.hid hb; clear hx hb
      have hm1 : (i + j) / 2 < l.length := by omega
      cases hk : ltB (bs x.path) (bs key)
      · rw [hk, if_neg (by simp)] at hby
        have hcm' : ¬ (if bs x.path = bs key then (0 : Int) else 1) < 0 := by split <;> omega
        generalize (if bs x.path = bs key then (0 : Int) else 1) = cm at *
        have Hk := Lib.hid hk; clear hk
        go_wp2_with (fail)
        refine hby.mono ?_
        rintro e w1 ⟨rfl, hb1⟩
        go_wp2_with (fail)
        go_roundw
        case rel =>
          refine ⟨i, (i + j) / 2, rfl, by rw [show ((i : Int) + (j : Int)) / 2 = (((i + j) / 2 : Nat) : Int) by omega], by omega, by omega, H1.out, fun p y hp hy => ?_, Hb.out.trans (hb1.mono hsz)⟩
          by_cases he : p = (i + j) / 2
          · subst he
            have := Hx.out.symm.trans hy
            simp only [Option.some.injEq] at this
            rw [← this]; exact Hk.out
          · have hr := rises_get Hs.out Hx.out hy (by omega)
            rw [Bool.eq_false_iff]
            intro hh
            have := lt_trans _ _ _ hr hh
            rw [Hk.out] at this; cases this
        case measure => simp [intOf]; omega
      · rw [hk, if_pos rfl] at hby
        have Hk := Lib.hid hk; clear hk
        go_wp2_with (fail)
        refine hby.mono ?_
        rintro e w1 ⟨rfl, hb1⟩
        go_wp2_with (fail)
        go_roundw
        case rel =>
          refine ⟨(i + j) / 2 + 1, j, by rw [show ((i : Int) + (j : Int)) / 2 + 1 = (((i + j) / 2 + 1 : Nat) : Int) by omega], rfl, by omega, hjl, fun p y hp hy => ?_, H2.out, Hb.out.trans (hb1.mono hsz)⟩
          by_cases he : p = (i + j) / 2
          · subst he
            have := Hx.out.symm.trans hy
            simp only [Option.some.injEq] at this
            rw [← this]; exact Hk.out
          · exact lt_trans _ _ _ (rises_get Hs.out hy Hx.out (by omega)) Hk.out
        case measure => simp [intOf]; omega
    · obtain rfl : j = i := by omega
      have Hidx : Hid (idxN key l = j) := idx_at hjl H1.out H2.out
      by_cases hjn : j < l.length
      · obtain ⟨x, hx⟩ : ∃ x, l[j]? = some x := ⟨l[j], by simp [hjn]⟩
        obtain ⟨b, off, rfl, hbb, c0, c1, c2, c3, c4⟩ := Hcell.out wr hb _ x hx
        have hby := by_calls wr x key (Hblk.out wr hb x (List.mem_of_getElem? hx))
        rw [cmp_lt] at hby
        have Hx := Lib.hid hx; have Hb := Lib.hid hb; clear hx hb
        have hge := H2.out j x (Nat.le_refl _) Hx.out
        rw [hge, if_neg (by simp)] at hby
        have Hge := Lib.hid hge; clear hge
        by_cases he : bs x.path = bs key
        · have hh : hasN key l = true := List.any_eq_true.2 ⟨x, List.mem_of_getElem? Hx.out, by simp [he]⟩
          rw [if_pos he] at hby
          have Hh := Lib.hid hh; clear hh he
          go_wp2_with (fail)
          refine hby.mono ?_
          rintro e w1 ⟨rfl, hb1⟩
          go_wp2_with (fail)
          go_ret2
          exact ⟨by rw [Hidx.out, Hh.out]; rfl, Hb.out.trans (hb1.mono hsz)⟩
        · have hh : hasN key l = false := by
            rw [hasN, List.any_eq_false]
            intro y hy
            obtain ⟨p, hp, rfl⟩ := List.mem_iff_getElem.1 hy
            have hp' : l[p]? = some l[p] := by simp [hp]
            intro hbe
            have hbe' := beq_iff_eq.1 hbe
            by_cases h1 : p < j
            · exact lt_ne (H1.out p _ h1 hp') hbe'
            · by_cases h2 : p = j
              · subst h2
                have := Hx.out.symm.trans hp'
                simp only [Option.some.injEq] at this
                rw [← this] at hbe'
                exact he hbe'
              · have hr := rises_get Hs.out Hx.out hp' (by omega)
                rw [hbe', Hge.out] at hr
                cases hr
          rw [if_neg he] at hby
          have Hh := Lib.hid hh; clear hh he
          go_wp2_with (fail)
          refine hby.mono ?_
          rintro e w1 ⟨rfl, hb1⟩
          go_wp2_with (fail)
          go_ret2
          exact ⟨by rw [Hidx.out, Hh.out]; rfl, Hb.out.trans (hb1.mono hsz)⟩
      · have Hno : Hid (hasN key l = false) := by
          show hasN key l = false
          rw [hasN, List.any_eq_false]
          intro y hy
          obtain ⟨p, hp, rfl⟩ := List.mem_iff_getElem.1 hy
          intro hbe
          exact lt_ne (H1.out p l[p] (by omega) (by simp [hp])) (beq_iff_eq.1 hbe)
        go_wp2_with (fail)
        go_ret2
        exact ⟨by rw [Hidx.out, Hno.out]; rfl, hb⟩

theorem at_calls (w : World) (v : Value) (l : List Nd) (key : ByteArray) (h : RdN w v l) (hs : Rises l) (hn : l.length ≤ 8796093022208) :
    Calls Tryz.prog 33 #[v, .string key] w fun e w' => e = .returned (.tuple #[.int .i64 (idxN key l), .bool (hasN key l)]) ∧ Below w.heap.size w w' := by
  have hb := bin_calls w v l key h hs hn
  clear h
  go_enter Tryz.func33, Tryz.ntmps33
  go_wp2_with (fail)
  refine hb.mono ?_
  rintro e w1 ⟨rfl, hb1⟩
  go_wp2_with (fail)
  go_ret2
  exact ⟨rfl, hb1⟩
end Go.Proofs.YtpghaghmejgjbaaGreatDoor.Tree
