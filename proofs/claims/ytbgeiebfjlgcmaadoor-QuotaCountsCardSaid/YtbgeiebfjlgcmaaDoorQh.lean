/- QuotaTells: the walk of the law. -/
import Derived.Test.YtbgeiebfjlgcmaaDoorQg
import Derived.Test.YtbgeiebfjlgcmaaDoorTk
namespace Go.Proofs.YtbgeiebfjlgcmaaDoor.Quota
open Go.RowKit
open Path (Bs bs mk bs_mk mk_bs tl_bs MaxC OwnS encS rd_cellsS)
open Tree
set_option linter.unusedSimpArgs false
set_option linter.unusedVariables false

theorem over_len (l : List Nd) : (overL l).length ≤ l.length := by
  rw [overL]
  split
  · rw [List.length_map]; exact List.length_filter_le _ _
  · simp
theorem ownS_up {w w1 w' : World} {v : Value} {q : List ByteArray} (h : OwnS w1 w' v q) (hw : w.heap.size ≤ w1.heap.size) : OwnS w w' v q := ⟨h.own, fun g hg => Nat.le_trans hw (h.new g hg)⟩

set_option maxHeartbeats 4000000 in
theorem law_tells (v : Value) (l : List Nd) (p : ByteArray) (w : World) (hM : MaxC w) (h0 : RdN w v l ∧ (∀ x ∈ l, OkN w x) ∧ l.length ≤ 8796093022208) (hp : p.size ≤ maxLen) :
    Calls Tryd.prog 6 #[v, .string p] w fun e w' => e = .returned (.bool true) ∧ Below w.heap.size w w' := by
  obtain ⟨h, _, hn⟩ := h0
  have e0 := ex_calls w hM
  have h1 : ∀ W, Below w.heap.size w W → _ := fun W hW => over_calls W v l (h.below hW) hn (hM.below hW)
  have h2 : ∀ W, Below w.heap.size w W → _ := fun W hW => rover_calls W v l (h.below hW) hn
  have h3 : ∀ W, Below w.heap.size w W → _ := fun W hW => count_calls W v l p (h.below hW) hn (hM.below hW) hp
  have h4 : ∀ W, Below w.heap.size w W → _ := fun W hW => rcount_calls W v l p (h.below hW) hn
  have h5 : ∀ W, Below w.heap.size w W → _ := fun W hW => room_calls W v l p (h.below hW) hn (hM.below hW)
  have h6 : ∀ W, Below w.heap.size w W → _ := fun W hW => rroom_calls W v l p (h.below hW) hn
  have hol := over_len l
  have htx := fun W u u' hu hu' => texts_calls W u u' (overL l) hu hu' (by omega)
  generalize overL l = ol at *
  obtain ⟨ao, cap, rfl, _, _, _⟩ := rd_cellsN h.rd
  generalize cntT l (bs p) = c at *
  generalize roomT l (bs p) = r at *
  have hcc : (((c : Nat) : Int) == ((c : Nat) : Int)) = true := beq_self_eq_true _
  have hrr : (r == r) = true := beq_self_eq_true _
  have H1 := Lib.hid h1; have H2 := Lib.hid h2; have H3 := Lib.hid h3; have H4 := Lib.hid h4; have H5 := Lib.hid h5; have H6 := Lib.hid h6; have Htx := Lib.hid htx
  clear h1 h2 h3 h4 h5 h6 htx h hM
  go_enter Tryd.func6, Tryd.ntmps6
  go_wp2_with (fail)
  refine e0.mono ?_
  rintro e w1 ⟨rfl, hB1⟩
  go_wp2_with (fail)
  refine (H1.out _ hB1).mono ?_
  rintro e w2 ⟨v2, rfl, hO2, hb2⟩
  have hB2 := hB1.trans (hb2.mono hB1.size)
  obtain ⟨a2, c2, hv2, _, _, _⟩ := rd_cellsS hO2.rd
  subst hv2
  go_wp2_with (fail)
  refine (H2.out _ hB2).mono ?_
  rintro e w3 ⟨v3, rfl, hO3, hb3⟩
  have hB3 := hB2.trans (hb3.mono hB2.size)
  have hO2' := ownS_below hO2 hb3
  obtain ⟨a3, c3, hv3, _, _, _⟩ := rd_cellsS hO3.rd
  subst hv3
  have ht := Htx.out w3 _ _ hO2'.rd hO3.rd
  clear hO2 hO3 hO2'
  go_wp2_with (fail)
  refine ht.mono ?_
  rintro e w4 ⟨rfl, hb4⟩
  have hB4 := hB3.trans (hb4.mono hB3.size)
  clear ht
  go_wp2_with (fail)
  refine (H3.out _ hB4).mono ?_
  rintro e w5 ⟨rfl, hb5⟩
  have hB5 := hB4.trans (hb5.mono hB4.size)
  go_wp2_with (fail)
  refine (H4.out _ hB5).mono ?_
  rintro e w6 ⟨rfl, hb6⟩
  have hB6 := hB5.trans (hb6.mono hB5.size)
  go_wp2_with (fail)
  refine (H5.out _ hB6).mono ?_
  rintro e w7 ⟨rfl, hb7⟩
  have hB7 := hB6.trans (hb7.mono hB6.size)
  go_wp2_with (fail)
  refine (H6.out _ hB7).mono ?_
  rintro e w8 ⟨rfl, hb8⟩
  go_wp2_with (fail)
  go_ret
  exact ⟨rfl, hB7.trans (hb8.mono hB7.size)⟩
end Go.Proofs.YtbgeiebfjlgcmaaDoor.Quota
