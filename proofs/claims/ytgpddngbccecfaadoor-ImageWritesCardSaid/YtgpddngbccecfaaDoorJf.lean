/- Images: the space of no edits; the chapter's examples. -/
import Derived.Test.YtgpddngbccecfaaDoorJe
namespace Go.Proofs.YtgpddngbccecfaaDoor.Image
open Go.RowKit
open Path (Bs bs mk bs_mk mk_bs tl_bs MaxC)
open Tree
open Space (Sp spC RdSp spaceB)
open Wire (numB textB sealB)
set_option linter.unusedSimpArgs false
set_option linter.unusedVariables false
def rootN : Nd := ⟨⟨#[47]⟩, true, -1, [], .slice none 0 0, -1⟩
def newS (v : Value) : Sp := ⟨0, 1, 1, 0, [rootN], [], v, .slice none 0 0⟩
theorem new_right (v : Value) : spaceB (newS v) = true := by
  show spaceB (newS (.slice none 0 0)) = true
  decide +kernel
theorem new_len (v : Value) : 20 < (imageB (newS v)).length := by
  show 20 < (imageB (newS (.slice none 0 0))).length
  decide +kernel
theorem new_len2 (v : Value) : (imageB (newS v)).length < 1000 := by
  show (imageB (newS (.slice none 0 0))).length < 1000
  decide +kernel
theorem empty_dec : decS readP [] = none ∧ decE readP [] = 2 := dec_no all_nil (.inl rfl)
set_option maxHeartbeats 2000000 in
theorem new_calls (w : World) : Calls Tryd.prog 8 #[] w fun e w' => (∃ v, e = .returned (.agg (spC (newS v))) ∧ RdSp w' (newS v) ∧ ∃ a n c, v = .slice a n c) ∧ Below w.heap.size w w' := by
  have h0 := heap_alloc_new w (.cells #[.int .i64 0, .int .i64 1, .int .i64 1, .int .i64 0, .slice (some ⟨w.heap.size + 1, 0, none⟩) 1 1, .slice none 0 0] 25 (0, 0))
  have h1 : ((w.alloc (.cells #[.int .i64 0, .int .i64 1, .int .i64 1, .int .i64 0, .slice (some ⟨w.heap.size + 1, 0, none⟩) 1 1, .slice none 0 0] 25 (0, 0))).alloc (.cells #[.string ⟨#[47]⟩, .bool true, .int .i64 (-1), .slice none 0 0, .int .i64 (-1)] 51 (0, 0))).heap[w.heap.size]? = some (.cells #[.int .i64 0, .int .i64 1, .int .i64 1, .int .i64 0, .slice (some ⟨w.heap.size + 1, 0, none⟩) 1 1, .slice none 0 0] 25 (0, 0)) := (((Below.refl _ _).alloc (Nat.le_refl _) _).block _ (by simp)).trans h0
  have h2 : ((w.alloc (.cells #[.int .i64 0, .int .i64 1, .int .i64 1, .int .i64 0, .slice (some ⟨w.heap.size + 1, 0, none⟩) 1 1, .slice none 0 0] 25 (0, 0))).alloc (.cells #[.string ⟨#[47]⟩, .bool true, .int .i64 (-1), .slice none 0 0, .int .i64 (-1)] 51 (0, 0))).heap[w.heap.size + 1]? = some (.cells #[.string ⟨#[47]⟩, .bool true, .int .i64 (-1), .slice none 0 0, .int .i64 (-1)] 51 (0, 0)) := by have := heap_alloc_new (w.alloc (.cells #[.int .i64 0, .int .i64 1, .int .i64 1, .int .i64 0, .slice (some ⟨w.heap.size + 1, 0, none⟩) 1 1, .slice none 0 0] 25 (0, 0))) (.cells #[.string ⟨#[47]⟩, .bool true, .int .i64 (-1), .slice none 0 0, .int .i64 (-1)] 51 (0, 0)); simpa using this
  have hb : Below w.heap.size w ((w.alloc (.cells #[.int .i64 0, .int .i64 1, .int .i64 1, .int .i64 0, .slice (some ⟨w.heap.size + 1, 0, none⟩) 1 1, .slice none 0 0] 25 (0, 0))).alloc (.cells #[.string ⟨#[47]⟩, .bool true, .int .i64 (-1), .slice none 0 0, .int .i64 (-1)] 51 (0, 0))) := ((Below.refl _ _).alloc (Nat.le_refl _) _).alloc (by simp) _
  have hrd : RdSp ((w.alloc (.cells #[.int .i64 0, .int .i64 1, .int .i64 1, .int .i64 0, .slice (some ⟨w.heap.size + 1, 0, none⟩) 1 1, .slice none 0 0] 25 (0, 0))).alloc (.cells #[.string ⟨#[47]⟩, .bool true, .int .i64 (-1), .slice none 0 0, .int .i64 (-1)] 51 (0, 0))) (newS (.slice (some ⟨w.heap.size + 1, 0, none⟩) 1 1)) := by
    refine ⟨⟨⟨_, _, rfl, Nat.le_refl _, by unfold maxLen; decide, fun i x hx => ?_⟩, fun x hx => ?_⟩, ⟨_, _, rfl, Nat.le_refl _, Nat.zero_le _, fun i x hx => by cases hx⟩, by show 1 ≤ 8796093022208; omega, by show 0 ≤ 8796093022208; omega⟩
    · cases i with
      | zero =>
        cases hx
        refine ⟨_, _, rfl, lt_of_block h2, fun j u hu => ?_⟩
        rw [show 0 + 0 * 5 + j = j by omega, cell_of_blk h2]
        rw [show (#[.string ⟨#[47]⟩, .bool true, .int .i64 (-1), .slice none 0 0, .int .i64 (-1)] : Array Value) = (encN rootN).toArray from rfl, List.getElem?_toArray]
        exact hu
      | succ i => cases hx
    · have : x = rootN := by simpa [newS] using hx
      subst this
      exact ⟨_, _, rfl, Nat.le_refl _, Nat.zero_le _, fun i x hx => by cases hx⟩
  have H1 := Lib.hid h1; have HB := Lib.hid hb; have HR := Lib.hid hrd
  clear h0 h1 h2 hb hrd
  go_enter Tryd.func8, Tryd.ntmps8
  go_wp2_with (fail)
  refine bodyPost_ret (results_cell_row rfl _ _ w.heap.size _ _ _ _ rfl H1.out Tryd.underlying25 rfl (by kernel_rfl)) rfl ⟨⟨_, rfl, HR.out, _, _, _, rfl⟩, HB.out⟩
set_option maxRecDepth 4000 in
set_option maxHeartbeats 1000000 in
theorem ex_calls (w : World) (hM : MaxC w) : Calls Tryd.prog 4 #[] w fun e w' => e = .returned (.bool true) ∧ Below w.heap.size w w' := by
  have hd0 := decode_calls w ⟨#[]⟩ (by decide) hM
  rw [show bs ⟨#[]⟩ = [] from rfl, empty_dec.1, empty_dec.2] at hd0
  have hnw := fun W => new_calls W
  have hde := fun W (hW : Below w.heap.size w W) v => decode_calls W (mk (imageB (newS v))) (by rw [Path.mk_size]; have := new_len2 v; omega) (hM.below hW)
  have HM := Lib.hid hM; have Hd0 := Lib.hid hd0; have Hnw := Lib.hid hnw; have Hde := Lib.hid hde
  clear hM hd0 hnw hde
  go_enter Tryd.func4, Tryd.ntmps4
  go_wp2_with (fail)
  refine Hd0.out.mono ?_
  rintro e w1 hp
  unfold DecPost at hp
  obtain ⟨hp, b1⟩ := hp
  rcases hp with ⟨s, he, h, -⟩ | ⟨-, -, he⟩
  · cases h
  subst he
  go_wp2_with (fail)
  refine (Hnw.out _).mono ?_
  rintro e w2 ⟨⟨v, rfl, hRd, av, nv, cv, rfl⟩, b2⟩
  have s1 := b1.size
  have B2 : Below w.heap.size w w2 := (b1.alloc s1 _).trans (b2.mono (by simp; omega))
  have henc := encode_calls w2 (newS (.slice av nv cv)) hRd (HM.out.below B2)
  rw [encS, encE, new_right (.slice av nv cv), if_pos rfl, if_pos rfl] at henc
  have hde := fun W hW => Hde.out W hW (.slice av nv cv)
  have hdy := dec_yes readsP (new_right (.slice av nv cv))
  rw [bs_mk, hdy.1, hdy.2] at hde
  have hz : (mk (imageB (newS (.slice av nv cv)))).size < 1000 := by rw [Path.mk_size]; exact new_len2 (.slice av nv cv)
  have hz2 : 20 < (mk (imageB (newS (.slice av nv cv)))).size := by rw [Path.mk_size]; exact new_len (.slice av nv cv)
  have Henc := Lib.hid henc; have HB2 := Lib.hid B2; have Hd2 := Lib.hid hde
  clear henc B2 hde hdy Hde Hd0 Hnw hRd
  generalize mk (imageB (newS (.slice av nv cv))) = S at *
  rw [spC]
  go_wp2_with (fail)
  refine Henc.out.mono ?_
  rintro e w3 ⟨rfl, b3⟩
  have B3 := HB2.out.trans (b3.mono HB2.out.size)
  go_wp2_with (fail)
  refine (Hd2.out w3 B3).mono ?_
  rintro e w4 hp
  unfold DecPost at hp
  obtain ⟨hp, b4⟩ := hp
  have hp : ∃ s : Sp, e = .returned (.tuple #[.agg (spC s), .int .i64 0]) ∧ some (purS (newS (.slice av nv cv))) = some (purS s) ∧ OwnX w3 w4 s.vn s.nodes ∧ Lease.OwnL w3 w4 s.vl s.leases := by
    rcases hp with ⟨s, he, h, -, hX, hL, -⟩ | ⟨h, -⟩
    · exact ⟨s, he, h, hX, hL⟩
    · cases h
  obtain ⟨s, he, h, hX, hL⟩ := hp
  subst he
  obtain ⟨an, cn, hvn, -, -, -⟩ := rd_cellsN hX.rd.rd
  obtain ⟨al, cl, hvl, -, -, -⟩ := Lease.rd_cells (Rd.of_own Lease.encL_len hL.own)
  rcases s with ⟨tx, nb, ng, now, nodes, leases, vn, vl⟩
  simp only at hvn hvl
  subst hvn hvl
  have hp := Option.some.inj h
  have h1 : ng = 1 := (congrArg Sp.ng hp).symm
  have h2 : nodes.length = 1 := by
    have := congrArg (fun s : Sp => s.nodes.length) hp
    simpa [purS, newS] using this.symm
  have B4 := B3.trans (b4.mono B3.size)
  subst h1
  have H2 := Lib.hid h2; have HB4 := Lib.hid B4
  clear h2 hp h hX hL B3 B4
  generalize nodes.length = m at *
  obtain rfl : m = 1 := H2.out
  rw [spC]
  go_wp2_with (fail)
  go_ret
  exact ⟨by simp; omega, HB4.out.alloc HB4.out.size _⟩
end Go.Proofs.YtgpddngbccecfaaDoor.Image
