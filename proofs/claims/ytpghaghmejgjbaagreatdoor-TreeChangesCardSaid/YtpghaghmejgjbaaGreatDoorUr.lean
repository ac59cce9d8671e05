/- Trees (chapter 7): nodes that are spoilt. -/
import Derived.Test.YtpghaghmejgjbaaGreatDoorUo
namespace Go.Proofs.YtpghaghmejgjbaaGreatDoor.Tree
open Go.RowKit
open Path (Bs bs mk bs_mk mk_bs tl_bs)
set_option linter.unusedSimpArgs false
set_option linter.unusedVariables false

/-- What spoiling leaves: the places of the blocks. -/
structure SpI (g : Nat) (q : List Nd) (W : World) : Prop where
  row : ∃ cs, W.heap[g]? = some (.cells cs 25 (0, 0)) ∧ q.length * 5 ≤ cs.size ∧ ∀ (i : Nat) x, q[i]? = some x → cs[i * 5 + 3]? = some x.bv
  bl : ∀ x ∈ q, ∀ gb, x.bv.ownBlock = some gb → ∃ cb, W.heap[gb]? = some (.cells cb 65 (0, 0)) ∧ x.blocks.length * 3 ≤ cb.size
theorem SpI.ne {g : Nat} {q : List Nd} {W : World} (h : SpI g q W) {x : Nd} (hx : x ∈ q) {gb : Nat} (hb : x.bv.ownBlock = some gb) : gb ≠ g := by
  rintro rfl
  obtain ⟨cs, h1, _⟩ := h.row
  obtain ⟨cb, h2, _⟩ := h.bl x hx _ hb
  rw [h1] at h2
  have := congrArg (fun o => match o with | some (Obj.cells _ t _) => t | _ => 0) h2
  simp at this
theorem SpI.poke {g : Nat} {q : List Nd} {W : World} (h : SpI g q W) {x : Nd} (hx : x ∈ q) {gb : Nat} (hb : x.bv.ownBlock = some gb) (j : Nat) (u : Value) : SpI g q (W.setCell ⟨gb, j, none⟩ u) := by
  have hne := h.ne hx hb
  refine ⟨?_, fun y hy gy hgy => ?_⟩
  · obtain ⟨cs, h1, h2, h3⟩ := h.row
    exact ⟨cs, (heap_setCell_other W ⟨gb, j, none⟩ g u (fun e => hne e.symm)).trans h1, h2, h3⟩
  · obtain ⟨cb, h1, h2⟩ := h.bl y hy gy hgy
    by_cases e : gy = gb
    · subst e
      exact ⟨_, heap_setCell_same W gy j cb _ u h1, by rw [Array.size_setIfInBounds]; exact h2⟩
    · exact ⟨cb, (heap_setCell_other W ⟨gb, j, none⟩ gy u e).trans h1, h2⟩
theorem SpI.path {g : Nat} {q : List Nd} {W : World} (h : SpI g q W) (i : Nat) (u : Value) : SpI g q (W.setCell ⟨g, i * 5, none⟩ u) := by
  refine ⟨?_, fun y hy gy hgy => ?_⟩
  · obtain ⟨cs, h1, h2, h3⟩ := h.row
    refine ⟨_, heap_setCell_same W g (i * 5) cs _ u h1, by rw [Array.size_setIfInBounds]; exact h2, fun j x hx => ?_⟩
    rw [Array.getElem?_setIfInBounds_ne (by omega)]
    exact h3 j x hx
  · obtain ⟨cb, h1, h2⟩ := h.bl y hy gy hgy
    exact ⟨cb, (heap_setCell_other W ⟨g, i * 5, none⟩ gy u (h.ne hy hgy)).trans h1, h2⟩
theorem spI_of {w w' : World} {g cap : Nat} {q : List Nd} (h : OwnX w w' (.slice (some ⟨g, 0, none⟩) q.length cap) q) : SpI g q w' := by
  refine ⟨?_, fun x hx gb hgb => ?_⟩
  · rcases h.own.2 with ⟨hv, _⟩ | ⟨g', cap', cur, hv, _, hg, hn, _, hcs, ht⟩
    · cases hv
    · simp only [Value.slice.injEq, Option.some.injEq, Addr.mk.injEq, and_true] at hv
      obtain ⟨rfl, -, rfl⟩ := hv
      have hsz : q.length * 5 ≤ cur.size := by rw [hcs]; exact Nat.mul_le_mul_right _ hn
      refine ⟨cur, hg, hsz, fun i x hx => ?_⟩
      have hf := flat_get encN 5 encN_len q i 3 x hx (by decide)
      have hi := (List.getElem?_eq_some_iff.1 hx).1
      have h2 : (cur.toList.take (q.length * 5))[i * 5 + 3]? = some x.bv := by rw [ht, flatN, hf]; rfl
      rw [List.getElem?_take, if_pos (by omega)] at h2
      rw [← Array.getElem?_toList]
      exact h2
  · rcases (h.bl x hx).own.2 with ⟨hv, _⟩ | ⟨g', cap', cur, hv, _, hg, hn, _, hcs, ht⟩
    · rw [hv] at hgb; cases hgb
    · have : g' = gb := by rw [hv] at hgb; simpa [Value.ownBlock] using hgb
      subst this
      exact ⟨cur, hg, by rw [hcs]; exact Nat.mul_le_mul_right _ hn⟩
theorem some_of_lt {cs : Array Value} {j : Nat} (h : j < cs.size) : ∃ u, cs[j]? = some u := ⟨cs[j], by simp [h]⟩
set_option maxRecDepth 4000 in
set_option maxHeartbeats 8000000 in
theorem spoil_calls (w0 w : World) (v : Value) (q : List Nd) (h : OwnX w0 w v q) (hn : q.length ≤ 8796093022208) (hbn : ∀ x ∈ q, x.blocks.length ≤ 8796093022208) (h0 : w0.heap.size ≤ w.heap.size) :
    Calls Tryz.prog 27 #[v] w fun e w' => e = .returned (.tuple #[]) ∧ Below w0.heap.size w w' := by
  rcases ownx_form h with ⟨rfl, rfl⟩ | ⟨g, cap, rfl, hcap, hg, -⟩
  · clear h
    go_enter Tryz.func27, Tryz.ntmps27
    go_wp2_with (fail)
    go_loopw [2, 3] (fun v2 _ wr => v2 = .int .i64 0 ∧ wr = w) (fun _ _ _ => 0)
    case atStart => exact ⟨rfl, rfl⟩
    case round =>
      obtain ⟨rfl, rfl⟩ := hrel
      go_wp2_with (fail)
      go_end0
      exact ⟨rfl, (Below.refl _ _).mono h0⟩
  · have hI := spI_of h
    have hgn : w0.heap.size ≤ g := h.new g rfl
    have hfm : ∀ x ∈ q, (x.bv = .slice none 0 0 ∧ x.blocks = []) ∨ ∃ gb cb, x.bv = .slice (some ⟨gb, 0, none⟩) x.blocks.length cb ∧ w0.heap.size ≤ gb := fun x hx => by
      have hb := h.bl x hx
      rcases hb.own.2 with ⟨hv, hf⟩ | ⟨gb, cb, cur, hv, _⟩
      · refine .inl ⟨hv, ?_⟩
        cases e : x.blocks with
        | nil => rfl
        | cons y t => rw [e] at hf; simp [flatB] at hf
      · exact .inr ⟨gb, cb, hv, hb.new gb (by rw [hv]; rfl)⟩
    have Hfm := Lib.hid hfm; have Hbn := Lib.hid hbn
    clear h hfm hbn
    generalize hm : q.length = m at *
    have Hm := Lib.hid hm
    have HI0 := Lib.hid hI
    clear hm hI
    go_enter Tryz.func27, Tryz.ntmps27
    go_wp2_with (fail)
    go_loopw [2, 3] (fun v2 _ wr => ∃ i : Nat, v2 = .int .i64 i ∧ i ≤ m ∧ SpI g q wr ∧ Below w0.heap.size w wr) (fun v2 _ _ => m - (intOf v2).toNat)
    case atStart => exact ⟨0, rfl, Nat.zero_le _, HI0.out, (Below.refl _ _).mono h0⟩
    case round =>
      obtain ⟨i, rfl, hi, hI, hb⟩ := hrel
      have HI := Lib.hid hI
      clear hI
      by_cases hlt : i < m
      · obtain ⟨x, hx⟩ : ∃ x, q[i]? = some x := ⟨q[i]'(by rw [Hm.out]; exact hlt), by rw [List.getElem?_eq_getElem]⟩
        have hxm := List.mem_of_getElem? hx
        have hxb := Hbn.out x hxm
        have Hx := Lib.hid hx; have Hxm := Lib.hid hxm
        clear hx hxm
        generalize hn1 : x.blocks.length = n1 at *
        have Hn1 := Lib.hid hn1
        clear hn1
        go_wp2_with (fail)
        go_loopw [3] (fun v3 wr => ∃ k : Nat, v3 = .int .i64 k ∧ k ≤ n1 ∧ SpI g q wr ∧ Below w0.heap.size w wr) (fun v3 _ => n1 - (intOf v3).toNat)
        case atStart => exact ⟨0, rfl, Nat.zero_le _, HI.out, hb⟩
        case round =>
          obtain ⟨k, rfl, hk, hI2, hb2⟩ := hrel
          have HI2 := Lib.hid hI2
          clear hI2
          have hbv : wr.cell? ⟨g, i * 5 + 3, none⟩ = some x.bv := by
            obtain ⟨cs, h1, h2, h3⟩ := HI2.out.row
            rw [cell_of_blk h1]; exact h3 i x Hx.out
          by_cases hlk : k < n1
          · rcases Hfm.out x Hxm.out with ⟨_, he⟩ | ⟨gb, cb, he, hgb⟩
            · exfalso
              have := Hn1.out
              rw [he] at this
              simp at this
              omega
            · have hob : x.bv.ownBlock = some gb := by rw [he]; rfl
              obtain ⟨cc, k1, k2⟩ := HI2.out.bl x Hxm.out gb hob
              obtain ⟨u, hu⟩ := some_of_lt (cs := cc) (j := k * 3) (by rw [Hn1.out] at k2; omega)
              have e0 : wr.cell? ⟨gb, k * 3, none⟩ = some u := by rw [cell_of_blk k1]; exact hu
              have z0 : wr.frozen? ⟨gb, k * 3, none⟩ = false := free_of_blk k1
              rw [he, Hn1.out] at hbv
              have Hob := Lib.hid hob
              clear k1 k2 hu hob he
              go_wp2_with (fail)
              go_roundw
              case rel => exact ⟨k + 1, by go_num, by omega, HI2.out.poke Hxm.out Hob.out _ _, hb2.setCell hgb _⟩
              case measure => simp [intOf]; omega
          · obtain rfl : k = n1 := by omega
            have hbv2 : ∃ ab cb, x.bv = .slice ab k cb := by
              rcases Hfm.out x Hxm.out with ⟨e1, e2⟩ | ⟨gb, cb, he, _⟩
              · have := Hn1.out
                rw [e2] at this
                exact ⟨none, 0, by rw [e1, ← this]; rfl⟩
              · exact ⟨_, cb, by rw [he, Hn1.out]⟩
            obtain ⟨ab, cb, he⟩ := hbv2
            rw [he] at hbv
            obtain ⟨cs, k1, k2, _⟩ := HI2.out.row
            obtain ⟨u, hu⟩ := some_of_lt (cs := cs) (j := i * 5) (by rw [Hm.out] at k2; omega)
            have e0 : wr.cell? ⟨g, i * 5, none⟩ = some u := by rw [cell_of_blk k1]; exact hu
            have z0 : wr.frozen? ⟨g, i * 5, none⟩ = false := free_of_blk k1
            clear k1 k2 hu he
            go_wp2_with (fail)
            go_roundw
            case rel => exact ⟨i + 1, by go_num, by omega, HI2.out.path i _, hb2.setCell hgn _⟩
            case measure => simp [intOf]; omega
      · obtain rfl : i = m := by omega
        go_wp2_with (fail)
        go_end0
        exact ⟨rfl, hb⟩
end Go.Proofs.YtpghaghmejgjbaaGreatDoor.Tree
