/- LeaseChanges: the walk of the law. -/
import Derived.Test.YtdkebkalcelgpaaLq
namespace Go.Proofs.Ytdkebkalcelgpaa.Lease
open Go.RowKit
set_option linter.unusedSimpArgs false

theorem insertIdx_le {α : Type} (l : List α) (i : Nat) (x : α) : (l.insertIdx i x).length ≤ l.length + 1 := by
  rw [List.length_insertIdx]; split <;> omega
theorem renR_len (c now : Int) (l : List Le) : (renR c now l).length ≤ l.length + 1 := by
  rw [renR]
  split
  · exact Nat.le_trans (insertIdx_le _ _ _) (by have := others_len c l; omega)
  · simp
theorem dropR_len (c : Int) (l : List Le) : (dropR c l).length ≤ l.length := by
  rw [dropR]
  split
  · exact others_len c l
  · simp

theorem sameLe_self (l : List Le) : sameLe l l = true := by simp [sameLe]

set_option maxRecDepth 4000 in
set_option maxHeartbeats 4000000 in
theorem law_changes (v : Value) (l : List Le) (c now : Int) (w : World) (hw : Rd w 2 encL v l ∧ (∀ a ∈ l, OkL a) ∧ l.length * 16 ≤ 140737488351232) (_ : inI c) (_ : inI now) :
    Calls Try.prog 9 #[v, .int .i64 c, .int .i64 now] w fun e w' => e = .returned (.bool true) ∧ Below w.heap.size w w' := by
  have h := hw.1
  have hb16 := hw.2.2
  have hn : l.length ≤ 8796093022208 := by omega
  have hex := ex_calls w
  have hren := fun W u (hu : Rd W 2 encL u l) => renew_calls W u l c now hu hn
  have hrre := fun W u (hu : Rd W 2 encL u l) => rrenew_calls W u l c now hu hn
  have hdr := fun W u (hu : Rd W 2 encL u l) => drop_calls W u l c hu hn
  have hrd := fun W u (hu : Rd W 2 encL u l) => rdrop_calls W u l c hu hn
  have hql := renR_len c now l
  have hrl := dropR_len c l
  have hfl := fun ad cap (hv : v = .slice (some ad) l.length cap) => rd_flat h hv
  have hl0 := fun W (hW : Below w.heap.size w W) => h.below hW (Nat.le_refl _)
  obtain ⟨ao, cap, rfl, _, _, hcell0⟩ := rd_cells h
  have hnone : ao = none → l.length = 0 := fun e => by
    cases l with
    | nil => rfl
    | cons x t => obtain ⟨b, off, e', _⟩ := hcell0 w (Below.refl _ _) 0 x rfl; rw [e] at e'; cases e'
  clear hw h hcell0
  generalize hq : renR c now l = q at *
  generalize hr : dropR c l = r at *
  clear hq hr
  have e0 : (if false = true then (0 : Int) else 1) = 1 := rfl
  have e1 : (if true = true then (0 : Int) else 1) = 0 := rfl
  cases hK : renOk c now l <;> cases hR : rightB l
  all_goals
    rw [hK] at hren hrre
    rw [hR] at hdr hrd
    try rw [e0] at hren
    try rw [e1] at hren
    try rw [e0] at hdr
    try rw [e1] at hdr
    clear hK hR e0 e1
    have Hren := Lib.hid hren; have Hrre := Lib.hid hrre; have Hdr := Lib.hid hdr; have Hrd := Lib.hid hrd; have Hfl := Lib.hid hfl; have Hl0 := Lib.hid hl0; have Hnone := Lib.hid hnone; clear hren hrre hdr hrd hfl hl0 hnone
    go_enter Try.func9, Try.ntmps9
    go_wp2_with (fail)
    refine hex.mono ?_
    rintro e w1 ⟨rfl, hB1⟩
    have hnil : w1.ownsRow 0 55 2 (.slice none 0 0) 0 [] := World.ownsRow_nil _ _ _ _
    have hz1 := hB1.size
    rcases ao with _ | ad
    focus
      obtain rfl : l = [] := List.eq_nil_of_length_eq_zero (Hnone.out rfl)
      clear Hfl Hnone
      go_wp2_with (fail)
      obtain ⟨w2, hw2⟩ : ∃ w2, w2 = w1 := ⟨_, rfl⟩
      rw [← hw2]
      have own2 : w2.ownsRow 0 55 2 (.slice none 0 0) ([] : List Le).length (flatL []) := World.ownsRow_nil _ _ _ _
      have hB2 : Below w.heap.size w w2 := hw2 ▸ hB1
      have hv2 : ∀ g, (Value.slice none 0 0).ownBlock = some g → w.heap.size ≤ g := fun g hg => by simp [Value.ownBlock] at hg
      clear hw2
      generalize Value.slice none 0 0 = v2 at *
    rotate_left
    focus
      clear Hnone
      go_wp2_with (at_builtin; (with_reducible refine etLe.wpList_app hnil (m := l.length) (c := cap) (ao := some ad) (news := flatL l) (flatL_len l) (fun e => (by cases e)) (fun ad' h => (by cases h; exact Hfl.out ad cap rfl _ hB1)) (flatL_one l) (by omega) (by unfold maxLen; omega) rfl (.const (.slice none 0 0)) (.tmp 23) rfl rfl rfl ?_); intro v2 w2 own2 grow2 at2 nil2)
      rw [Nat.zero_add, List.nil_append] at own2
      have hB2 : Below w.heap.size w w2 := hB1.grown grow2 hB1.size (fun q hq => by simp [Value.ownBlock] at hq)
      have hv2 : ∀ g, v2.ownBlock = some g → w.heap.size ≤ g := fun g hg => by
        rcases at2 with e | e
        · rw [e] at hg; simp [Value.ownBlock] at hg
        · rw [e] at hg; simp at hg; omega
      clear grow2 at2 nil2 Hfl
    all_goals
      clear hnil hz1
      have hR2 := Rd.of_own encL_len own2
      have hz2 := hB2.size
      refine (Hren.out _ _ hR2).mono ?_
      rintro e w3 ⟨va, rfl, hOa, hb3⟩
      have hL3 := Hl0.out _ (hB2.trans (hb3.mono hz2))
      go_wp2_with (fail)
      refine (Hrre.out _ _ hL3).mono ?_
      rintro e w4 ⟨vb, rfl, hOb, hb4⟩
      have hb24 := hb3.trans (hb4.mono hb3.size)
      have hRa := (Rd.of_own encL_len hOa.own).below hb4 (Nat.le_refl _)
      have hOa4 := below_ownsRow hb4 hOa.own (fun g hg => (hOa.own.lt g hg).2)
      have hga : ∀ g, va.ownBlock = some g → w2.heap.size ≤ g := hOa.new
      go_wp2_with (fail)
      refine (leases_calls w4 va vb q q hRa (Rd.of_own encL_len hOb.own) (by omega)).mono ?_
      rw [sameLe_self]
      rintro e w5 ⟨rfl, n5, rfl⟩
      have hb25 := hb24.trans ((below_drewN w4 n5).mono hb24.size)
      have hOa5 : (w4.drewN n5).ownsRow 0 55 2 va q.length (flatL q) := hOa4
      clear hOa hOa4 hOb hb24 hb3 hb4 hRa hL3
      generalize w4.drewN n5 = w5 at *
      obtain ⟨aa, ca, rfl, _⟩ := own_slice hOa5
      have Hga := Lib.hid hga; clear hga
      go_wp2_with (fail)
      go_loopw [14] (fun vk wr => ∃ (k : Nat) (xs : List Value), vk = .int .i64 k ∧ k ≤ q.length ∧ wr.ownsRow 0 55 2 (.slice aa q.length ca) q.length xs ∧ Below w2.heap.size w2 wr) (fun vk _ => q.length - (intOf vk).toNat)
      case atStart => exact ⟨0, _, rfl, Nat.zero_le _, hOa5, hb25⟩
      case round =>
        obtain ⟨k, xs, rfl, hk, hown, hbr⟩ := hrel
        have Hbr := Lib.hid hbr; clear hbr hOa5 hb25
        by_cases hlt : k < q.length
        · obtain ⟨g, cap', hvv, _, hgl⟩ := hown.form (by omega)
          simp only [Value.slice.injEq, true_and] at hvv
          obtain ⟨rfl, rfl⟩ := hvv
          have hxl := hown.1
          obtain ⟨z0, d0⟩ : ∃ z, wr.cell? ⟨g, k * 2, none⟩ = some z := ⟨xs[k * 2]'(by omega), by rw [hown.cellAt (k * 2) (by omega)]; simp⟩
          have f0 := hown.frozenAt (k * 2)
          have hg2 := Hga.out g rfl
          go_wp2_with (fail)
          go_roundw
          case rel => exact ⟨k + 1, _, by go_num, by omega, (hown.stored (k * 2) (.int .i64 (-1))).1, Hbr.out.setCell hg2 _⟩
          case measure => simp [intOf]; omega
        · obtain rfl : k = q.length := by omega
          clear hown
          have hR6 := hR2.below Hbr.out (Nat.le_refl _)
          have hz6 := Hbr.out.size
          go_wp2_with (fail)
          refine (Hdr.out _ _ hR6).mono ?_
          rintro e w7 ⟨vc, rfl, hOc, hb7⟩
          have hb27 := Hbr.out.trans (hb7.mono hz6)
          have hL7 := Hl0.out _ (hB2.trans (hb27.mono hz2))
          go_wp2_with (fail)
          refine (Hrd.out _ _ hL7).mono ?_
          rintro e w8 ⟨vd, rfl, hOd, hb8⟩
          have hb28 := hb27.trans (hb8.mono hb27.size)
          have hRc := (Rd.of_own encL_len hOc.own).below hb8 (Nat.le_refl _)
          have hOc8 := below_ownsRow hb8 hOc.own (fun g hg => (hOc.own.lt g hg).2)
          have hgc : ∀ g, vc.ownBlock = some g → w2.heap.size ≤ g := fun g hg => Nat.le_trans hz6 (hOc.new g hg)
          go_wp2_with (fail)
          refine (leases_calls w8 vc vd r r hRc (Rd.of_own encL_len hOd.own) (by omega)).mono ?_
          rw [sameLe_self]
          rintro e w9 ⟨rfl, n9, rfl⟩
          have hb29 := hb28.trans ((below_drewN w8 n9).mono hb28.size)
          have hOc9 : (w8.drewN n9).ownsRow 0 55 2 vc r.length (flatL r) := hOc8
          clear hOc hOc8 hOd hb27 hb28 hb7 hb8 hRc hL7 hR6 Hbr hz6
          generalize w8.drewN n9 = w9 at *
          obtain ⟨ac, cc, rfl, _⟩ := own_slice hOc9
          have Hgc := Lib.hid hgc; clear hgc
          go_wp2_with (fail)
          go_loopw [20] (fun vk wr => ∃ (k : Nat) (xs : List Value), vk = .int .i64 k ∧ k ≤ r.length ∧ wr.ownsRow 0 55 2 (.slice ac r.length cc) r.length xs ∧ Below w2.heap.size w2 wr) (fun vk _ => r.length - (intOf vk).toNat)
          case atStart => exact ⟨0, _, rfl, Nat.zero_le _, hOc9, hb29⟩
          case round =>
            obtain ⟨k, xs, rfl, hk, hown, hbr⟩ := hrel
            have Hbr := Lib.hid hbr; clear hbr hOc9 hb29
            by_cases hlt : k < r.length
            · obtain ⟨g, cap', hvv, _, hgl⟩ := hown.form (by omega)
              simp only [Value.slice.injEq, true_and] at hvv
              obtain ⟨rfl, rfl⟩ := hvv
              have hxl := hown.1
              obtain ⟨z0, d0⟩ : ∃ z, wr.cell? ⟨g, k * 2, none⟩ = some z := ⟨xs[k * 2]'(by omega), by rw [hown.cellAt (k * 2) (by omega)]; simp⟩
              have f0 := hown.frozenAt (k * 2)
              have hg2 := Hgc.out g rfl
              go_wp2_with (fail)
              go_roundw
              case rel => exact ⟨k + 1, _, by go_num, by omega, (hown.stored (k * 2) (.int .i64 (-1))).1, Hbr.out.setCell hg2 _⟩
              case measure => simp [intOf]; omega
            · obtain rfl : k = r.length := by omega
              clear hown
              have hR10 := hR2.below Hbr.out (Nat.le_refl _)
              have hB10 := hB2.trans (Hbr.out.mono hz2)
              go_wp2_with (fail)
              refine (leases_calls wr v2 _ _ _ hR10 (Hl0.out _ hB10) (by omega)).mono ?_
              rw [sameLe_self]
              rintro e w11 ⟨rfl, n11, rfl⟩
              have hB11 := hB10.trans ((below_drewN wr n11).mono hB10.size)
              generalize wr.drewN n11 = w11 at *
              go_wp2_with (fail)
              go_ret
              exact ⟨rfl, hB11⟩
end Go.Proofs.Ytdkebkalcelgpaa.Lease
