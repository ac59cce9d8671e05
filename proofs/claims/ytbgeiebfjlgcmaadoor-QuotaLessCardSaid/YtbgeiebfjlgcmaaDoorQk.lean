/- QuotaLess: the walk of the law. -/
import Derived.Test.YtbgeiebfjlgcmaaDoorQj
namespace Go.Proofs.YtbgeiebfjlgcmaaDoor.Quota
open Go.RowKit
open Path (Bs bs mk bs_mk mk_bs tl_bs MaxC OwnS encS rd_cellsS underL)
open Tree
set_option linter.unusedSimpArgs false
set_option linter.unusedVariables false

theorem hun_of (a : Int) : ∃ i : Nat, i < 100 ∧ (a < 0 → -((a + 1).tmod 100) = (i : Int)) ∧ (¬ a < 0 → a % 100 = (i : Int)) := index_of a 100 (by decide)

theorem poke_facts {w : World} {g1 g2 j : Nat} {c1 c2 : Array Value} {t1 t2 : TypeId} {n : Int} (h1 : w.heap[g1]? = some (.cells c1 t1 (0, 0))) (h2 : w.heap[g2]? = some (.cells c2 t2 (0, 0))) (hne : g1 ≠ g2) (hj1 : j < c1.size) (hj2 : j < c2.size) :
    (∃ u, w.cell? ⟨g1, j, none⟩ = some u) ∧ w.frozen? ⟨g1, j, none⟩ = false ∧ (∃ u, (w.setCell ⟨g1, j, none⟩ (.int .i64 n)).cell? ⟨g2, j, none⟩ = some u) ∧ (w.setCell ⟨g1, j, none⟩ (.int .i64 n)).frozen? ⟨g2, j, none⟩ = false := by
  have h2' : (w.setCell ⟨g1, j, none⟩ (.int .i64 n)).heap[g2]? = some (.cells c2 t2 (0, 0)) := by
    rw [heap_setCell_other _ _ _ _ (by simpa using hne.symm)]; exact h2
  exact ⟨⟨c1[j], by rw [cell_of_blk h1]; simp [hj1]⟩, free_of_blk h1, ⟨c2[j], by rw [cell_of_blk h2']; simp [hj2]⟩, free_of_blk h2'⟩

set_option maxRecDepth 4000 in
set_option maxHeartbeats 16000000 in
theorem law_less (v : Value) (l : List Nd) (at' one two : Int) (p : ByteArray) (w : World) (hM : MaxC w) (h0 : RdN w v l ∧ (∀ x ∈ l, OkN w x) ∧ l.length ≤ 8796093022208) (ha : -9223372036854775808 ≤ at' ∧ at' ≤ 9223372036854775807)
    (ho : -9223372036854775808 ≤ one ∧ one ≤ 9223372036854775807) (ht : -9223372036854775808 ≤ two ∧ two ≤ 9223372036854775807) (hp : p.size ≤ maxLen) :
    Calls Tryd.prog 8 #[v, .int .i64 at', .int .i64 one, .int .i64 two, .string p] w fun e w' => e = .returned (.bool true) ∧ Below w.heap.size w w' := by
  obtain ⟨h, _, hn⟩ := h0
  have e0 := ex_calls w hM
  have h1 : ∀ W, Below w.heap.size w W → _ := fun W hW => right_calls W v l (h.below hW) hn (hM.below hW)
  have h2 : ∀ W, Below w.heap.size w W → ∀ u q, RdN W u q → q.length ≤ 8796093022208 → _ := fun W hW u q hu hq => room_calls W u q p hu hq (hM.below hW)
  have h3 : ∀ W, Below w.heap.size w W → ∀ u q, RdN W u q → q.length ≤ 8796093022208 → _ := fun W hW u q hu hq => over_calls W u q hu hq (hM.below hW)
  have h4 : ∀ W, Below w.heap.size w W → ∀ u q, RdN W u q → q.length ≤ 8796093022208 → _ := fun W hW u q hu hq => count_calls W u q p hu hq (hM.below hW) hp
  have hbl := h.bl
  have hrdl := h.rd
  obtain ⟨ao, cap, rfl, hcap, _, hcell⟩ := rd_cellsN h.rd
  have H1 := Lib.hid h1; have H2 := Lib.hid h2; have H3 := Lib.hid h3; have H4 := Lib.hid h4; have Hbl := Lib.hid hbl; have Hcell := Lib.hid hcell
  clear h1 h2 h3 h4 hbl hcell h hM
  cases hr : rightT l
  · rw [hr] at H1
    clear hr hrdl
    go_enter Tryd.func8, Tryd.ntmps8
    go_wp2_with (fail)
    refine e0.mono ?_
    rintro e w1 ⟨rfl, hB1⟩
    clear e0
    go_wp2_with (fail)
    refine (H1.out w1 hB1).mono ?_
    rintro e w2 ⟨rfl, hb2⟩
    go_wp2_with (fail)
    go_ret
    exact ⟨rfl, hB1.trans (hb2.mono hB1.size)⟩
  · obtain ⟨q1, q60, _⟩ := right_node hr
    obtain ⟨i, hil, hi1, hi2⟩ := index_of at' l.length (by omega)
    obtain ⟨n, hn100, hn1, hn2⟩ := hun_of one
    obtain ⟨m, hm100, hm1, hm2⟩ := hun_of two
    obtain ⟨x, hx⟩ : ∃ x, l[i]? = some x := ⟨l[i], by simp [hil]⟩
    obtain ⟨b, off, rfl, hbm, _⟩ := Hcell.out w (Below.refl _ _) i x hx
    have Hx := Lib.hid hx
    have hnews := flatN_one (fun y hy => Hbl.out y hy)
    have Hnews := Lib.hid hnews
    obtain ⟨am, cm, hv', hfl⟩ := rdN_flat hrdl
    simp only [Value.slice.injEq] at hv'
    obtain ⟨rfl, _, rfl⟩ := hv'
    have Hfl := Lib.hid hfl
    have hless := @setQ_less l i x hx (n : Int) ((n : Int) + (m : Int)) (by omega) (by omega)
    have hra := fun hd => @setQ_right l i x hx hd hr (n : Int) (by omega) (by omega)
    have hrb := fun hd => @setQ_right l i x hx hd hr ((n : Int) + (m : Int)) (by omega) (by omega)
    have Hless := Lib.hid hless; have Hra := Lib.hid hra; have Hrb := Lib.hid hrb
    have hlen1 : (setQ l i x (n : Int)).length = l.length := by rw [setQ, List.length_set]
    have hlen2 : (setQ l i x ((n : Int) + (m : Int))).length = l.length := by rw [setQ, List.length_set]
    have Hlen1 := Lib.hid hlen1; have Hlen2 := Lib.hid hlen2
    rw [hr] at H1
    clear hr hx hnews hfl hrdl hless hra hrb hlen1 hlen2
    have s1 : (at' < 0 ∧ -((at' + 1).tmod (l.length : Int)) = (i : Int)) ∨ (¬ at' < 0 ∧ at' % (l.length : Int) = (i : Int)) := by
      by_cases c : at' < 0
      · exact .inl ⟨c, hi1 c⟩
      · exact .inr ⟨c, hi2 c⟩
    have s2 : (one < 0 ∧ -((one + 1).tmod 100) = (n : Int)) ∨ (¬ one < 0 ∧ one % 100 = (n : Int)) := by
      by_cases c : one < 0
      · exact .inl ⟨c, hn1 c⟩
      · exact .inr ⟨c, hn2 c⟩
    have s3 : (two < 0 ∧ -((two + 1).tmod 100) = (m : Int)) ∨ (¬ two < 0 ∧ two % 100 = (m : Int)) := by
      by_cases c : two < 0
      · exact .inl ⟨c, hm1 c⟩
      · exact .inr ⟨c, hm2 c⟩
    clear hi1 hi2 hn1 hn2 hm1 hm2
    cases hd : x.dir
    · rcases s1 with ⟨c1, hi⟩ | ⟨c1, hi⟩
      all_goals rcases s2 with ⟨c2, hnn⟩ | ⟨c2, hnn⟩
      all_goals rcases s3 with ⟨c3, hmm⟩ | ⟨c3, hmm⟩
      all_goals
        go_enter Tryd.func8, Tryd.ntmps8
        go_wp2_with (fail)
        refine e0.mono ?_
        rintro e w1 ⟨rfl, hB1⟩
        go_wp2_with (fail)
        refine (H1.out w1 hB1).mono ?_
        rintro e w2 ⟨rfl, hb2⟩
        have hB2 := hB1.trans (hb2.mono hB1.size)
        obtain ⟨b', off', he, _, d0, d1, d2, d3, d4⟩ := Hcell.out w2 hB2 i x Hx.out
        simp only [Option.some.injEq, Addr.mk.injEq, and_true] at he
        obtain ⟨rfl, rfl⟩ := he
        rw [hd] at d1
        clear d0 d2 d3 d4
        go_wp2_with (fail)
        go_ret
        exact ⟨rfl, hB2⟩
    · have hRa := Lib.hid (Hra.out hd); have hRb := Lib.hid (Hrb.out hd)
      have hle5 : i * 5 + 2 < l.length * 5 := by omega
      rcases s1 with ⟨c1, hi⟩ | ⟨c1, hi⟩
      all_goals rcases s2 with ⟨c2, hnn⟩ | ⟨c2, hnn⟩
      all_goals rcases s3 with ⟨c3, hmm⟩ | ⟨c3, hmm⟩
      all_goals
        go_enter Tryd.func8, Tryd.ntmps8
        go_wp2_with (fail)
        refine e0.mono ?_
        rintro e w1 ⟨rfl, hB1⟩
        go_wp2_with (fail)
        refine (H1.out w1 hB1).mono ?_
        rintro e w2 ⟨rfl, hb2⟩
        have hB2 := hB1.trans (hb2.mono hB1.size)
        obtain ⟨b', off', he, _, d0, d1, d2, d3, d4⟩ := Hcell.out w2 hB2 i x Hx.out
        simp only [Option.some.injEq, Addr.mk.injEq, and_true] at he
        obtain ⟨rfl, rfl⟩ := he
        rw [hd] at d1
        clear d0 d2 d3 d4
        go_wp2_with (first
          | (at_builtin; (with_reducible refine etN.wpList_app (World.ownsRow_nil w2 0 45 5) (m := l.length) (news := flatN l) (flatN_len l) (fun h => by cases h) (Hfl.out w2 hB2) Hnews.out (by omega) (by unfold maxLen; omega) rfl (.const (.slice none 0 0)) (.tmp 52) rfl rfl rfl ?_); intro v1 w3 hown1 hgrow1 hat1 hnil1; simp only [Nat.zero_add, List.nil_append] at hown1; obtain ⟨g1, cap1, cur1, rfl, hg1, hcap1, hcs1⟩ := own_form hown1 (by omega); have hb3 : Below w2.heap.size w2 w3 := ⟨hgrow1.os, hgrow1.tape, hgrow1.output, hgrow1.size, fun k hk => hgrow1.block k hk (by simp [Value.ownBlock])⟩; have hB3 := hB2.trans (hb3.mono hB2.size); simp only [Value.ownBlock, reduceCtorEq, Option.some.injEq, false_or] at hat1; have hl1 : w2.heap.size ≤ g1 := (by omega); have hlt1 := lt_of_block hg1; have Hown1 := Lib.hid hown1; have Hg1 := Lib.hid hg1; have Hcs1 := Lib.hid hcs1; clear hown1 hg1 hcs1 hnil1 hgrow1 d1 hat1)
          | (at_builtin; (with_reducible refine etN.wpList_app (World.ownsRow_nil w3 0 45 5) (m := l.length) (news := flatN l) (flatN_len l) (fun h => by cases h) (Hfl.out w3 hB3) Hnews.out (by omega) (by unfold maxLen; omega) rfl (.const (.slice none 0 0)) (.tmp 54) rfl rfl rfl ?_); intro v2 w4 hown2 hgrow2 hat2 hnil2; simp only [Nat.zero_add, List.nil_append] at hown2; obtain ⟨g2, cap2, cur2, rfl, hg2, hcap2, hcs2⟩ := own_form hown2 (by omega); have hb4 : Below w3.heap.size w3 w4 := ⟨hgrow2.os, hgrow2.tape, hgrow2.output, hgrow2.size, fun k hk => hgrow2.block k hk (by simp [Value.ownBlock])⟩; simp only [Value.ownBlock, reduceCtorEq, Option.some.injEq, false_or] at hat2; have hl2 : w3.heap.size ≤ g2 := (by omega); have hg1 := (hb4.block g1 hlt1).trans Hg1.out; obtain ⟨⟨u1, k1⟩, f1, ⟨u2, k2⟩, f2⟩ := poke_facts (n := (n : Int)) hg1 hg2 (by omega : g1 ≠ g2) (by rw [Hcs1.out]; omega : i * 5 + 2 < cur1.size) (by rw [hcs2]; omega : i * 5 + 2 < cur2.size); have Hown2 := Lib.hid hown2; clear hown2 hg2 hg1 hcs2 hnil2 hgrow2 hat2))
        have hne : g1 ≠ g2 := by omega
        have hB4 := hB3.trans (hb4.mono hB3.size)
        have hO1 : OwnN w w4 (.slice (some ⟨g1, 0, none⟩) l.length cap1) l := ⟨below_ownsRow hb4 Hown1.out (fun g hg => by simp [Value.ownBlock] at hg; omega), fun g hg => by simp [Value.ownBlock] at hg; have := hB2.size; omega, fun y hy => (Hbl.out y hy).below hB4 (Nat.le_refl _)⟩
        have hO2 : OwnN w w4 (.slice (some ⟨g2, 0, none⟩) l.length cap2) l := ⟨Hown2.out, fun g hg => by simp [Value.ownBlock] at hg; have := hB3.size; omega, fun y hy => (Hbl.out y hy).below hB4 (Nat.le_refl _)⟩
        obtain ⟨hRA, hRB, hB5⟩ := two_pokes hO1 hO2 hne hB4 (fun y hy => Hbl.out y hy) Hx.out (n : Int) ((n : Int) + (m : Int))
        clear k1 f1 k2 f2 hO1 hO2
        generalize (w4.setCell ⟨g1, i * 5 + 2, none⟩ (.int .i64 (n : Int))).setCell ⟨g2, i * 5 + 2, none⟩ (.int .i64 ((n : Int) + (m : Int))) = W at *
        have HRA := Lib.hid hRA; have HRB := Lib.hid hRB
        obtain ⟨z, hz⟩ := Hless.out
        have hroom := hz.room hRa.out hRb.out (bs p)
        have hover := hz.over hRa.out hRb.out
        have hcnt : cntT (setQ l i x (n : Int)) (bs p) = cntT (setQ l i x ((n : Int) + (m : Int))) (bs p) := by rw [cntT_yes hRa.out, cntT_yes hRb.out, cnt_keys hz.keys]
        have hla : (setQ l i x (n : Int)).length ≤ 8796093022208 := by rw [Hlen1.out]; exact hn
        have hlb : (setQ l i x ((n : Int) + (m : Int))).length ≤ 8796093022208 := by rw [Hlen2.out]; exact hn
        have r1 := fun W' (hW : Below W.heap.size W W') => H2.out W' (hB5.trans (hW.mono hB5.size)) (.slice (some ⟨g1, 0, none⟩) l.length cap1) (setQ l i x (n : Int)) (HRA.out.below hW) hla
        have r2 := fun W' (hW : Below W.heap.size W W') => H2.out W' (hB5.trans (hW.mono hB5.size)) (.slice (some ⟨g2, 0, none⟩) l.length cap2) (setQ l i x ((n : Int) + (m : Int))) (HRB.out.below hW) hlb
        have r3 := fun W' (hW : Below W.heap.size W W') => H3.out W' (hB5.trans (hW.mono hB5.size)) (.slice (some ⟨g1, 0, none⟩) l.length cap1) (setQ l i x (n : Int)) (HRA.out.below hW) hla
        have r4 := fun W' (hW : Below W.heap.size W W') => H3.out W' (hB5.trans (hW.mono hB5.size)) (.slice (some ⟨g2, 0, none⟩) l.length cap2) (setQ l i x ((n : Int) + (m : Int))) (HRB.out.below hW) hlb
        have r5 := fun W' (hW : Below W.heap.size W W') => H4.out W' (hB5.trans (hW.mono hB5.size)) (.slice (some ⟨g1, 0, none⟩) l.length cap1) (setQ l i x (n : Int)) (HRA.out.below hW) hla
        have r6 := fun W' (hW : Below W.heap.size W W') => H4.out W' (hB5.trans (hW.mono hB5.size)) (.slice (some ⟨g2, 0, none⟩) l.length cap2) (setQ l i x ((n : Int) + (m : Int))) (HRB.out.below hW) hlb
        rw [hcnt] at r5
        generalize roomT (setQ l i x (n : Int)) (bs p) = ra at *
        generalize roomT (setQ l i x ((n : Int) + (m : Int))) (bs p) = rb at *
        generalize overL (setQ l i x (n : Int)) = oa at *
        generalize overL (setQ l i x ((n : Int) + (m : Int))) = ob at *
        generalize cntT (setQ l i x ((n : Int) + (m : Int))) (bs p) = cc at *
        have hcc : (((cc : Nat) : Int) == ((cc : Nat) : Int)) = true := beq_self_eq_true _
        have hover' : (ob.length : Int) ≤ (oa.length : Int) := by omega
        have R1 := Lib.hid r1; have R2 := Lib.hid r2; have R3 := Lib.hid r3; have R4 := Lib.hid r4; have R5 := Lib.hid r5; have R6 := Lib.hid r6
        clear r1 r2 r3 r4 r5 r6 hRA hRB hcnt hz hla hlb hover hd
        go_wp2_with (fail)
        refine (R1.out W (Below.refl _ _)).mono ?_
        rintro e w5 ⟨rfl, hb5⟩
        go_wp2_with (fail)
        refine (R2.out w5 hb5).mono ?_
        rintro e w6 ⟨rfl, hb6⟩
        have hb56 := hb5.trans (hb6.mono hb5.size)
        go_wp2_with (fail)
        refine (R3.out w6 hb56).mono ?_
        rintro e w7 ⟨v7, rfl, hO7, hb7⟩
        have hb57 := hb56.trans (hb7.mono hb56.size)
        obtain ⟨a7, c7, hv7, _, _, _⟩ := rd_cellsS hO7.rd
        subst hv7
        clear hO7
        go_wp2_with (fail)
        refine (R4.out w7 hb57).mono ?_
        rintro e w8 ⟨v8, rfl, hO8, hb8⟩
        have hb58 := hb57.trans (hb8.mono hb57.size)
        obtain ⟨a8, c8, hv8, _, _, _⟩ := rd_cellsS hO8.rd
        subst hv8
        clear hO8
        go_wp2_with (fail)
        refine (R5.out w8 hb58).mono ?_
        rintro e w9 ⟨rfl, hb9⟩
        have hb59 := hb58.trans (hb9.mono hb58.size)
        go_wp2_with (fail)
        refine (R6.out w9 hb59).mono ?_
        rintro e w10 ⟨rfl, hb10⟩
        go_wp2_with (fail)
        go_ret
        exact ⟨rfl, hB5.trans ((hb59.trans (hb10.mono hb59.size)).mono hB5.size)⟩
end Go.Proofs.YtbgeiebfjlgcmaaDoor.Quota
