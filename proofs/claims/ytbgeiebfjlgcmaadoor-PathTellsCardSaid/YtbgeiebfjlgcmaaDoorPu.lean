/- PathParents: the walk of the law. -/
import Derived.Test.YtbgeiebfjlgcmaaDoorPt
namespace Go.Proofs.YtbgeiebfjlgcmaaDoor.Path
open Go.RowKit
set_option linter.unusedSimpArgs false
set_option linter.unusedVariables false

theorem none_facts {w : World} {a : Option Addr} {c : Nat} {l : List ByteArray} (h : RdS w (.slice a l.length c) l) : (a = none → l.length = 0 ∧ c = 0) ∧ ∀ ad, a = some ad → ∀ W, Below w.heap.size w W → ∀ j u, (flatS l)[j]? = some u → W.cell? (ad.add j) = some u := by
  refine ⟨fun e => ?_, fun ad e => rd_flatS h.rd (by rw [e])⟩
  obtain ⟨ao, cap, hv, _, _, hc⟩ := rd_cellsS h.rd
  simp only [Value.slice.injEq, true_and] at hv
  obtain ⟨rfl, rfl⟩ := hv
  refine ⟨?_, h.z l.length c (by rw [e])⟩
  cases hl : l with
  | nil => rfl
  | cons x t => obtain ⟨b, off, e', _⟩ := hc w (Below.refl _ _) 0 x (by rw [hl]; rfl); rw [e] at e'; cases e'

theorem map_one (L : List Bs) (x : ByteArray) : (L.map mk ++ [x]).map bs = L ++ [bs x] := by
  have := map_back L [bs x]
  rwa [List.map_cons, List.map_nil, mk_bs] at this
/-- With a name more. -/
theorem more_ways {p n : Bs} (hE : splitE p = 0) :
    (nameL n = false ∧ joinE (splitL p ++ [n]) = 1) ∨ (nameL n = true ∧ joinE (splitL p ++ [n]) = 4) ∨
    (nameL n = true ∧ joinE (splitL p ++ [n]) = 0 ∧ underL p (joinS (splitL p ++ [n])) = true ∧ underL (joinS (splitL p ++ [n])) p = false ∧ n.length < (joinS (splitL p ++ [n])).length) := by
  obtain ⟨g1, g2⟩ := split_ok hE
  obtain ⟨v1, v2, v3⟩ := joinE_ok.1 g1
  have hall : (splitL p ++ [n]).all nameL = nameL n := by
    rw [List.all_append, List.all_eq_true.2 v1]; simp
  cases hn : nameL n
  · exact .inl ⟨rfl, by rw [joinE, if_neg (by rw [hall, hn]; simp)]⟩
  · rcases join_ways (splitL p ++ [n]) with ⟨e, _⟩ | ⟨_, _, e⟩ | ⟨_, _, _, e⟩ | ⟨_, _, _, e⟩
    · rw [hall, hn] at e; cases e
    · exact .inr (.inl ⟨rfl, e⟩)
    · exact .inr (.inl ⟨rfl, e⟩)
    · have hS : joinS (splitL p ++ [n]) = joinP (splitL p ++ [n]) := if_pos e
      obtain ⟨e1, e2⟩ := join_ok e
      refine .inr (.inr ⟨rfl, e, ?_, ?_, ?_⟩)
      · rw [hS]; exact under_iff.2 ⟨hE, e1, by rw [e2]; exact List.prefix_append _ _⟩
      · rw [hS, Bool.eq_false_iff]
        intro hu
        have := (under_iff.1 hu).2.2.length_le
        rw [e2] at this
        simp at this
        omega
      · rw [hS]
        by_cases h0 : splitL p = []
        · rw [h0, List.nil_append, joinP, inter_one, List.length_cons]; omega
        · rw [join_snoc _ _ h0, List.length_append, List.length_cons]; omega

set_option maxRecDepth 4000 in
set_option maxHeartbeats 4000000 in
theorem law_parents (p name : ByteArray) (w : World) (hM : MaxC w) :
    Calls Tryd.prog 11 #[.string p, .string name] w fun e w' => e = .returned (.bool true) ∧ Below w.heap.size w w' := by
  have hex := ex_calls w hM
  have hU := fun W (hW : Below w.heap.size w W) x y => under_calls W x y (hM.below hW)
  have hP := fun W (hW : Below w.heap.size w W) => parent_calls W p (hM.below hW)
  have hS := fun W (hW : Below w.heap.size w W) x => split_calls W x (hM.below hW)
  have hN := fun W x => name_calls W x
  have hl6 := split_six (bs p)
  have hcase : (splitE (bs p) != 0) = true ∧ (parE (bs p) == 0) = false ∨ splitE (bs p) = 0 ∧ (parE (bs p) == 0) = false ∨ splitE (bs p) = 0 ∧ ∃ init n, parE (bs p) = 0 ∧ parD (bs p) = joinP init ∧ parN (bs p) = n ∧ splitE (joinP init) = 0 ∧ splitL (joinP init) = init ∧ joinE (init ++ [n]) = 0 ∧ joinS (init ++ [n]) = bs p ∧ init.length ≤ 6 := by
    by_cases hE : splitE (bs p) = 0
    · by_cases hL : splitL (bs p) = []
      · exact .inr (.inl ⟨hE, by rw [parE, if_pos hE, if_pos hL]; rfl⟩)
      · obtain ⟨init, n, pre, hp⟩ := par_yes hE hL
        have pm := par_more hE hp
        obtain ⟨g1, g2⟩ := split_ok hE
        rw [hp.L] at g1 g2
        refine .inr (.inr ⟨hE, init, n, hp.E, hp.D, hp.N, pm.dE, pm.dL, g1, by rw [joinS, if_pos g1, g2], ?_⟩)
        rw [hp.L] at hl6
        simp at hl6; omega
    · refine .inl ⟨bne_iff_ne.2 hE, ?_⟩
      rw [parE, if_neg hE]
      exact beq_false_of_ne hE
  have hmore := fun hE : splitE (bs p) = 0 => more_ways (n := bs name) hE
  have HU := Lib.hid hU; have HP := Lib.hid hP; have HS := Lib.hid hS; have HN := Lib.hid hN; have Hmore := Lib.hid hmore
  clear hU hP hS hN hM hmore
  rcases hcase with ⟨c1, c2⟩ | ⟨c1, c2⟩ | ⟨c1, init, n, p1, p2, p3, d1, d2, j1, j2, li⟩
  focus
    generalize parE (bs p) = PE at *
    go_enter Tryd.func11, Tryd.ntmps11
    go_wp2_with (fail)
    refine hex.mono ?_
    rintro e w1 ⟨rfl, hB1⟩
    go_wp2_with (fail)
    refine (HP.out _ hB1).mono ?_
    rintro e w2 ⟨rfl, hb2⟩
    have hB2 := hB1.trans (hb2.mono hB1.size)
    go_wp2_with (fail)
    refine (HS.out _ hB2 p).mono ?_
    rintro e w3 ⟨v3, rfl, _, hb3⟩
    have hB3 := hB2.trans (hb3.mono hB2.size)
    generalize splitE (bs p) = SE at *
    go_wp2_with (fail)
    go_ret
    exact ⟨rfl, hB3⟩
  focus
    generalize parE (bs p) = PE at *
    go_enter Tryd.func11, Tryd.ntmps11
    go_wp2_with (fail)
    refine hex.mono ?_
    rintro e w1 ⟨rfl, hB1⟩
    go_wp2_with (fail)
    refine (HP.out _ hB1).mono ?_
    rintro e w5 ⟨rfl, hb2⟩
    have hB5 := hB1.trans (hb2.mono hB1.size)
    go_wp2_with (fail)
  rotate_left
  focus
    go_enter Tryd.func11, Tryd.ntmps11
    go_wp2_with (fail)
    refine hex.mono ?_
    rintro e w1 ⟨rfl, hB1⟩
    go_wp2_with (fail)
    refine (HP.out _ hB1).mono ?_
    rw [p1, p2, p3]
    rintro e w2 ⟨rfl, hb2⟩
    have hB2 := hB1.trans (hb2.mono hB1.size)
    go_wp2_with (fail)
    refine (HS.out _ hB2 (mk (joinP init))).mono ?_
    rw [bs_mk, d1, d2]
    rintro e w3 ⟨v3, rfl, hO3, hb3⟩
    have hB3 := hB2.trans (hb3.mono hB2.size)
    have hr3 := hO3.rds
    obtain ⟨a3, k3, rfl, _⟩ := own_slice hO3.own
    obtain ⟨nn, ff⟩ := none_facts hr3
    rw [List.length_map] at *
    have Nn := Lib.hid nn; have Ff := Lib.hid ff; clear nn ff hr3 hO3
    have hz3 := hB3.size
    have hnil : w3.ownsRow 0 9 1 (.slice none 0 0) 0 [] := World.ownsRow_nil _ _ _ _
    go_wp2_with (first
      | (at_builtin; (with_reducible refine etS.wpList_app hnil (m := init.length) (c := k3) (ao := a3) (news := flatS (init.map mk)) (by rw [flatS_len, List.length_map, Nat.mul_one]) Nn.out (fun ad h => Ff.out ad h _ (Below.refl _ _)) (flatS_one _) (by omega) (by unfold maxLen; omega) rfl (.const (.slice none 0 0)) (.tmp 32) rfl rfl rfl ?_); intro v4 w4 own4 grow4 at4 nil4; (rw [Nat.zero_add, List.nil_append] at own4); have hg4 := (fun q (hq : (Value.slice none 0 0).ownBlock = some q) => (by simp [Value.ownBlock] at hq : w.heap.size ≤ q)); have hB4 := hB3.grown grow4 hz3 hg4; have hz4 := hB4.size)
      | (at_builtin; (with_reducible refine etS.wpList1 (own4.alloc _) (heap_alloc_new _ _) rfl (by simp [Value.oneCell']) (by omega) (by unfold maxLen; omega) rfl (.tmp 33) (.tmp 35) rfl rfl rfl ?_); intro g5 c5 w5 own5 grow5 at5 lt5))
    have hn4 : ∀ g, v4.ownBlock = some g → w.heap.size ≤ g := fun g hg => by
      rcases at4 with e | e
      · rw [e] at hg; simp [Value.ownBlock] at hg
      · rw [e] at hg; simp at hg; omega
    have hB5' := (hB4.alloc hz4 (.cells #[.string (mk n)] 9)).grown grow5 (by simp; omega) hn4
    have hr5 : Rd w5 1 encS (.slice (some ⟨g5, 0, none⟩) (init.length + 1) c5) (init.map mk ++ [mk n]) := by
      refine Rd.of_own (base := 0) (e := 9) encS_len ?_
      have e1 : (init.map mk ++ [mk n]).length = init.length + 1 := by simp
      rw [e1]
      show w5.ownsRow 0 9 1 _ _ (flatS (init.map mk ++ [mk n]))
      rw [flatS_append]
      exact own5
    have hj := join_calls w5 _ _ hr5 (by simp; omega)
    rw [show (init.map mk ++ [mk n]).map bs = init ++ [n] from map_back init [n], j1, j2] at hj
    refine hj.mono ?_
    rintro e w6 ⟨rfl, hb6⟩
    rw [mk_bs]
    have hB5 := hB5'.trans (hb6.mono hB5'.size)
    generalize w6 = w5 at *
    clear own4 grow4 at4 own5 grow5 at5 nil4 hg4 hnil hn4 hr5 hj Nn Ff
    go_wp2_with (fail)
  all_goals
    refine (HS.out _ hB5 p).mono ?_
    rw [c1]
    rintro e w6 ⟨v6, rfl, hO6, hb6⟩
    have hB6 := hB5.trans (hb6.mono hB5.size)
    have hr6 := hO6.rds
    obtain ⟨a6, k6, rfl, _⟩ := own_slice hO6.own
    obtain ⟨nn, ff⟩ := none_facts hr6
    have hmo := Hmore.out c1
    generalize splitL (bs p) = L at *
    rw [List.length_map] at *
    have N6 := Lib.hid nn; have F6 := Lib.hid ff; clear nn ff hr6 hO6
    have hz6 := hB6.size
    have hnil6 : w6.ownsRow 0 9 1 (.slice none 0 0) 0 [] := World.ownsRow_nil _ _ _ _
    go_wp2_with (first
      | (at_builtin; (with_reducible refine etS.wpList_app hnil6 (m := L.length) (c := k6) (ao := a6) (news := flatS (L.map mk)) (by rw [flatS_len, List.length_map, Nat.mul_one]) N6.out (fun ad h => F6.out ad h _ (Below.refl _ _)) (flatS_one _) (by omega) (by unfold maxLen; omega) rfl (.const (.slice none 0 0)) (.tmp 60) rfl rfl rfl ?_); intro v7 w7 own7 grow7 at7 nil7; (rw [Nat.zero_add, List.nil_append] at own7); have hg7 := (fun q (hq : (Value.slice none 0 0).ownBlock = some q) => (by simp [Value.ownBlock] at hq : w.heap.size ≤ q)); have hB7 := hB6.grown grow7 hz6 hg7; have hz7 := hB7.size)
      | (at_builtin; (with_reducible refine etS.wpList1 (own7.alloc _) (heap_alloc_new _ _) rfl (by simp [Value.oneCell']) (by omega) (by unfold maxLen; omega) rfl (.tmp 61) (.tmp 63) rfl rfl rfl ?_); intro g8 c8 w8 own8 grow8 at8 lt8))
    have hn7 : ∀ g, v7.ownBlock = some g → w.heap.size ≤ g := fun g hg => by
      rcases at7 with e | e
      · rw [e] at hg; simp [Value.ownBlock] at hg
      · rw [e] at hg; simp at hg; omega
    have hB8 := (hB7.alloc hz7 (.cells #[.string name] 9)).grown grow8 (by simp; omega) hn7
    have hr8 : Rd w8 1 encS (.slice (some ⟨g8, 0, none⟩) (L.length + 1) c8) (L.map mk ++ [name]) := by
      refine Rd.of_own (base := 0) (e := 9) encS_len ?_
      have e1 : (L.map mk ++ [name]).length = L.length + 1 := by simp
      rw [e1]
      show w8.ownsRow 0 9 1 _ _ (flatS (L.map mk ++ [name]))
      rw [flatS_append]
      exact own8
    have hj := join_calls w8 _ _ hr8 (by simp; omega)
    rw [show (L.map mk ++ [name]).map bs = L ++ [bs name] from map_one L name] at hj
    refine hj.mono ?_
    rintro e w9 ⟨rfl, hb9⟩
    have hB9 := hB8.trans (hb9.mono hB8.size)
    clear own7 grow7 at7 own8 grow8 at8 nil7 hg7 hnil6 hn7 hr8 hj N6 F6
    rcases hmo with ⟨m1, m2⟩ | ⟨m1, m2⟩ | ⟨m1, m2, m3, m4, m5⟩
    · rw [m2]
      go_wp2_with (fail)
      refine (HN.out _ name).mono ?_
      rw [m1]
      rintro e w10 ⟨rfl, hb10⟩
      go_wp2_with (fail)
      go_ret
      exact ⟨rfl, hB9.trans (hb10.mono hB9.size)⟩
    · rw [m2]
      go_wp2_with (fail)
      refine (HN.out _ name).mono ?_
      rw [m1]
      rintro e w10 ⟨rfl, hb10⟩
      have hB10 := hB9.trans (hb10.mono hB9.size)
      go_wp2_with (fail)
      refine (HN.out _ name).mono ?_
      rw [m1]
      rintro e w11 ⟨rfl, hb11⟩
      go_wp2_with (fail)
      go_ret
      exact ⟨rfl, hB10.trans (hb11.mono hB10.size)⟩
    · rw [m2]
      generalize joinS (L ++ [bs name]) = S at *
      have M3 := Lib.hid m3; have M4 := Lib.hid m4; clear m3 m4
      have hsl := mk_size S
      have hnl := bs_len name
      have hgt : (name.size : Int) < ((mk S).size : Int) := by omega
      clear hsl hnl m5
      go_wp2_with (fail)
      refine (HN.out _ name).mono ?_
      rw [m1]
      rintro e w10 ⟨rfl, hb10⟩
      have hB10 := hB9.trans (hb10.mono hB9.size)
      go_wp2_with (fail)
      refine (HU.out _ hB10 p (mk S)).mono ?_
      rw [bs_mk, M3.out]
      rintro e w11 ⟨rfl, hb11⟩
      have hB11 := hB10.trans (hb11.mono hB10.size)
      go_wp2_with (fail)
      refine (HU.out _ hB11 (mk S) p).mono ?_
      rw [bs_mk, M4.out]
      rintro e w12 ⟨rfl, hb12⟩
      go_wp2_with (fail)
      go_ret
      exact ⟨rfl, hB11.trans (hb12.mono hB11.size)⟩
end Go.Proofs.YtbgeiebfjlgcmaaDoor.Path
