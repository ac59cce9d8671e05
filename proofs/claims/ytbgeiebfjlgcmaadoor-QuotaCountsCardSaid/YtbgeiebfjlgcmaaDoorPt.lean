/- PathUnder: the walk of the law. -/
import Derived.Test.YtbgeiebfjlgcmaaDoorPq
namespace Go.Proofs.YtbgeiebfjlgcmaaDoor.Path
open Go.RowKit
set_option linter.unusedSimpArgs false
set_option linter.unusedVariables false

theorem under_iff {a b : Bs} : underL a b = true ↔ splitE a = 0 ∧ splitE b = 0 ∧ splitL a <+: splitL b := by
  simp only [underL, Bool.and_eq_true, decide_eq_true_eq, List.isPrefixOf_iff_prefix, and_assoc]
theorem under_trans {a b c : Bs} (h1 : underL a b = true) (h2 : underL b c = true) : underL a c = true := by
  obtain ⟨x1, x2, x3⟩ := under_iff.1 h1
  obtain ⟨y1, y2, y3⟩ := under_iff.1 h2
  exact under_iff.2 ⟨x1, y2, x3.trans y3⟩
theorem under_anti {a b : Bs} (h1 : underL a b = true) (h2 : underL b a = true) : a = b := by
  obtain ⟨x1, x2, x3⟩ := under_iff.1 h1
  obtain ⟨y1, y2, y3⟩ := under_iff.1 h2
  exact split_inj x1 x2 (x3.eq_of_length (Nat.le_antisymm x3.length_le y3.length_le))
theorem inter_pre {ns : List Bs} {k : Nat} : (joinP (ns.take k)).length ≤ (joinP ns).length := by
  induction ns generalizing k with
  | nil => simp
  | cons x r ih =>
    cases k with
    | zero => simp [joinP, inter_nil]
    | succ k =>
      rw [List.take_succ_cons]
      have h := ih (k := k)
      cases r with
      | nil => simp
      | cons y r =>
        cases k with
        | zero => simp only [List.take_zero]; rw [joinP, joinP, inter_one, inter_cons]; simp
        | succ k =>
          rw [List.take_succ_cons] at h ⊢
          rw [joinP, joinP, inter_cons, inter_cons]
          rw [joinP, joinP] at h
          simp only [List.length_cons, List.length_append] at h ⊢
          omega
structure ParMore (p : Bs) (init : List Bs) (n : Bs) : Prop where
  E : joinE init = 0
  dE : splitE (joinP init) = 0
  dL : splitL (joinP init) = init
  up : underL (joinP init) p = true
  self : underL p p = true
  down : underL p (joinP init) = false
  name : nameL n = true
  root : underL [47] p = true
theorem par_more {p n pre : Bs} {init : List Bs} (hE : splitE p = 0) (h : Par p init n pre) : ParMore p init n := by
  obtain ⟨g1, g2⟩ := split_ok hE
  rw [h.L] at g1 g2
  obtain ⟨v1, v2, v3⟩ := joinE_ok.1 g1
  have hI : joinE init = 0 := by
    refine joinE_ok.2 ⟨fun x hx => v1 x (by simp [hx]), by simp at v2; omega, ?_⟩
    have := inter_pre (ns := init ++ [n]) (k := init.length)
    rw [List.take_left' rfl] at this
    omega
  obtain ⟨e1, e2⟩ := join_ok hI
  refine ⟨hI, e1, e2, under_iff.2 ⟨e1, hE, by rw [e2, h.L]; exact List.prefix_append _ _⟩, under_iff.2 ⟨hE, hE, List.prefix_refl _⟩, ?_, v1 n (by simp), under_iff.2 ⟨by decide, hE, by rw [show splitL [47] = [] by decide]; exact List.nil_prefix⟩⟩
  rw [Bool.eq_false_iff]
  intro hu
  have := (under_iff.1 hu).2.2.length_le
  rw [h.L, e2] at this
  simp at this
  omega

set_option maxRecDepth 4000 in
set_option maxHeartbeats 4000000 in
theorem law_under (a b c : ByteArray) (w : World) (hM : MaxC w) :
    Calls Tryd.prog 10 #[.string a, .string b, .string c] w fun e w' => e = .returned (.bool true) ∧ Below w.heap.size w w' := by
  have hex := ex_calls w hM
  have hU := fun W (hW : Below w.heap.size w W) x y => under_calls W x y (hM.below hW)
  have hP := fun W (hW : Below w.heap.size w W) => parent_calls W a (hM.below hW)
  have hS := fun W (hW : Below w.heap.size w W) => split_calls W a (hM.below hW)
  have hN := fun W x => name_calls W x
  have tr := under_trans (a := bs a) (b := bs b) (c := bs c)
  have an := fun h1 h2 => bs_inj (under_anti (a := bs a) (b := bs b) h1 h2)
  have hroot : bs ⟨#[47]⟩ = [47] := rfl
  -- what Parent tells
  have hpar : (∃ init n, parE (bs a) = 0 ∧ parD (bs a) = joinP init ∧ parN (bs a) = n ∧ ParMore (bs a) init n) ∨ ((parE (bs a) != 0) = true ∧ ((splitE (bs a) != 0) = true ∨ (splitE (bs a) = 0 ∧ (a.toList == [47]) = true))) := by
    by_cases hE : splitE (bs a) = 0
    · by_cases hL : splitL (bs a) = []
      · refine .inr ⟨by rw [parE, if_pos hE, if_pos hL]; rfl, .inr ⟨hE, ?_⟩⟩
        have := (split_ok hE).2
        rw [hL] at this
        rw [tl_bs, ← this]; rfl
      · obtain ⟨init, n, pre, hp⟩ := par_yes hE hL
        exact .inl ⟨init, n, hp.E, hp.D, hp.N, par_more hE hp⟩
    · exact .inr ⟨by rw [parE, if_neg hE]; exact bne_iff_ne.2 hE, .inl (bne_iff_ne.2 hE)⟩
  have Tr := Lib.hid tr; have An := Lib.hid an; have HU := Lib.hid hU; have HP := Lib.hid hP; have HS := Lib.hid hS; have HN := Lib.hid hN; have Hpar := Lib.hid hpar; have Hroot := Lib.hid hroot
  clear tr an hU hP hS hN hM hpar hroot
  generalize hX : underL (bs a) (bs b) = X at *
  generalize hY : underL (bs b) (bs c) = Y at *
  generalize hZ : underL (bs a) (bs c) = Z at *
  generalize hV : underL (bs b) (bs a) = V at *
  have HX := Lib.hid hX; have HY := Lib.hid hY; have HZ := Lib.hid hZ; have HV := Lib.hid hV; clear hX hY hZ hV
  have hcase : X = false ∨ (X = true ∧ Y = false ∧ V = false) ∨ (X = true ∧ Y = false ∧ V = true) ∨ (X = true ∧ Y = true ∧ V = false) ∨ (X = true ∧ Y = true ∧ V = true) := by
    cases X <;> cases Y <;> cases V <;> simp
  rcases hcase with rfl | ⟨rfl, rfl, rfl⟩ | ⟨rfl, rfl, rfl⟩ | ⟨rfl, rfl, rfl⟩ | ⟨rfl, rfl, rfl⟩
  focus
    go_enter Tryd.func10, Tryd.ntmps10
    go_wp2_with (fail)
    refine hex.mono ?_
    rintro e w1 ⟨rfl, hB1⟩
    go_wp2_with (fail)
    refine (HU.out _ hB1 a b).mono ?_
    rw [HX.out]
    rintro e w2 ⟨rfl, hb2⟩
    have hB2 := hB1.trans (hb2.mono hB1.size)
    go_wp2_with (fail)
    refine (HU.out _ hB2 a b).mono ?_
    rw [HX.out]
    rintro e wP ⟨rfl, hb3⟩
    have hBP := hB2.trans (hb3.mono hB2.size)
    go_wp2_with (fail)
  rotate_left
  focus
    go_enter Tryd.func10, Tryd.ntmps10
    go_wp2_with (fail)
    refine hex.mono ?_
    rintro e w1 ⟨rfl, hB1⟩
    go_wp2_with (fail)
    refine (HU.out _ hB1 a b).mono ?_
    rw [HX.out]
    rintro e w2 ⟨rfl, hb2⟩
    have hB2 := hB1.trans (hb2.mono hB1.size)
    go_wp2_with (fail)
    refine (HU.out _ hB2 b c).mono ?_
    rw [HY.out]
    rintro e w3 ⟨rfl, hb3⟩
    have hB3 := hB2.trans (hb3.mono hB2.size)
    go_wp2_with (fail)
    refine (HU.out _ hB3 a b).mono ?_
    rw [HX.out]
    rintro e w4 ⟨rfl, hb4⟩
    have hB4 := hB3.trans (hb4.mono hB3.size)
    go_wp2_with (fail)
    refine (HU.out _ hB4 b a).mono ?_
    rw [HV.out]
    rintro e wP ⟨rfl, hb5⟩
    have hBP := hB4.trans (hb5.mono hB4.size)
    go_wp2_with (fail)
  rotate_left
  focus
    have hab := An.out (by trivial) (by trivial)
    have hne : (a.toList != b.toList) = false := by rw [hab]; simp
    have heq : (a.toList == b.toList) = true := by rw [hab]; simp
    clear hab
    go_enter Tryd.func10, Tryd.ntmps10
    go_wp2_with (fail)
    refine hex.mono ?_
    rintro e w1 ⟨rfl, hB1⟩
    go_wp2_with (fail)
    refine (HU.out _ hB1 a b).mono ?_
    rw [HX.out]
    rintro e w2 ⟨rfl, hb2⟩
    have hB2 := hB1.trans (hb2.mono hB1.size)
    go_wp2_with (fail)
    refine (HU.out _ hB2 b c).mono ?_
    rw [HY.out]
    rintro e w3 ⟨rfl, hb3⟩
    have hB3 := hB2.trans (hb3.mono hB2.size)
    go_wp2_with (fail)
    refine (HU.out _ hB3 a b).mono ?_
    rw [HX.out]
    rintro e w4 ⟨rfl, hb4⟩
    have hB4 := hB3.trans (hb4.mono hB3.size)
    go_wp2_with (fail)
    refine (HU.out _ hB4 b a).mono ?_
    rw [HV.out]
    rintro e wP ⟨rfl, hb5⟩
    have hBP := hB4.trans (hb5.mono hB4.size)
    go_wp2_with (fail)
  rotate_left
  focus
    have hZt : Z = true := Tr.out (by trivial) (by trivial)
    subst hZt
    go_enter Tryd.func10, Tryd.ntmps10
    go_wp2_with (fail)
    refine hex.mono ?_
    rintro e w1 ⟨rfl, hB1⟩
    go_wp2_with (fail)
    refine (HU.out _ hB1 a b).mono ?_
    rw [HX.out]
    rintro e w2 ⟨rfl, hb2⟩
    have hB2 := hB1.trans (hb2.mono hB1.size)
    go_wp2_with (fail)
    refine (HU.out _ hB2 b c).mono ?_
    rw [HY.out]
    rintro e w3 ⟨rfl, hb3⟩
    have hB3 := hB2.trans (hb3.mono hB2.size)
    go_wp2_with (fail)
    refine (HU.out _ hB3 a c).mono ?_
    rw [HZ.out]
    rintro e w4 ⟨rfl, hb4⟩
    have hB4 := hB3.trans (hb4.mono hB3.size)
    go_wp2_with (fail)
    refine (HU.out _ hB4 a b).mono ?_
    rw [HX.out]
    rintro e w5 ⟨rfl, hb5⟩
    have hB5 := hB4.trans (hb5.mono hB4.size)
    go_wp2_with (fail)
    refine (HU.out _ hB5 b a).mono ?_
    rw [HV.out]
    rintro e wP ⟨rfl, hb6⟩
    have hBP := hB5.trans (hb6.mono hB5.size)
    go_wp2_with (fail)
  rotate_left
  focus
    have hZt : Z = true := Tr.out (by trivial) (by trivial)
    subst hZt
    have hab := An.out (by trivial) (by trivial)
    have hne : (a.toList != b.toList) = false := by rw [hab]; simp
    have heq : (a.toList == b.toList) = true := by rw [hab]; simp
    clear hab
    go_enter Tryd.func10, Tryd.ntmps10
    go_wp2_with (fail)
    refine hex.mono ?_
    rintro e w1 ⟨rfl, hB1⟩
    go_wp2_with (fail)
    refine (HU.out _ hB1 a b).mono ?_
    rw [HX.out]
    rintro e w2 ⟨rfl, hb2⟩
    have hB2 := hB1.trans (hb2.mono hB1.size)
    go_wp2_with (fail)
    refine (HU.out _ hB2 b c).mono ?_
    rw [HY.out]
    rintro e w3 ⟨rfl, hb3⟩
    have hB3 := hB2.trans (hb3.mono hB2.size)
    go_wp2_with (fail)
    refine (HU.out _ hB3 a c).mono ?_
    rw [HZ.out]
    rintro e w4 ⟨rfl, hb4⟩
    have hB4 := hB3.trans (hb4.mono hB3.size)
    go_wp2_with (fail)
    refine (HU.out _ hB4 a b).mono ?_
    rw [HX.out]
    rintro e w5 ⟨rfl, hb5⟩
    have hB5 := hB4.trans (hb5.mono hB4.size)
    go_wp2_with (fail)
    refine (HU.out _ hB5 b a).mono ?_
    rw [HV.out]
    rintro e wP ⟨rfl, hb6⟩
    have hBP := hB5.trans (hb6.mono hB5.size)
    go_wp2_with (fail)
  rotate_left
  all_goals
    refine (HP.out _ hBP).mono ?_
    rintro e w11 ⟨rfl, hb11⟩
    have hB11 := hBP.trans (hb11.mono hBP.size)
    go_wp2_with (fail)
    refine (HS.out _ hB11).mono ?_
    rintro e w12 ⟨v12, rfl, hO12, hb12⟩
    have hB12 := hB11.trans (hb12.mono hB11.size)
    clear hO12
    rcases Hpar.out with ⟨init, n, p1, p2, p3, pm⟩ | ⟨p1, p2⟩
    · rw [p1, p2, p3]
      have Pm := Lib.hid pm; clear pm p1 p2 p3
      go_wp2_with (fail)
      refine (HU.out _ hB12 (mk (joinP init)) a).mono ?_
      rw [bs_mk, Pm.out.up]
      rintro e w13 ⟨rfl, hb13⟩
      have hB13 := hB12.trans (hb13.mono hB12.size)
      go_wp2_with (fail)
      refine (HU.out _ hB13 a a).mono ?_
      rw [Pm.out.self]
      rintro e w14 ⟨rfl, hb14⟩
      have hB14 := hB13.trans (hb14.mono hB13.size)
      go_wp2_with (fail)
      refine (HU.out _ hB14 a (mk (joinP init))).mono ?_
      rw [bs_mk, Pm.out.down]
      rintro e w15 ⟨rfl, hb15⟩
      have hB15 := hB14.trans (hb15.mono hB14.size)
      go_wp2_with (fail)
      refine (HN.out _ (mk n)).mono ?_
      rw [bs_mk, Pm.out.name]
      rintro e w16 ⟨rfl, hb16⟩
      have hB16 := hB15.trans (hb16.mono hB15.size)
      go_wp2_with (fail)
      refine (HU.out _ hB16 ⟨#[47]⟩ a).mono ?_
      rw [Hroot.out, Pm.out.root]
      rintro e w17 ⟨rfl, hb17⟩
      go_wp2_with (fail)
      go_ret
      exact ⟨rfl, hB16.trans (hb17.mono hB16.size)⟩
    · generalize parE (bs a) = PE at *
      rcases p2 with p2 | ⟨p2, p3⟩
      · generalize splitE (bs a) = SE at *
        go_wp2_with (fail)
        go_ret
        exact ⟨rfl, hB12⟩
      · rw [p2]
        clear p2
        go_wp2_with (fail)
        go_ret
        exact ⟨rfl, hB12⟩
end Go.Proofs.YtbgeiebfjlgcmaaDoor.Path
