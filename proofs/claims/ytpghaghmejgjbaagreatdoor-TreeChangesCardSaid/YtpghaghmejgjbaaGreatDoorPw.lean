/- Paths: the document's Move. -/
import Derived.Test.YtpghaghmejgjbaaGreatDoorPu
import Derived.Test.YtpghaghmejgjbaaGreatDoorGa
namespace Go.Proofs.YtpghaghmejgjbaaGreatDoor.Path
open Go.RowKit
set_option linter.unusedSimpArgs false
set_option linter.unusedVariables false

theorem new_of {v : Value} {B n : Nat} (h : v.ownBlock = (Value.slice none 0 0).ownBlock ∨ v.ownBlock = some n) (hn : B ≤ n) : ∀ g, v.ownBlock = some g → B ≤ g := fun g hg => by
  rcases h with e | e
  · rw [e] at hg; simp [Value.ownBlock] at hg
  · rw [e] at hg; simp at hg; omega

set_option maxRecDepth 4000 in
set_option maxHeartbeats 4000000 in
theorem rmove_calls (w : World) (p a b : ByteArray) :
    Calls Tryz.prog 61 #[.string p, .string a, .string b] w (JoinPost w (moveE (bs p) (bs a) (bs b)) (moveS (bs p) (bs a) (bs b))) := by
  have h1 := runder_calls w a p
  have h2 := fun W => rsplit_calls W a
  have h3 := fun W => rsplit_calls W p
  have h4 := fun W => rsplit_calls W b
  cases hok : moveOk (bs p) (bs a) (bs b)
  · rw [(move_no hok).1, (move_no hok).2]
    have hways : underL (bs a) (bs p) = false ∨ (underL (bs a) (bs p) = true ∧ (splitE (bs b) != 0) = true) := by
      rw [moveOk] at hok
      cases hu : underL (bs a) (bs p)
      · exact .inl rfl
      · rw [hu, Bool.true_and] at hok
        exact .inr ⟨rfl, bne_iff_ne.2 (by simpa using hok)⟩
    generalize splitE (bs b) = E at *
    clear hok
    have H2 := Lib.hid h2; have H3 := Lib.hid h3; have H4 := Lib.hid h4; clear h2 h3 h4
    rcases hways with hu | ⟨hu, hE⟩ <;>
    · rw [hu] at h1
      clear hu
      go_enter Tryz.func61, Tryz.ntmps61
      go_wp2_with (fail)
      refine h1.mono ?_
      rintro e w1 ⟨rfl, hb1⟩
      go_wp2_with (fail)
      refine (H2.out _).mono ?_
      rintro e w2 ⟨v2, rfl, _, hb2⟩
      have hB2 := hb1.trans (hb2.mono hb1.size)
      go_wp2_with (fail)
      refine (H3.out _).mono ?_
      rintro e w3 ⟨v3, rfl, _, hb3⟩
      have hB3 := hB2.trans (hb3.mono hB2.size)
      go_wp2_with (fail)
      refine (H4.out _).mono ?_
      rintro e w4 ⟨v4, rfl, _, hb4⟩
      go_wp2_with (fail)
      go_ret2
      exact ⟨rfl, hB3.trans (hb4.mono hB3.size)⟩
  · obtain ⟨e1, e2, hu, eA, eP, eB, hle⟩ := move_yes hok
    rw [e1, e2]
    have hL := split_six (bs b); have hN := split_six (bs p); have hA := split_six (bs a)
    have hmn : moveN (bs p) (bs a) (bs b) = splitL (bs b) ++ (splitL (bs p)).drop (splitL (bs a)).length := rfl
    rw [hmn]
    rw [hu] at h1
    rw [eA] at h2
    rw [eP] at h3
    rw [eB] at h4
    generalize splitL (bs b) = L at *
    generalize splitL (bs p) = M at *
    generalize splitL (bs a) = N at *
    have H2 := Lib.hid h2; have H3 := Lib.hid h3; have H4 := Lib.hid h4; clear h2 h3 h4 hok e1 e2 hu eA eP eB hmn
    have q1 : (N.length : Int) ≤ (M.length : Int) := by omega
    go_enter Tryz.func61, Tryz.ntmps61
    go_wp2_with (fail)
    refine h1.mono ?_
    rintro e w1 ⟨rfl, hb1⟩
    go_wp2_with (fail)
    refine (H2.out _).mono ?_
    rintro e w2 ⟨v2, rfl, hO2, hb2⟩
    have hB2 := hb1.trans (hb2.mono hb1.size)
    go_wp2_with (fail)
    refine (H3.out _).mono ?_
    rintro e w3 ⟨v3, rfl, hO3, hb3⟩
    have hB3 := hB2.trans (hb3.mono hB2.size)
    go_wp2_with (fail)
    refine (H4.out _).mono ?_
    rintro e w4 ⟨v4, rfl, hO4, hb4⟩
    have hB4 := hB3.trans (hb4.mono hB3.size)
    obtain ⟨a2, c2, rfl, _⟩ := own_slice hO2.own
    obtain ⟨a3, c3, rfl, _⟩ := own_slice hO3.own
    have hr4 := hO4.rds
    obtain ⟨a4, c4, rfl, _⟩ := own_slice hO4.own
    obtain ⟨n4, f4⟩ := none_facts hr4
    have hd : ∀ W, Below w3.heap.size w3 W → c3 ≠ N.length → ∃ g, a3 = some ⟨g, 0, none⟩ ∧ RdS W (.slice (some ⟨g, N.length, none⟩) (M.length - N.length) (c3 - N.length)) ((M.drop N.length).map mk) := fun W hW hne => by
      have h := hO3.own
      rw [List.length_map] at h
      rcases h.2 with ⟨e, h0⟩ | ⟨g, c', cur, e, _⟩
      · simp only [Value.slice.injEq] at e
        omega
      · simp only [Value.slice.injEq, true_and] at e
        obtain ⟨rfl, rfl⟩ := e
        have hr := rds_drop (w := w3) h (by rw [List.length_map]) hle
        rw [← List.map_drop] at hr
        exact ⟨g, rfl, hr.below hW⟩
    have hcm : M.length ≤ c3 := by
      rcases hO3.own.2 with ⟨e, h0⟩ | ⟨g, c', cur, e, _, _, h, _⟩
      · simp only [Value.slice.injEq] at e; rw [List.length_map] at h0; omega
      · simp only [Value.slice.injEq, true_and] at e
        obtain ⟨rfl, rfl⟩ := e
        rw [List.length_map] at h; exact h
    rw [List.length_map] at *
    rw [List.length_map] at *
    rw [List.length_map] at *
    have N4 := Lib.hid n4; have F4 := Lib.hid f4; have Hd := Lib.hid hd; clear n4 f4 hd hr4 hO2 hO3 hO4
    have hz4 := hB4.size
    have hnil : w4.ownsRow 0 9 1 (.slice none 0 0) 0 [] := World.ownsRow_nil _ _ _ _
    have hdl : ((M.drop N.length).map mk).length = M.length - N.length := by rw [List.length_map, List.length_drop]
    have Hdl := Lib.hid hdl; clear hdl
    by_cases hcn : c3 = N.length
    · have hMN : M.length - N.length = 0 := by omega
      have hD0 : (M.drop N.length).map mk = [] := List.eq_nil_of_length_eq_zero (by rw [Hdl.out]; exact hMN)
      have HMN := Lib.hid hMN; have HD0 := Lib.hid hD0; clear hMN hD0
      go_wp2_with (first
        | (at_builtin; (with_reducible refine etS.wpList_app hnil (m := L.length) (c := c4) (ao := a4) (news := flatS (L.map mk)) (by rw [flatS_len, List.length_map, Nat.mul_one]) N4.out (fun ad h => F4.out ad h _ (Below.refl _ _)) (flatS_one _) (by omega) (by unfold maxLen; omega) rfl (.tmp 40) (.tmp 41) rfl rfl rfl ?_); intro v5 w5 own5 grow5 at5 nil5; (rw [Nat.zero_add, List.nil_append] at own5); have hg5 := (fun q (hq : (Value.slice none 0 0).ownBlock = some q) => (by simp [Value.ownBlock] at hq : w.heap.size ≤ q)); have hb45 := (Below.refl w4.heap.size w4).grown grow5 (Nat.le_refl _) (fun q hq => (by simp [Value.ownBlock] at hq)); have hB5 := hB4.grown grow5 hz4 hg5; have hz5 := hB5.size; have hn5 := new_of at5 hz4)
        | (at_builtin; (with_reducible refine etS.wpList_app own5 (m := M.length - N.length) (c := 0) (ao := a3) (news := flatS ((M.drop N.length).map mk)) (by rw [flatS_len, Hdl.out, Nat.mul_one]) (fun e => ⟨HMN.out, rfl⟩) (fun ad h j u hu => (by rw [HD0.out] at hu; simp [flatS] at hu)) (flatS_one _) (by omega) (by unfold maxLen; omega) rfl (.tmp 43) (.tmp 47) rfl rfl rfl ?_); intro v7 w7 own7 grow7 at7 nil7))
      have hB7 := hB5.grown grow7 hz5 hn5
      have hr7 : Rd w7 1 encS v7 (L.map mk ++ (M.drop N.length).map mk) := by
        refine Rd.of_own (base := 0) (e := 9) encS_len ?_
        rw [List.length_append, List.length_map, Hdl.out]
        show w7.ownsRow 0 9 1 _ _ (flatS (L.map mk ++ (M.drop N.length).map mk))
        rw [flatS_append]
        exact own7
      have hj := rjoin_calls w7 v7 _ hr7 (by simp; omega)
      rw [map_back] at hj
      clear own5 grow5 at5 nil5 own7 grow7 at7 nil7 hr7 hnil hg5
      go_wp2_with (fail)
      refine hj.mono ?_
      rintro e w8 ⟨rfl, hb8⟩
      go_wp2_with (fail)
      go_ret2
      exact ⟨rfl, hB7.trans (hb8.mono hB7.size)⟩
    · obtain ⟨g, rfl, hr3⟩ := Hd.out w4 hb4 hcn
      have hf3 := fun W (hW : Below w4.heap.size w4 W) => rd_flatS hr3.rd (ad := ⟨g, N.length, none⟩) (cap := c3 - N.length) (by rw [Hdl.out]) W hW
      have Hf3 := Lib.hid hf3; clear hf3 hr3
      go_wp2_with (first
        | (at_builtin; (with_reducible refine etS.wpList_app hnil (m := L.length) (c := c4) (ao := a4) (news := flatS (L.map mk)) (by rw [flatS_len, List.length_map, Nat.mul_one]) N4.out (fun ad h => F4.out ad h _ (Below.refl _ _)) (flatS_one _) (by omega) (by unfold maxLen; omega) rfl (.tmp 40) (.tmp 41) rfl rfl rfl ?_); intro v5 w5 own5 grow5 at5 nil5; (rw [Nat.zero_add, List.nil_append] at own5); have hg5 := (fun q (hq : (Value.slice none 0 0).ownBlock = some q) => (by simp [Value.ownBlock] at hq : w.heap.size ≤ q)); have hb45 := (Below.refl w4.heap.size w4).grown grow5 (Nat.le_refl _) (fun q hq => (by simp [Value.ownBlock] at hq)); have hB5 := hB4.grown grow5 hz4 hg5; have hz5 := hB5.size; have hn5 := new_of at5 hz4)
        | (at_builtin; (with_reducible refine etS.wpList_app own5 (m := M.length - N.length) (c := c3 - N.length) (ao := some ⟨g, N.length, none⟩) (news := flatS ((M.drop N.length).map mk)) (by rw [flatS_len, Hdl.out, Nat.mul_one]) (fun e => (by cases e)) (fun ad h => (by cases h; exact Hf3.out _ hb45)) (flatS_one _) (by omega) (by unfold maxLen; omega) rfl (.tmp 43) (.tmp 47) rfl rfl rfl ?_); intro v7 w7 own7 grow7 at7 nil7))
      have hB7 := hB5.grown grow7 hz5 hn5
      have hr7 : Rd w7 1 encS v7 (L.map mk ++ (M.drop N.length).map mk) := by
        refine Rd.of_own (base := 0) (e := 9) encS_len ?_
        rw [List.length_append, List.length_map, Hdl.out]
        show w7.ownsRow 0 9 1 _ _ (flatS (L.map mk ++ (M.drop N.length).map mk))
        rw [flatS_append]
        exact own7
      have hj := rjoin_calls w7 v7 _ hr7 (by simp; omega)
      rw [map_back] at hj
      clear own5 grow5 at5 nil5 own7 grow7 at7 nil7 hr7 hnil hg5
      go_wp2_with (fail)
      refine hj.mono ?_
      rintro e w8 ⟨rfl, hb8⟩
      go_wp2_with (fail)
      go_ret2
      exact ⟨rfl, hB7.trans (hb8.mono hB7.size)⟩
end Go.Proofs.YtpghaghmejgjbaaGreatDoor.Path
