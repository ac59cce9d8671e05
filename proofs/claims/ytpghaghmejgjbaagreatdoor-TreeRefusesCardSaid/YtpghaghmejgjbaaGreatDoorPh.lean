/- Paths: path.Move. -/
import Derived.Test.YtpghaghmejgjbaaGreatDoorPg
namespace Go.Proofs.YtpghaghmejgjbaaGreatDoor.Path
open Go.RowKit
set_option linter.unusedSimpArgs false

theorem move_no {P A B : Bs} (h : moveOk P A B = false) : moveE P A B = 1 ∧ moveS P A B = [] := by simp [moveE, moveS, h]
theorem move_yes {P A B : Bs} (h : moveOk P A B = true) : moveE P A B = joinE (moveN P A B) ∧ moveS P A B = joinS (moveN P A B) ∧ underL A P = true ∧ splitE A = 0 ∧ splitE P = 0 ∧ splitE B = 0 ∧ (splitL A).length ≤ (splitL P).length := by
  refine ⟨by rw [moveE, if_pos h], by rw [moveS, if_pos h], ?_⟩
  simp only [moveOk, Bool.and_eq_true, decide_eq_true_eq] at h
  obtain ⟨hu, hb⟩ := h
  refine ⟨hu, ?_⟩
  simp only [underL, Bool.and_eq_true, decide_eq_true_eq] at hu
  exact ⟨hu.1.1, hu.1.2, hb, (List.isPrefixOf_iff_prefix.1 hu.2).length_le⟩
theorem map_back (l m : List Bs) : (l.map mk ++ m.map mk).map bs = l ++ m := by
  rw [← List.map_append, List.map_map]
  conv => rhs; rw [← List.map_id (l ++ m)]
  exact List.map_congr_left fun x _ => bs_mk x
theorem map_back0 (l : List Bs) : (l.map mk ++ []).map bs = l := by
  have := map_back l []
  simpa using this
theorem rds_none {w : World} {a : Option Addr} {c : Nat} (hc : c ≤ maxLen) (h : a = none → c = 0) : RdS w (.slice a 0 c) [] := by
  refine ⟨⟨a, c, rfl, Nat.zero_le _, hc, fun i x hx => by simp at hx⟩, fun n c' e => ?_⟩
  cases e
  exact h rfl
theorem rds_drop {w : World} {g n cap k : Nat} {q : List ByteArray} (h : w.ownsRow 0 9 1 (.slice (some ⟨g, 0, none⟩) n cap) n (flatS q)) (hn : q.length = n) (hk : k ≤ n) : RdS w (.slice (some ⟨g, k, none⟩) (n - k) (cap - k)) (q.drop k) := by
  refine ⟨⟨some ⟨g, k, none⟩, cap - k, by rw [List.length_drop, hn], ?_, ?_, fun i x hx => ?_⟩, fun n' c' e => by cases e⟩
  · rcases h.2 with ⟨e, _⟩ | ⟨g', c', cur, e, _, hg, hc, hm, _⟩
    · cases e
    · cases e; rw [List.length_drop]; omega
  · rcases h.2 with ⟨e, _⟩ | ⟨g', c', cur, e, _, hg, hc, hm, _⟩
    · cases e
    · cases e; omega
  · have hlt := (h.lt g rfl).2
    refine ⟨g, k, rfl, hlt, fun j u hu => ?_⟩
    rw [List.getElem?_drop] at hx
    have hi := (List.getElem?_eq_some_iff.1 hx).1
    have hj : j < 1 := (List.getElem?_eq_some_iff.1 hu).1
    have hj0 : j = 0 := by omega
    subst hj0
    have e : k + i * 1 + 0 = k + i := by omega
    rw [e, h.cellAt (k + i) (by omega), flatS_map, List.getElem?_map, hx]
    exact hu

set_option maxHeartbeats 4000000 in
theorem move_calls (w : World) (p a b : ByteArray) (hM : MaxC w) :
    Calls Tryz.prog 51 #[.string p, .string a, .string b] w (JoinPost w (moveE (bs p) (bs a) (bs b)) (moveS (bs p) (bs a) (bs b))) := by
  have h1 := split_calls w b hM
  have h2 := fun W (hW : Below w.heap.size w W) => under_calls W a p (hM.below hW)
  have h3 := fun W (hW : Below w.heap.size w W) => split_calls W p (hM.below hW)
  have h4 := fun W (hW : Below w.heap.size w W) => split_calls W a (hM.below hW)
  cases hok : moveOk (bs p) (bs a) (bs b)
  · rw [(move_no hok).1, (move_no hok).2]
    have hways : underL (bs a) (bs p) = false ∨ (underL (bs a) (bs p) = true ∧ (splitE (bs b) != 0) = true) := by
      rw [moveOk] at hok
      cases hu : underL (bs a) (bs p)
      · exact .inl rfl
      · rw [hu, Bool.true_and] at hok
        exact .inr ⟨rfl, bne_iff_ne.2 (by simpa using hok)⟩
    generalize splitE (bs b) = E at *
    clear hok h3 h4
    rcases hways with hu | ⟨hu, hE⟩ <;>
    · rw [hu] at h2
      have H2 := Lib.hid h2; clear h2 hu hM
      go_enter Tryz.func51, Tryz.ntmps51
      go_wp2_with (fail)
      refine h1.mono ?_
      rintro e w1 ⟨v1, rfl, hO1, hb1⟩
      go_wp2_with (fail)
      refine (H2.out _ hb1).mono ?_
      rintro e w2 ⟨rfl, hb2⟩
      go_wp2_with (fail)
      go_ret2
      exact ⟨rfl, hb1.trans (hb2.mono hb1.size)⟩
  · obtain ⟨e1, e2, hu, eA, eP, eB, hle⟩ := move_yes hok
    rw [e1, e2]
    have hL := split_six (bs b); have hN := split_six (bs p); have hA := split_six (bs a)
    have hmn : moveN (bs p) (bs a) (bs b) = splitL (bs b) ++ (splitL (bs p)).drop (splitL (bs a)).length := rfl
    rw [hmn]
    rw [eB] at h1
    rw [hu] at h2
    rw [eP] at h3
    rw [eA] at h4
    generalize splitL (bs b) = L at *
    generalize splitL (bs p) = M at *
    generalize splitL (bs a) = N at *
    have H2 := Lib.hid h2; have H3 := Lib.hid h3; have H4 := Lib.hid h4; clear h2 h3 h4 hM hok e1 e2 hu eA eP eB hmn
    have q1 : (N.length : Int) ≤ (M.length : Int) := by omega
    go_enter Tryz.func51, Tryz.ntmps51
    go_wp2_with (fail)
    refine h1.mono ?_
    rintro e w1 ⟨v1, rfl, hO1, hb1⟩
    go_wp2_with (fail)
    refine (H2.out _ hb1).mono ?_
    rintro e w2 ⟨rfl, hb2⟩
    have hB2 := hb1.trans (hb2.mono hb1.size)
    go_wp2_with (fail)
    refine (H3.out _ hB2).mono ?_
    rintro e w3 ⟨v3, rfl, hO3, hb3⟩
    have hB3 := hB2.trans (hb3.mono hB2.size)
    go_wp2_with (fail)
    refine (H4.out _ hB3).mono ?_
    rintro e w4 ⟨v4, rfl, hO4, hb4⟩
    have hB4 := hB3.trans (hb4.mono hB3.size)
    obtain ⟨a4, c4, rfl, _, _, _⟩ := rd_cellsS hO4.rd
    rw [List.length_map]
    obtain ⟨a3, c3, rfl, _⟩ := own_slice hO3.own
    rw [List.length_map]
    have hd : ∀ W, Below w3.heap.size w3 W → c3 ≠ N.length → ∃ g, a3 = some ⟨g, 0, none⟩ ∧ RdS W (.slice (some ⟨g, N.length, none⟩) (M.length - N.length) (c3 - N.length)) ((M.drop N.length).map mk) := fun W hW hne => by
      have h := hO3.own
      rw [List.length_map] at h
      rcases h.2 with ⟨e, h0⟩ | ⟨g, c', cur, e, _⟩
      · simp only [Value.slice.injEq] at e
        omega
      · simp only [Value.slice.injEq, true_and] at e
        obtain ⟨rfl, rfl⟩ := e
        have hr := rds_drop (w := w3) h (by rw [List.length_map]) hle
        rw [← List.map_drop] at hr
        exact ⟨g, rfl, hr.below hW⟩
    have hcm : M.length ≤ c3 := by
      rcases hO3.own.2 with ⟨e, h0⟩ | ⟨g, c', cur, e, _, _, h, _⟩
      · simp only [Value.slice.injEq] at e; rw [List.length_map] at h0; omega
      · simp only [Value.slice.injEq, true_and] at e
        obtain ⟨rfl, rfl⟩ := e
        rw [List.length_map] at h; exact h
    obtain ⟨a1, c1, rfl, _⟩ := own_slice hO1.own
    have hr1 := hO1.rds.below (hb2.trans ((hb3.trans (hb4.mono hb3.size)).mono hb2.size))
    rw [List.length_map] at hr1 ⊢
    have Hd := Lib.hid hd; have Hr1 := Lib.hid hr1; clear hd hr1 hO1 hO3 hO4
    have hz4 := hB4.size
    by_cases hcn : c3 = N.length
    · have hMN : M.length = N.length := by omega
      have hMNe : M.drop N.length = [] := List.drop_of_length_le (by omega)
      have HMN := Lib.hid hMN; have HMe := Lib.hid hMNe; clear hMNe hMN
      go_wp2_with (fail)
      have hsub : M.length - N.length = 0 := by have := HMN.out; omega
      rw [hsub]
      have hr5 : RdS w4 (.slice a3 0 0) [] := rds_none (by decide) (fun _ => rfl)
      have hb5 : Below w4.heap.size w4 (w4.alloc (.cells #[.slice a1 L.length c1, .slice a3 0 0] 27)) := (Below.refl _ _).alloc (Nat.le_refl _) _
      refine (conc_calls _ w4.heap.size _ _ (L.map mk) ([]) (heap_alloc_new w4 _) (Hr1.out.below hb5) (hr5.below hb5) (by simp; omega)).mono ?_
      rintro e w6 ⟨v6, rfl, hO6, hb6⟩
      have hB6 := (hB4.trans (hb5.mono hz4)).trans (hb6.mono (Nat.le_trans hz4 hb5.size))
      have hj := join_calls w6 v6 _ hO6.rd (by simp; omega)
      rw [map_back0] at hj
      go_wp2_with (fail)
      refine hj.mono ?_
      rintro e w7 ⟨rfl, hb7⟩
      go_wp2_with (fail)
      go_ret2
      rw [HMe.out, List.append_nil]
      exact ⟨rfl, hB6.trans (hb7.mono hB6.size)⟩
    · obtain ⟨g, rfl, hr3⟩ := Hd.out w4 hb4 hcn
      have Hr3 := Lib.hid hr3; clear hr3
      go_wp2_with (fail)
      have hr5 := Hr3.out
      have hb5 : Below w4.heap.size w4 (w4.alloc (.cells #[.slice a1 L.length c1, .slice (some ⟨g, N.length, none⟩) (M.length - N.length) (c3 - N.length)] 27)) := (Below.refl _ _).alloc (Nat.le_refl _) _
      refine (conc_calls _ w4.heap.size _ _ (L.map mk) ((M.drop N.length).map mk) (heap_alloc_new w4 _) (Hr1.out.below hb5) (hr5.below hb5) (by simp; omega)).mono ?_
      rintro e w6 ⟨v6, rfl, hO6, hb6⟩
      have hB6 := (hB4.trans (hb5.mono hz4)).trans (hb6.mono (Nat.le_trans hz4 hb5.size))
      have hj := join_calls w6 v6 _ hO6.rd (by simp; omega)
      rw [map_back] at hj
      go_wp2_with (fail)
      refine hj.mono ?_
      rintro e w7 ⟨rfl, hb7⟩
      go_wp2_with (fail)
      go_ret2
      exact ⟨rfl, hB6.trans (hb7.mono hB6.size)⟩
end Go.Proofs.YtpghaghmejgjbaaGreatDoor.Path
