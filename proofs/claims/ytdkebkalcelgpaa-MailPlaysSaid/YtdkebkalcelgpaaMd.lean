/- slices.Delete at aged messages; taking one out. -/
import Derived.Test.YtdkebkalcelgpaaMc
namespace Go.Proofs.Ytdkebkalcelgpaa.Mail
open Go.RowKit

theorem flatA_take (l : List Ag) (k : Nat) : (flatA l).take (k * 3) = flatA (l.take k) := by
  by_cases hk : k ≤ l.length
  · have hs : flatA l = flatA (l.take k) ++ flatA (l.drop k) := by rw [flatA, flatA, flatA, ← List.flatMap_append, List.take_append_drop]
    rw [hs, List.take_append_of_le_length (by rw [flatA_len, List.length_take]; omega), List.take_of_length_le (by rw [flatA_len, List.length_take]; omega)]
  · rw [List.take_of_length_le (by rw [flatA_len]; omega), List.take_of_length_le (by omega)]
theorem flatA_drop (l : List Ag) (k : Nat) : (flatA l).drop (k * 3) = flatA (l.drop k) := by
  by_cases hk : k ≤ l.length
  · have hs : flatA l = flatA (l.take k) ++ flatA (l.drop k) := by rw [flatA, flatA, flatA, ← List.flatMap_append, List.take_append_drop]
    rw [hs, List.drop_append_of_le_length (by rw [flatA_len, List.length_take]; omega), List.drop_of_length_le (by rw [flatA_len, List.length_take]; omega), List.nil_append]
  · rw [List.drop_of_length_le (by rw [flatA_len]; omega), List.drop_of_length_le (by omega)]; rfl
theorem flatA_append (l m : List Ag) : flatA (l ++ m) = flatA l ++ flatA m := by simp [flatA]
theorem flatA_one (l : List Ag) : ∀ u ∈ flatA l, u.oneCell' = true := by
  intro u hu
  simp only [flatA, List.mem_flatMap] at hu
  obtain ⟨x, _, hx⟩ := hu
  simp only [encA, List.mem_cons, List.not_mem_nil, or_false] at hx
  rcases hx with rfl | rfl | rfl <;> rfl

theorem row_close {w3 : World} {m : List Ag} {g cap N : Nat} {cur cur3 : Array Value} (hm : m.length = N) (hNc : N ≤ cap) (hg3 : w3.heap[g]? = some (.cells cur3 79 (0, 0))) (hsz : cur3.size = cap * 3)
    (htk3 : cur3.toList.take (N * 3) = cur.toList.take (N * 3)) (htk : cur.toList.take (N * 3) = flatA m) (hcm : cap ≤ maxLen) : w3.ownsRow 0 79 3 (.slice (some ⟨g, 0, none⟩) N cap) m.length (flatA m) := by
  rw [hm]
  exact ⟨by rw [flatA_len, hm], .inr ⟨g, cap, cur3, rfl, Nat.zero_le _, hg3, hNc, hcm, hsz, by rw [htk3, htk]⟩⟩

theorem del_calls (w : World) (l : List Ag) (g cap i : Nat) (hown : w.ownsRow 0 79 3 (.slice (some ⟨g, 0, none⟩) l.length cap) l.length (flatA l)) (hn : l.length ≤ 1000000) (hi : i < l.length) :
    Calls Try.prog 50 #[.slice (some ⟨g, 0, none⟩) l.length cap, .int .i64 (i : Int), .int .i64 ((i : Int) + 1)] w fun e w' =>
      e = .returned (.slice (some ⟨g, 0, none⟩) (l.length - 1) cap) ∧ w'.ownsRow 0 79 3 (.slice (some ⟨g, 0, none⟩) (l.length - 1) cap) (l.eraseIdx i).length (flatA (l.eraseIdx i)) ∧ Upd (fun k => k = g) w w' := by
  obtain ⟨g', cap', cur, hv, _, hg, hnc, hcm, hcs, htk⟩ := hown.2.resolve_left (fun h => by omega)
  simp only [Value.slice.injEq, Option.some.injEq, Addr.mk.injEq, and_true, true_and] at hv
  obtain ⟨rfl, rfl⟩ := hv
  unfold maxLen at hcm
  have h1 : ((i : Int) == (i : Int) + 1) = false := by simp; omega
  have h2 : (0 : Int) ≤ (i : Int) + 1 := by omega
  have h3 : (i : Int) + 1 ≤ (l.length : Int) := by omega
  have h4 : ((i : Int) + 1).toNat = i + 1 := by omega
  have h5 : (i : Int) ≤ (cap : Int) := by omega
  have htake : w.ownsRow 0 79 3 (.slice (some ⟨g, 0, none⟩) i cap) i (flatA (l.take i)) := by have := own_take hown (k := i) (by omega); rwa [flatA_take] at this
  have HG := Lib.hid hg; clear hg
  have Hcs := Lib.hid hcs; clear hcs
  have Htk := Lib.hid htk; clear htk
  go_enter Try.func50, Try.ntmps50
  have hnews : ∀ j u, (flatA (l.drop (i + 1)))[j]? = some u → w.cell? ⟨g, (i + 1) * 3 + j, none⟩ = some u := fun j u hu => by
    have hj := (List.getElem?_eq_some_iff.1 hu).1
    rw [flatA_len, List.length_drop] at hj
    rw [hown.cellAt _ (by omega), ← hu, ← flatA_drop, List.getElem?_drop]
  have Hn := Lib.hid hnews; clear hnews
  obtain ⟨N, hN⟩ : ∃ N, l.length = N + 1 := ⟨l.length - 1, by omega⟩
  have hsum : i + (l.length - (i + 1)) = N := by omega
  have hcN : ¬ (cap = N) := by omega
  have hN1 : (N : Int) ≤ (l.length : Int) := by omega
  have hN2 : (N : Int) ≤ (cap : Int) := by omega
  have HN := Lib.hid hN; clear hN
  by_cases hci : cap = i + 1
  · have hci' : (cap = i + 1) = True := eq_true hci
    have Hci := Lib.hid hci; clear hci
    go_wp2_with (fail)
    go_region_law (refine et79.step_fits (g := g) (k := i) (cap := cap) (xs := flatA (l.take i)) (ao := some ⟨g, 0, none⟩) (c := cap - (i + 1)) (m := l.length - (i + 1)) (news := flatA (l.drop (i + 1))) (own_drew htake) (by rw [flatA_len, List.length_drop]) (fun h => by have := Hci.out; omega) (flatA_one _) (by omega) rfl (.tmp 22) (.tmp 25) rfl (by simp [Act.eval, Act.put]) (by simp [Act.eval, Act.put]) ?_; intro w1 hown1 hgrow1)
    all_goals
      rw [hsum] at hown1
      try simp only [hsum]
      obtain ⟨g', cap', cur', hv, _, hg', hnc', hcm', hcs', htk'⟩ := hown1.2.resolve_left (fun h => by simp at h)
      simp only [Value.slice.injEq, Option.some.injEq, Addr.mk.injEq, and_true, true_and] at hv
      obtain ⟨rfl, rfl⟩ := hv
      have Hg' := Lib.hid hg'; clear hg'
      have Hcs' := Lib.hid hcs'; clear hcs'
      have Htk' := Lib.hid htk'; clear htk'
      go_wp2_with (with_reducible refine et79.wpList_clear (g := g) (off := N * 3) (m := l.length - N) (cur := cur') Hg'.out (fun _ => rfl) (by rw [Hcs'.out]; omega) rfl (.tmp 31) rfl rfl ?_; intro w3 cur3 hg3 hsz3 htk3 hgrow3)
      go_ret
      have hN' : l.length - 1 = N := by have := HN.out; omega
      rw [hN']
      refine ⟨rfl, row_close (m := l.eraseIdx i) (by rw [List.length_eraseIdx, if_pos hi]; exact hN') (by omega) hg3 (hsz3.trans Hcs'.out) htk3 (by rw [Htk'.out, List.eraseIdx_eq_take_drop_succ, flatA_append]) (by unfold maxLen; omega), ((Upd.refl _ w).drew.grown hgrow1 (fun k hk => .inl (by simpa using hk.symm))).grown hgrow3 fun k hk => .inl (by simpa using hk.symm)⟩
  · go_wp2_with (fail)
    go_region_law (refine et79.step_fits (g := g) (k := i) (cap := cap) (xs := flatA (l.take i)) (ao := some ⟨g, (i + 1) * 3, none⟩) (c := cap - (i + 1)) (m := l.length - (i + 1)) (news := flatA (l.drop (i + 1))) (own_drew htake) (by rw [flatA_len, List.length_drop]) (fun h => ⟨_, rfl, fun j u hu => by rw [Addr.add_lit]; exact Hn.out j u hu⟩) (flatA_one _) (by omega) rfl (.tmp 22) (.tmp 25) rfl (by simp [Act.eval, Act.put]) (by simp [Act.eval, Act.put]) ?_; intro w1 hown1 hgrow1)
    all_goals
      rw [hsum] at hown1
      try simp only [hsum]
      obtain ⟨g', cap', cur', hv, _, hg', hnc', hcm', hcs', htk'⟩ := hown1.2.resolve_left (fun h => by simp at h)
      simp only [Value.slice.injEq, Option.some.injEq, Addr.mk.injEq, and_true, true_and] at hv
      obtain ⟨rfl, rfl⟩ := hv
      have Hg' := Lib.hid hg'; clear hg'
      have Hcs' := Lib.hid hcs'; clear hcs'
      have Htk' := Lib.hid htk'; clear htk'
      go_wp2_with (with_reducible refine et79.wpList_clear (g := g) (off := N * 3) (m := l.length - N) (cur := cur') Hg'.out (fun _ => rfl) (by rw [Hcs'.out]; omega) rfl (.tmp 31) rfl rfl ?_; intro w3 cur3 hg3 hsz3 htk3 hgrow3)
      go_ret
      have hN' : l.length - 1 = N := by have := HN.out; omega
      rw [hN']
      refine ⟨rfl, row_close (m := l.eraseIdx i) (by rw [List.length_eraseIdx, if_pos hi]; exact hN') (by omega) hg3 (hsz3.trans Hcs'.out) htk3 (by rw [Htk'.out, List.eraseIdx_eq_take_drop_succ, flatA_append]) (by unfold maxLen; omega), ((Upd.refl _ w).drew.grown hgrow1 (fun k hk => .inl (by simpa using hk.symm))).grown hgrow3 fun k hk => .inl (by simpa using hk.symm)⟩
end Go.Proofs.Ytdkebkalcelgpaa.Mail
