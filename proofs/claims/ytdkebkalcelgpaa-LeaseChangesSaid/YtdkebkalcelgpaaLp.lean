/- Leases: the walk of the document's Renew. -/
import Derived.Test.YtdkebkalcelgpaaLo
namespace Go.Proofs.Ytdkebkalcelgpaa.Lease
open Go.RowKit
set_option linter.unusedSimpArgs false

set_option maxRecDepth 4000 in
set_option maxHeartbeats 8000000 in
theorem rrenew_ok (w : World) (v : Value) (l : List Le) (c now : Int) (h : Rd w 2 encL v l) (hn : l.length ≤ 8796093022208) (hok : renOk c now l = true) :
    Calls Try.prog 34 #[v, .int .i64 c, .int .i64 now] w (RRenPost w true (renQ c now l)) := by
  have hr := rright_calls w v l h hn
  obtain ⟨hR, g1, g2, g3, g4⟩ := renOk_iff.1 hok
  have hlen := right_len hR
  have hun := fun W (hW : Below w.heap.size w W) => runtil_calls W v l c (h.below hW (Nat.le_refl _)) hn
  have hwi := fun W (hW : Below w.heap.size w W) => without_calls W v l c (h.below hW (Nat.le_refl _)) (by omega)
  obtain ⟨ao, cap, rfl, _, _, _⟩ := rd_cells h
  rw [hR] at hr
  rw [renQ]
  have hol := others_len c l
  have hlo := fun k x => @others_lt c l k x
  have hgt := fun x => @others_gt c l x
  have hp := idx_le c (others c l)
  clear hR h hok
  generalize idxL c (others c l) = p at *
  generalize others c l = r at *
  generalize untilB c l = ub at *
  generalize untilU c l = U at *
  have Hun := Lib.hid hun; have Hwi := Lib.hid hwi; have Hlo := Lib.hid hlo; have Hgt := Lib.hid hgt; clear hun hwi hlo hgt
  obtain ⟨n, hnn⟩ : ∃ n : Le, n = ⟨c, max U (now + 10)⟩ := ⟨_, rfl⟩
  rw [← hnn]
  obtain ⟨M, hM⟩ : ∃ M, M = max U (now + 10) := ⟨_, rfl⟩
  rw [← hM] at hnn
  have Hnn := Lib.hid hnn; have HM := Lib.hid hM; clear hnn hM
  have k1 : IntKind.i64.wrap (now + 10) = now + 10 := by rw [IntKind.wrap_i64]; omega
  have k2 : ¬ c < 0 := by omega
  have k3 : ¬ 4 ≤ c := by omega
  have k4 : ¬ now < 0 := by omega
  have k5 : ¬ 9007199254740981 < now := by omega
  go_enter Try.func34, Try.ntmps34
  go_wp2_with (first
    | (go_at_call 32; refine hr.mono ?_; rintro e w1 ⟨rfl, hb1⟩)
    | (go_at_call 29; refine (Hun.out _ hb1).mono ?_; rintro e w2 ⟨rfl, hb2⟩; have hB2 := hb1.trans (hb2.mono hb1.size))
    | (go_at_call 47; refine (Hwi.out _ hB2).mono ?_; rintro e w3 ⟨v3, rfl, hO3, hb3⟩; obtain ⟨ro, rcap, rfl, _, _, hcell⟩ := rd_cells (Rd.of_own encL_len hO3.own)))
  have hB3 := hB2.trans (hb3.mono hB2.size)
  have Hcell := Lib.hid hcell; clear hcell hr
  go_loopw [11, 12, 14] (fun vo vp vk wr => ∃ k : Nat, vk = .int .i64 k ∧ k ≤ r.length + 1 ∧ vp = .bool (decide (p < k)) ∧ OwnL w3 wr vo ((r.insertIdx p n).take (if p < k then k + 1 else k)) ∧ Below w3.heap.size w3 wr) (fun _ _ vk _ => r.length + 1 - (intOf vk).toNat)
  case atStart => exact ⟨0, rfl, Nat.zero_le _, rfl, ⟨World.ownsRow_nil _ _ _ _, fun g h => by simp [Value.ownBlock] at h⟩, Below.refl _ _⟩
  case round =>
    obtain ⟨k, rfl, hk, rfl, hO, hb⟩ := hrel
    have hsz := hb.size
    have hQl : (r.insertIdx p n).length = r.length + 1 := by rw [List.length_insertIdx, if_pos hp]
    by_cases hkR : k ≤ r.length
    · have hle : (k : Int) ≤ (r.length : Int) := by omega
      by_cases hpk : p < k
      · have e1 : decide (p < k) = true := decide_eq_true hpk
        rw [e1]
        rw [if_pos hpk] at hO
        have HO := Lib.hid hO; clear hO
        have Hb := Lib.hid hb; clear hb
        by_cases hlt : k < r.length
        · obtain ⟨x, hx⟩ : ∃ x, r[k]? = some x := ⟨r[k], by simp [hlt]⟩
          obtain ⟨b, off, rfl, hbl, c0, c1⟩ := Hcell.out wr Hb.out k x hx
          have hnx := put_hi (n := n) (Nat.le_of_lt hpk) hx
          have Hnx := Lib.hid hnx; clear hnx
          have Hx := Lib.hid hx; clear hx
          have hql : ((r.insertIdx p n).take (k + 1)).length = k + 1 := by rw [List.length_take, hQl]; omega
          have hql2 : ((r.insertIdx p n).take (k + 1 + 1)).length = k + 1 + 1 := by rw [List.length_take, hQl]; omega
          have Hown := HO.out.own
          rw [hql] at Hown
          have Ho := Lib.hid Hown; clear Hown
          go_wp2_with (at_builtin; (with_reducible refine etLe.wpList1 (Ho.out.alloc _) (heap_alloc_new _ _) rfl (by simp [Value.oneCell']) (by omega) (by unfold maxLen; omega) rfl (.tmp 80) (.tmp 85) rfl rfl rfl ?_); intro g1 cap1 w4 hown1 hgrow hat hlt1)
          go_roundw
          case rel =>
            refine ⟨k + 1, by go_num, by omega, by rw [decide_eq_true (by omega : p < k + 1)], ⟨?_, fun g hg => ?_⟩, ((Hb.out.alloc hsz _).grown hgrow (by simp; omega) (fun q hq => HO.out.2 q hq))⟩
            · rw [if_pos (by omega), hql2, Hnx.out, flatL_snoc]; exact hown1
            · simp only [Value.ownBlock, Option.some.injEq] at hg
              subst hg
              rcases hat with h | h
              · exact HO.out.2 _ h
              · simp at h; omega
          case measure => simp [intOf]; omega
        · obtain rfl : k = r.length := by omega
          go_wp2
          go_roundw
          case rel =>
            refine ⟨r.length + 1, by go_num, by omega, by rw [decide_eq_true (by omega : p < r.length + 1)], ?_, Hb.out⟩
            have h := HO.out
            rw [if_pos (by omega)]
            rw [List.take_of_length_le (by omega)] at h ⊢
            exact h
          case measure => simp [intOf]
      · have e1 : decide (p < k) = false := decide_eq_false hpk
        rw [e1]
        rw [if_neg hpk] at hO
        have HO := Lib.hid hO; clear hO
        have Hb := Lib.hid hb; clear hb
        have hql : ((r.insertIdx p n).take k).length = k := by rw [List.length_take, hQl]; omega
        have Hown := HO.out.own
        rw [hql] at Hown
        have Ho := Lib.hid Hown; clear Hown
        by_cases hkp : k < p
        · have hlt : k < r.length := by omega
          have hkr : ((k : Int) == (r.length : Int)) = false := by simp; omega
          obtain ⟨x, hx⟩ : ∃ x, r[k]? = some x := ⟨r[k], by simp [hlt]⟩
          obtain ⟨b, off, rfl, hbl, c0, c1⟩ := Hcell.out wr Hb.out k x hx
          have hxc : ¬ c < x.c := by have := Hlo.out k x hx hkp; omega
          have hnx := put_lo (n := n) hkp hx
          have Hnx := Lib.hid hnx; clear hnx
          have Hx := Lib.hid hx; clear hx
          have hql2 : ((r.insertIdx p n).take (k + 1)).length = k + 1 := by rw [List.length_take, hQl]; omega
          go_wp2_with (at_builtin; (with_reducible refine etLe.wpList1 (Ho.out.alloc _) (heap_alloc_new _ _) rfl (by simp [Value.oneCell']) (by omega) (by unfold maxLen; omega) rfl (.tmp 80) (.tmp 85) rfl rfl rfl ?_); intro g1 cap1 w4 hown1 hgrow hat hlt1)
          go_roundw
          case rel =>
            refine ⟨k + 1, by go_num, by omega, by rw [decide_eq_false (by omega : ¬ p < k + 1)], ⟨?_, fun g hg => ?_⟩, ((Hb.out.alloc hsz _).grown hgrow (by simp; omega) (fun q hq => HO.out.2 q hq))⟩
            · rw [if_neg (by omega), hql2, Hnx.out, flatL_snoc]; exact hown1
            · simp only [Value.ownBlock, Option.some.injEq] at hg
              subst hg
              rcases hat with h | h
              · exact HO.out.2 _ h
              · simp at h; omega
          case measure => simp [intOf]; omega
        · obtain rfl : k = p := by omega
          have hat0 := put_at (n := n) hp
          have Hat0 := Lib.hid hat0; clear hat0
          have hql2 : ((r.insertIdx k n).take (k + 1)).length = k + 1 := by rw [List.length_take, hQl]; omega
          have hql3 : ((r.insertIdx k n).take (k + 1 + 1)).length = min (k + 1 + 1) (r.length + 1) := by rw [List.length_take, hQl]
          by_cases hm : U < now + 10
          · have hMv : (⟨c, now + 10⟩ : Le) = n := by have := Hnn.out; have h2 := HM.out; rw [this, h2, show max U (now + 10) = now + 10 by omega]
            have HMv := Lib.hid hMv; clear hMv
            have ha1 : w3.heap.size ≤ (wr.alloc (.cells #[.int .i64 c, .int .i64 (now + 10)] 55)).heap.size := by simp; omega
            by_cases hlt : k < r.length
            · have hkr : ((k : Int) == (r.length : Int)) = false := by simp; omega
              obtain ⟨x, hx⟩ : ∃ x, r[k]? = some x := ⟨r[k], by simp [hlt]⟩
              obtain ⟨b, off, rfl, hbl, c0, c1⟩ := Hcell.out wr Hb.out k x hx
              have hxc : c < x.c := Hgt.out x hx
              have hnx := put_hi (n := n) (Nat.le_refl k) hx
              have Hnx := Lib.hid hnx; clear hnx
              have Hx := Lib.hid hx; clear hx
              go_wp2_with (first
                | (at_builtin; (with_reducible refine etLe.wpList1 (Ho.out.alloc _) (heap_alloc_new _ _) rfl (by simp [Value.oneCell']) (by omega) (by unfold maxLen; omega) rfl (.tmp 67) (.tmp 74) rfl rfl rfl ?_); intro g1 cap1 w4 hown1 hgrow hat hlt1; have hb4 := (Hb.out.alloc hsz _).grown hgrow ha1 (fun q hq => HO.out.2 q hq); obtain ⟨b', off', e', _, d0, d1⟩ := Hcell.out w4 hb4 k x Hx.out; cases e')
                | (at_builtin; (with_reducible refine etLe.wpList1 (hown1.alloc _) (heap_alloc_new _ _) rfl (by simp [Value.oneCell']) (by omega) (by unfold maxLen; omega) rfl (.tmp 80) (.tmp 85) rfl rfl rfl ?_); intro g2 cap2 w5 hown2 hgrow2 hat2 hlt2))
              have hz4 := hb4.size
              have hg1 : w3.heap.size ≤ g1 := by
                rcases hat with h | h
                · exact HO.out.2 _ h
                · simp at h; omega
              go_roundw
              case rel =>
                refine ⟨k + 1, by go_num, by omega, by rw [decide_eq_true (by omega : k < k + 1)], ⟨?_, fun g hg => ?_⟩, ((hb4.alloc hz4 _).grown hgrow2 (by simp; omega) (fun q hq => by simp only [Value.ownBlock, Option.some.injEq] at hq; exact hq ▸ hg1))⟩
                · rw [if_pos (by omega), hql3, Nat.min_eq_left (by omega), Hnx.out, Hat0.out, flatL_snoc, flatL_snoc, show encL n = encL _ from congrArg encL HMv.out.symm]; exact hown2
                · simp only [Value.ownBlock, Option.some.injEq] at hg
                  subst hg
                  rcases hat2 with h | h
                  · simp only [Value.ownBlock, Option.some.injEq] at h
                    exact h ▸ hg1
                  · simp at h; omega
              case measure => simp [intOf]; omega
            · obtain rfl : k = r.length := by omega
              go_wp2_with (at_builtin; (with_reducible refine etLe.wpList1 (Ho.out.alloc _) (heap_alloc_new _ _) rfl (by simp [Value.oneCell']) (by omega) (by unfold maxLen; omega) rfl (.tmp 67) (.tmp 74) rfl rfl rfl ?_); intro g1 cap1 w4 hown1 hgrow hat hlt1; have hb4 := (Hb.out.alloc hsz _).grown hgrow ha1 (fun q hq => HO.out.2 q hq))
              have hg1 : w3.heap.size ≤ g1 := by
                rcases hat with h | h
                · exact HO.out.2 _ h
                · simp at h; omega
              go_roundw
              case rel =>
                refine ⟨r.length + 1, by go_num, by omega, by rw [decide_eq_true (by omega : r.length < r.length + 1)], ⟨?_, fun g hg => ?_⟩, hb4⟩
                · rw [if_pos (by omega), hql3, Nat.min_eq_right (by omega), List.take_of_length_le (by omega), ← List.take_of_length_le (i := r.length + 1) (l := r.insertIdx r.length n) (by omega), Hat0.out, flatL_snoc, show encL n = encL _ from congrArg encL HMv.out.symm]; exact hown1
                · simp only [Value.ownBlock, Option.some.injEq] at hg
                  exact hg ▸ hg1
              case measure => simp [intOf]
          · have hMv : (⟨c, U⟩ : Le) = n := by have := Hnn.out; have h2 := HM.out; rw [this, h2, show max U (now + 10) = U by omega]
            have HMv := Lib.hid hMv; clear hMv
            have ha1 : w3.heap.size ≤ (wr.alloc (.cells #[.int .i64 c, .int .i64 (U)] 55)).heap.size := by simp; omega
            by_cases hlt : k < r.length
            · have hkr : ((k : Int) == (r.length : Int)) = false := by simp; omega
              obtain ⟨x, hx⟩ : ∃ x, r[k]? = some x := ⟨r[k], by simp [hlt]⟩
              obtain ⟨b, off, rfl, hbl, c0, c1⟩ := Hcell.out wr Hb.out k x hx
              have hxc : c < x.c := Hgt.out x hx
              have hnx := put_hi (n := n) (Nat.le_refl k) hx
              have Hnx := Lib.hid hnx; clear hnx
              have Hx := Lib.hid hx; clear hx
              go_wp2_with (first
                | (at_builtin; (with_reducible refine etLe.wpList1 (Ho.out.alloc _) (heap_alloc_new _ _) rfl (by simp [Value.oneCell']) (by omega) (by unfold maxLen; omega) rfl (.tmp 67) (.tmp 74) rfl rfl rfl ?_); intro g1 cap1 w4 hown1 hgrow hat hlt1; have hb4 := (Hb.out.alloc hsz _).grown hgrow ha1 (fun q hq => HO.out.2 q hq); obtain ⟨b', off', e', _, d0, d1⟩ := Hcell.out w4 hb4 k x Hx.out; cases e')
                | (at_builtin; (with_reducible refine etLe.wpList1 (hown1.alloc _) (heap_alloc_new _ _) rfl (by simp [Value.oneCell']) (by omega) (by unfold maxLen; omega) rfl (.tmp 80) (.tmp 85) rfl rfl rfl ?_); intro g2 cap2 w5 hown2 hgrow2 hat2 hlt2))
              have hz4 := hb4.size
              have hg1 : w3.heap.size ≤ g1 := by
                rcases hat with h | h
                · exact HO.out.2 _ h
                · simp at h; omega
              go_roundw
              case rel =>
                refine ⟨k + 1, by go_num, by omega, by rw [decide_eq_true (by omega : k < k + 1)], ⟨?_, fun g hg => ?_⟩, ((hb4.alloc hz4 _).grown hgrow2 (by simp; omega) (fun q hq => by simp only [Value.ownBlock, Option.some.injEq] at hq; exact hq ▸ hg1))⟩
                · rw [if_pos (by omega), hql3, Nat.min_eq_left (by omega), Hnx.out, Hat0.out, flatL_snoc, flatL_snoc, show encL n = encL _ from congrArg encL HMv.out.symm]; exact hown2
                · simp only [Value.ownBlock, Option.some.injEq] at hg
                  subst hg
                  rcases hat2 with h | h
                  · simp only [Value.ownBlock, Option.some.injEq] at h
                    exact h ▸ hg1
                  · simp at h; omega
              case measure => simp [intOf]; omega
            · obtain rfl : k = r.length := by omega
              go_wp2_with (at_builtin; (with_reducible refine etLe.wpList1 (Ho.out.alloc _) (heap_alloc_new _ _) rfl (by simp [Value.oneCell']) (by omega) (by unfold maxLen; omega) rfl (.tmp 67) (.tmp 74) rfl rfl rfl ?_); intro g1 cap1 w4 hown1 hgrow hat hlt1; have hb4 := (Hb.out.alloc hsz _).grown hgrow ha1 (fun q hq => HO.out.2 q hq))
              have hg1 : w3.heap.size ≤ g1 := by
                rcases hat with h | h
                · exact HO.out.2 _ h
                · simp at h; omega
              go_roundw
              case rel =>
                refine ⟨r.length + 1, by go_num, by omega, by rw [decide_eq_true (by omega : r.length < r.length + 1)], ⟨?_, fun g hg => ?_⟩, hb4⟩
                · rw [if_pos (by omega), hql3, Nat.min_eq_right (by omega), List.take_of_length_le (by omega), ← List.take_of_length_le (i := r.length + 1) (l := r.insertIdx r.length n) (by omega), Hat0.out, flatL_snoc, show encL n = encL _ from congrArg encL HMv.out.symm]; exact hown1
                · simp only [Value.ownBlock, Option.some.injEq] at hg
                  exact hg ▸ hg1
              case measure => simp [intOf]
    · obtain rfl : k = r.length + 1 := by omega
      have hle : ¬ ((r.length : Int) + 1 ≤ (r.length : Int)) := by omega
      rw [if_pos (by omega), List.take_of_length_le (by omega)] at hO
      have HO := Lib.hid hO; clear hO
      go_wp2
      go_ret2
      exact ⟨_, rfl, ⟨HO.out.own, fun g hg => Nat.le_trans hB3.size (HO.out.new g hg)⟩, hB3.trans (hb.mono hB3.size)⟩

theorem rrenew_calls (w : World) (v : Value) (l : List Le) (c now : Int) (h : Rd w 2 encL v l) (hn : l.length ≤ 8796093022208) :
    Calls Try.prog 34 #[v, .int .i64 c, .int .i64 now] w (RRenPost w (renOk c now l) (renR c now l)) := by
  rw [renR]
  cases hok : renOk c now l
  · rw [if_neg (by simp)]
    exact rrenew_no w v l c now h hn hok
  · rw [if_pos rfl]
    exact rrenew_ok w v l c now h hn hok
end Go.Proofs.Ytdkebkalcelgpaa.Lease
