/- Edits of spaces: edit.Right. -/
import Derived.Test.YtdfckkadmgmcaaaGreatDoorGi
import Derived.Deep.DeepCutAuto
namespace Go.Proofs.YtdfckkadmgmcaaaGreatDoor.Space
open Go.RowKit
open Path (Bs bs mk bs_mk mk_bs tl_bs MaxC splitE splitL parD)
open Tree
set_option linter.unusedSimpArgs false
set_option linter.unusedVariables false
set_option maxHeartbeats 4000000 in
theorem ein_calls (w : World) (n lo hi : Int) : Calls Tryz.prog 88 #[.int .i64 n, .int .i64 lo, .int .i64 hi] w fun e w' => e = .returned (.bool (inB n lo hi)) ∧ w' = w := by
  go_enter Tryz.func88, Tryz.ntmps88
  by_cases h1 : lo ≤ n
  · go_wp2_with (fail)
    go_ret
    exact ⟨by rw [inB, decide_eq_true h1]; rfl, rfl⟩
  · go_wp2_with (fail)
    go_ret
    exact ⟨by rw [inB, decide_eq_false (by omega)]; rfl, rfl⟩
set_option maxHeartbeats 4000000 in
theorem eodd_calls (w : World) (g : Nat) (n : Int) (hc : w.cell? ⟨g, 0, none⟩ = some (.func (.func 88) #[] #[])) : Calls Tryz.prog 89 #[.int .i64 n, .pointer (some ⟨g, 0, none⟩)] w fun e w' => e = .returned (.bool (!(lenB n))) ∧ Below w.heap.size w w' := by
  have hin := ein_calls w n 0 9007199254740991
  go_enter Tryz.func89, Tryz.ntmps89
  go_wp2_with (go_at_call 88; refine hin.mono ?_; rintro e1 w1 ⟨rfl, rfl⟩)
  go_ret
  exact ⟨rfl, Below.refl _ _⟩
theorem any_not (l : List Int) : (l.any fun n => !(lenB n)) = !(l.all lenB) := by
  induction l with
  | nil => rfl
  | cons a t ih => rw [List.any_cons, List.all_cons, ih, Bool.not_and]
theorem two_new (w : World) (o1 o2 : Obj) : Below w.heap.size w ((w.alloc o1).alloc o2) ∧ ((w.alloc o1).alloc o2).heap[w.heap.size]? = some o1 ∧ ((w.alloc o1).alloc o2).heap[w.heap.size + 1]? = some o2 := by
  refine ⟨((Below.refl _ _).alloc (Nat.le_refl _) _).alloc (by simp) _, (heap_alloc_old _ _ (by simp)).trans (heap_alloc_new _ _), ?_⟩
  have h1 := heap_alloc_new (w.alloc o1) o2
  have h2 : (w.alloc o1).heap.size = w.heap.size + 1 := by simp
  rw [h2] at h1; exact h1
/-- In what ways an edit's paths and lengths are right or not. -/
def Bad1 (e : Ed) : Prop := 120 < e.path.size ∨ ¬ 120 < e.path.size ∧ 120 < e.dst.size ∨ ¬ 120 < e.path.size ∧ ¬ 120 < e.dst.size ∧ e.kind ≠ 4 ∧ e.dst.toList.isEmpty = false
theorem dst_none {b : ByteArray} : b.toList.isEmpty = true ↔ b.size = 0 := by
  rw [tl_bs, List.isEmpty_iff, ← List.length_eq_zero_iff, Path.bs_len]
theorem bad1 {e : Ed} (h : Bad1 e) : editB e = false := by
  cases hh : editB e with
  | false => rfl
  | true =>
    have h' := (edit_iff e).1 hh
    rcases h with h | ⟨_, h⟩ | ⟨_, _, h, h2⟩
    · have := h'.path; omega
    · have := h'.dst; omega
    · have h3 := h'.none h
      rw [dst_none.2 h3] at h2; cases h2
theorem rest_ways (e : Ed) (B : Bool) (hB : B = editB e) (hk : 1 ≤ e.kind ∧ e.kind ≤ 10) (h1 : ¬ Bad1 e) (h2 : (e.kind = 5 ∨ e.kind = 6) ∧ ¬ 8 < e.lens.length ∨ (e.kind ≠ 5 ∧ e.kind ≠ 6) ∧ e.lens.length = 0) :
    inB e.client 0 3 = false ∧ B = false ∨
    inB e.client 0 3 = true ∧ inB e.call 0 9007199254740991 = false ∧ B = false ∨
    inB e.client 0 3 = true ∧ inB e.call 0 9007199254740991 = true ∧ inB e.n (leastE e.kind) (mostE e.kind) = false ∧ B = false ∨
    inB e.client 0 3 = true ∧ inB e.call 0 9007199254740991 = true ∧ inB e.n (leastE e.kind) (mostE e.kind) = true ∧ B = e.lens.all lenB := by
  have a1 : ¬ 120 < e.path.size := fun h => h1 (.inl h)
  have a2 : ¬ 120 < e.dst.size := fun h => h1 (.inr (.inl ⟨a1, h⟩))
  have a3 : e.kind = 4 ∨ e.dst.size = 0 := by
    by_cases h4 : e.kind = 4
    · exact .inl h4
    · right
      cases hd : e.dst.toList.isEmpty
      · exact absurd (.inr (.inr ⟨a1, a2, h4, hd⟩)) h1
      · exact dst_none.1 hd
  have e1 : editB e = (inB e.client 0 3 && inB e.call 0 9007199254740991 && inB e.n (leastE e.kind) (mostE e.kind) && e.lens.all lenB) := by
    have b1 : decide (1 ≤ e.kind) = true := decide_eq_true hk.1
    have b2 : decide (e.kind ≤ 10) = true := decide_eq_true hk.2
    have b3 : decide (e.path.size ≤ 120) = true := decide_eq_true (by omega)
    have b4 : decide (e.dst.size ≤ 120) = true := decide_eq_true (by omega)
    have b5 : (decide (e.kind = 4) || decide (e.dst.size = 0)) = true := by simpa using a3
    have b6 : (decide (e.kind = 5) || decide (e.kind = 6) || decide (e.lens.length = 0)) = true := by
      rcases h2 with ⟨h | h, _⟩ | ⟨_, h⟩
      · rw [decide_eq_true h]; rfl
      · rw [decide_eq_true h]; simp
      · rw [decide_eq_true h]; simp
    have b7 : decide (e.lens.length ≤ 8) = true := decide_eq_true (by rcases h2 with ⟨_, h⟩ | ⟨_, h⟩ <;> omega)
    rw [editB, b1, b2, b3, b4, b5, b6, b7]
    rfl
  rw [hB, e1]
  cases inB e.client 0 3
  · exact .inl ⟨rfl, rfl⟩
  cases inB e.call 0 9007199254740991
  · exact .inr (.inl ⟨rfl, rfl, rfl⟩)
  cases inB e.n (leastE e.kind) (mostE e.kind)
  · exact .inr (.inr (.inl ⟨rfl, rfl, rfl, rfl⟩))
  · exact .inr (.inr (.inr ⟨rfl, rfl, rfl, rfl⟩))
set_option maxRecDepth 8000 in
set_option maxHeartbeats 8000000 in
theorem edit_calls (w : World) (e : Ed) (h : Rd w 1 encI e.lv e.lens) (hn : e.lens.length ≤ 17592186044416) : Calls Tryz.prog 46 #[.agg (edC e)] w fun e' w' => e' = .returned (.bool (editB e)) ∧ Below w.heap.size w w' := by
  obtain ⟨al, cl, hlv, -, hlc⟩ := Lease.rd_cellsI h
  obtain ⟨m, hm⟩ : ∃ m, m = e.lens.length := ⟨_, rfl⟩
  rw [← hm] at hlv hn
  have Hh := Lib.hid h; have Hlc := Lib.hid hlc; have Hm := Lib.hid hm
  obtain ⟨B, hB⟩ : ∃ B, B = editB e := ⟨_, rfl⟩
  rw [← hB]
  have HB := Lib.hid hB; have Hlv := Lib.hid hlv
  clear hB h hlc hm
  go_enter Tryz.func46, Tryz.ntmps46
  rw [edC, hlv]
  clear hlv
  go_upto_block 0 with (fail)
  go_cut [4, 5] (fun a b wx => ∃ W L M, W = wx ∧ (1 ≤ e.kind ∧ e.kind ≤ 10) ∧ a = .int .i64 L ∧ b = .int .i64 M ∧ L = leastE e.kind ∧ M = mostE e.kind ∧ Below w.heap.size w W ∧ W.heap[w.heap.size]? = some (.cells #[.int .i64 e.kind, .string e.path, .string e.dst, .int .i64 e.client, .int .i64 e.call, .int .i64 e.n, .slice al m cl] 42 (0, 0)) ∧ ∃ T, W.heap[w.heap.size + 1]? = some (.cells #[.func (.func 88) #[] #[]] T (0, 0)))
  case first =>
    by_cases hk : 1 ≤ e.kind ∧ e.kind ≤ 10
    · have hc : e.kind = 1 ∨ e.kind = 2 ∨ e.kind = 3 ∨ e.kind = 4 ∨ e.kind = 5 ∨ e.kind = 6 ∨ e.kind = 7 ∨ e.kind = 8 ∨ e.kind = 9 ∨ e.kind = 10 := by omega
      have Hk := Lib.hid hk
      clear hk
      rcases hc with k | k | k | k | k | k | k | k | k | k
      all_goals
        go_wp2_with (fail)
        go_meet
        exact ⟨_, _, _, rfl, Hk.out, rfl, rfl, by rw [k]; rfl, by rw [k]; rfl, (two_new w _ _).1, (two_new w _ _).2.1.trans (by rw [k]), _, (two_new w _ _).2.2⟩
    · have hB : B = false := by
        cases hh : editB e with
        | false => rw [HB.out, hh]
        | true => exact absurd ((edit_iff e).1 hh).kind hk
      have q1 : (e.kind == 1) = false := by simp; omega
      have q2 : (e.kind == 2) = false := by simp; omega
      have q3 : (e.kind == 3) = false := by simp; omega
      have q4 : (e.kind == 4) = false := by simp; omega
      have q5 : (e.kind == 5) = false := by simp; omega
      have q6 : (e.kind == 6) = false := by simp; omega
      have q7 : (e.kind == 7) = false := by simp; omega
      have q8 : (e.kind == 8) = false := by simp; omega
      have q9 : (e.kind == 9) = false := by simp; omega
      have q10 : (e.kind == 10) = false := by simp; omega
      have HB2 := Lib.hid hB
      clear hk hB
      go_wp2_with (fail)
      go_ret
      exact ⟨by rw [HB2.out]; rfl, (two_new w _ _).1⟩
  case rest =>
    obtain ⟨W, L, M, hW, hk, rfl, rfl, hL, hM, hb, hk0, T, hT⟩ := hcut
    subst hW
    have hk1 : W.cell? ⟨w.heap.size + 1, 0, none⟩ = some (.func (.func 88) #[] #[]) := cell_of_blk hT
    have HT := Lib.hid hT; clear hT
    have a0 : W.cell? ⟨w.heap.size, 0, none⟩ = some (.int .i64 e.kind) := cell_of_blk hk0
    have a1 : W.cell? ⟨w.heap.size, 1, none⟩ = some (.string e.path) := cell_of_blk hk0
    have a2 : W.cell? ⟨w.heap.size, 2, none⟩ = some (.string e.dst) := cell_of_blk hk0
    have a3 : W.cell? ⟨w.heap.size, 3, none⟩ = some (.int .i64 e.client) := cell_of_blk hk0
    have a4 : W.cell? ⟨w.heap.size, 4, none⟩ = some (.int .i64 e.call) := cell_of_blk hk0
    have a5 : W.cell? ⟨w.heap.size, 5, none⟩ = some (.int .i64 e.n) := cell_of_blk hk0
    have a6 : W.cell? ⟨w.heap.size, 6, none⟩ = some (.slice al m cl) := cell_of_blk hk0
    have HL := Lib.hid hL; have HM := Lib.hid hM; have Hb := Lib.hid hb; have Hk := Lib.hid hk
    clear hL hM hb hk hk0
    by_cases hp : 120 < e.path.size
    · have qp : decide ((120 : Int) < (e.path.size : Int)) = true := decide_eq_true (by omega)
      have HB2 := Lib.hid (HB.out.trans (bad1 (.inl hp)))
      clear HB
      go_wp2_with (fail)
      go_ret
      exact ⟨by rw [HB2.out]; rfl, Hb.out⟩
    · have qp : decide ((120 : Int) < (e.path.size : Int)) = false := decide_eq_false (by omega)
      by_cases hd : 120 < e.dst.size
      · have qd : decide ((120 : Int) < (e.dst.size : Int)) = true := decide_eq_true (by omega)
        have HB2 := Lib.hid (HB.out.trans (bad1 (.inr (.inl ⟨hp, hd⟩))))
        clear HB
        go_wp2_with (fail)
        go_ret
        exact ⟨by rw [HB2.out]; rfl, Hb.out⟩
      · have qd : decide ((120 : Int) < (e.dst.size : Int)) = false := decide_eq_false (by omega)
        have hhas := hasI1_calls W 89 (.pointer (some ⟨w.heap.size + 1, 0, none⟩)) (fun n => !(lenB n)) e.lv e.lens (enters Tryz.func89 (by kernel_rfl) rfl) (fun W' hW' y hy => eodd_calls W' (w.heap.size + 1) y ((hW'.cell (p := ⟨w.heap.size + 1, 0, none⟩) (lt_of_block HT.out)).trans hk1)) (Hh.out.below Hb.out (Nat.le_refl _)) (by have := Hm.out; omega)
        rw [Hlv.out, any_not] at hhas
        have Hhas := Lib.hid hhas
        clear hhas
        by_cases k4 : e.kind = 4
        · have hnb : ¬ Bad1 e := fun h => by
            rcases h with h | ⟨_, h⟩ | ⟨_, _, h, _⟩
            · exact hp h
            · exact hd h
            · exact h k4
          by_cases hz : m = 0; (focus (have hz' : decide ((0 : Int) < (m : Int)) = false := decide_eq_false (by omega)); (have hz3 : decide (0 < m) = false := decide_eq_false (by omega)); (have hz2 : decide ((8 : Int) < (m : Int)) = false := decide_eq_false (by omega)); rcases rest_ways e B HB.out Hk.out hnb (by have := Hm.out; omega) with ⟨c1, cB⟩ | ⟨c1, c2, cB⟩ | ⟨c1, c2, c3, cB⟩ | ⟨c1, c2, c3, cB⟩; all_goals ((try clear hz); (try rw [← HL.out, ← HM.out] at c3); (have HB2 := Lib.hid cB); (clear HB hnb cB); (go_wp2_with (first | (go_at_call 88; (refine (ein_calls _ _ _ _).mono ?_); rintro e1 w1 ⟨rfl, rfl⟩) | (go_at_call 90; (refine Hhas.out.mono ?_); rintro e2 w2 ⟨rfl, hb2⟩))); go_ret; (first | exact ⟨by rw [HB2.out]; rfl, Hb.out⟩ | exact ⟨by rw [HB2.out, ← Bool.not_not (e.lens.all lenB)]; rfl, Hb.out.trans (hb2.mono Hb.out.size)⟩))); ((have hz' : decide ((0 : Int) < (m : Int)) = true := decide_eq_true (by omega)); (have hz3 : decide (0 < m) = true := decide_eq_true (by omega)); (have HB2 : Hid (B = false) := Lib.hid (by rw [HB.out]; cases hh : editB e with | false => rfl | true => (have h' := (edit_iff e).1 hh; (have := h'.lens (by omega) (by omega)); (have := Hm.out); omega))); (clear HB hnb); (go_wp2_with (fail)); go_ret; (exact ⟨by rw [HB2.out]; rfl, Hb.out⟩))
        · cases hs : e.dst.toList.isEmpty
          · have HB2 := Lib.hid (HB.out.trans (bad1 (.inr (.inr ⟨hp, hd, k4, hs⟩))))
            have k4' : (e.kind != 4) = true := by simpa using k4
            clear HB
            go_wp2_with (fail)
            go_ret
            exact ⟨by rw [HB2.out]; rfl, Hb.out⟩
          · have hnb : ¬ Bad1 e := fun h => by
              rcases h with h | ⟨_, h⟩ | ⟨_, _, h, h2⟩
              · exact hp h
              · exact hd h
              · rw [hs] at h2; cases h2
            by_cases k5 : e.kind = 5
            · by_cases hz : 8 < m; (focus (have hz' : decide ((8 : Int) < (m : Int)) = true := decide_eq_true (by omega)); (have HB2 : Hid (B = false) := Lib.hid (by rw [HB.out]; cases hh : editB e with | false => rfl | true => (have h' := (edit_iff e).1 hh; (have := h'.many); (have := Hm.out); omega))); (clear HB hnb); (go_wp2_with (fail)); go_ret; (exact ⟨by rw [HB2.out]; rfl, Hb.out⟩)); ((have hz' : decide ((8 : Int) < (m : Int)) = false := decide_eq_false (by omega)); rcases rest_ways e B HB.out Hk.out hnb (by have := Hm.out; omega) with ⟨c1, cB⟩ | ⟨c1, c2, cB⟩ | ⟨c1, c2, c3, cB⟩ | ⟨c1, c2, c3, cB⟩; all_goals ((try clear hz); (try rw [← HL.out, ← HM.out] at c3); (have HB2 := Lib.hid cB); (clear HB hnb cB); (go_wp2_with (first | (go_at_call 88; (refine (ein_calls _ _ _ _).mono ?_); rintro e1 w1 ⟨rfl, rfl⟩) | (go_at_call 90; (refine Hhas.out.mono ?_); rintro e2 w2 ⟨rfl, hb2⟩))); go_ret; (first | exact ⟨by rw [HB2.out]; rfl, Hb.out⟩ | exact ⟨by rw [HB2.out, ← Bool.not_not (e.lens.all lenB)]; rfl, Hb.out.trans (hb2.mono Hb.out.size)⟩)))
            · have k5' : (e.kind != 5) = true := by simpa using k5
              by_cases k6 : e.kind = 6
              · by_cases hz : 8 < m; (focus (have hz' : decide ((8 : Int) < (m : Int)) = true := decide_eq_true (by omega)); (have HB2 : Hid (B = false) := Lib.hid (by rw [HB.out]; cases hh : editB e with | false => rfl | true => (have h' := (edit_iff e).1 hh; (have := h'.many); (have := Hm.out); omega))); (clear HB hnb); (go_wp2_with (fail)); go_ret; (exact ⟨by rw [HB2.out]; rfl, Hb.out⟩)); ((have hz' : decide ((8 : Int) < (m : Int)) = false := decide_eq_false (by omega)); rcases rest_ways e B HB.out Hk.out hnb (by have := Hm.out; omega) with ⟨c1, cB⟩ | ⟨c1, c2, cB⟩ | ⟨c1, c2, c3, cB⟩ | ⟨c1, c2, c3, cB⟩; all_goals ((try clear hz); (try rw [← HL.out, ← HM.out] at c3); (have HB2 := Lib.hid cB); (clear HB hnb cB); (go_wp2_with (first | (go_at_call 88; (refine (ein_calls _ _ _ _).mono ?_); rintro e1 w1 ⟨rfl, rfl⟩) | (go_at_call 90; (refine Hhas.out.mono ?_); rintro e2 w2 ⟨rfl, hb2⟩))); go_ret; (first | exact ⟨by rw [HB2.out]; rfl, Hb.out⟩ | exact ⟨by rw [HB2.out, ← Bool.not_not (e.lens.all lenB)]; rfl, Hb.out.trans (hb2.mono Hb.out.size)⟩)))
              · have k4' : (e.kind != 4) = true := by simpa using k4
                have k6' : (e.kind != 6) = true := by simpa using k6
                by_cases hz : m = 0; (focus (have hz' : decide ((0 : Int) < (m : Int)) = false := decide_eq_false (by omega)); (have hz3 : decide (0 < m) = false := decide_eq_false (by omega)); (have hz2 : decide ((8 : Int) < (m : Int)) = false := decide_eq_false (by omega)); rcases rest_ways e B HB.out Hk.out hnb (by have := Hm.out; omega) with ⟨c1, cB⟩ | ⟨c1, c2, cB⟩ | ⟨c1, c2, c3, cB⟩ | ⟨c1, c2, c3, cB⟩; all_goals ((try clear hz); (try rw [← HL.out, ← HM.out] at c3); (have HB2 := Lib.hid cB); (clear HB hnb cB); (go_wp2_with (first | (go_at_call 88; (refine (ein_calls _ _ _ _).mono ?_); rintro e1 w1 ⟨rfl, rfl⟩) | (go_at_call 90; (refine Hhas.out.mono ?_); rintro e2 w2 ⟨rfl, hb2⟩))); go_ret; (first | exact ⟨by rw [HB2.out]; rfl, Hb.out⟩ | exact ⟨by rw [HB2.out, ← Bool.not_not (e.lens.all lenB)]; rfl, Hb.out.trans (hb2.mono Hb.out.size)⟩))); ((have hz' : decide ((0 : Int) < (m : Int)) = true := decide_eq_true (by omega)); (have hz3 : decide (0 < m) = true := decide_eq_true (by omega)); (have HB2 : Hid (B = false) := Lib.hid (by rw [HB.out]; cases hh : editB e with | false => rfl | true => (have h' := (edit_iff e).1 hh; (have := h'.lens (by omega) (by omega)); (have := Hm.out); omega))); (clear HB hnb); (go_wp2_with (fail)); go_ret; (exact ⟨by rw [HB2.out]; rfl, Hb.out⟩))
end Go.Proofs.YtdfckkadmgmcaaaGreatDoor.Space
