/- Quotas: the document's Count, Over, Room. -/
import Derived.Test.YtgpddngbccecfaaDoorQd
import Derived.Lib.QuietBelow
namespace Go.Proofs.YtgpddngbccecfaaDoor.Quota
open Go.RowKit
open Path (Bs bs mk bs_mk mk_bs tl_bs splitE splitL MaxC parD parE parN underL under_iff under_anti OwnS flatS flatS_snoc etS)
open Tree
set_option linter.unusedSimpArgs false
set_option linter.unusedVariables false

theorem own_lt' {w : World} {base e size n : Nat} {v : Value} {xs : List Value} (h : w.ownsRow base e size v n xs) (g : Nat) (hg : v.ownBlock = some g) : g < w.heap.size := by
  rcases h.2 with ⟨rfl, _⟩ | ⟨g', cap, cur, rfl, _, hgg, _⟩
  · simp [Value.ownBlock] at hg
  · have : g' = g := by simpa [Value.ownBlock] using hg
    subst this
    exact lt_of_block hgg
theorem ownS_below {w w' w'' : World} {v : Value} {q : List ByteArray} (h : OwnS w w' v q) (hb : Below w'.heap.size w' w'') : OwnS w w'' v q :=
  ⟨below_ownsRow hb h.own (fun g hg => own_lt' h.own g hg), h.new⟩
theorem cntT_no {l : List Nd} (h : rightT l = false) (p : Bs) : cntT l p = 0 := by rw [cntT, h]; rfl
theorem cntT_yes {l : List Nd} (h : rightT l = true) (p : Bs) : cntT l p = cntN l p := by rw [cntT, if_pos h]

set_option maxHeartbeats 4000000 in
theorem rcount_calls (w : World) (v : Value) (l : List Nd) (p : ByteArray) (h : RdN w v l) (hn : l.length ≤ 8796093022208) :
    Calls Tryd.prog 52 #[v, .string p] w fun e w' => e = .returned (.int .i64 (cntT l (bs p))) ∧ Below w.heap.size w w' := by
  have h1 := rright_calls w v l h hn
  obtain ⟨ao, cap, rfl, hcap, _, hcell⟩ := rd_cellsN h.rd
  have Hcell := Lib.hid hcell
  clear h hcell
  cases hr : rightT l
  · rw [hr] at h1
    have Hc := Lib.hid (cntT_no hr (bs p))
    clear hr
    go_enter Tryd.func52, Tryd.ntmps52
    go_wp2_with (fail)
    refine h1.mono ?_
    rintro e w1 ⟨rfl, hb1⟩
    go_wp2_with (fail)
    go_loopw [6, 7] (fun vn vk wr => vk = .int .i64 ((0 : Nat) : Int) ∧ vn = .int .i64 ((0 : Nat) : Int) ∧ wr = w1) (fun _ _ _ => 0)
    case atStart => exact ⟨rfl, rfl, rfl⟩
    case round =>
      obtain ⟨rfl, rfl, rfl⟩ := hrel
      by_cases hz : 0 < l.length
      all_goals
        go_wp2_with (fail)
        go_ret
        exact ⟨by rw [Hc.out]; rfl, hb1⟩
  · rw [hr] at h1
    have Hc := Lib.hid (cntT_yes hr (bs p))
    obtain ⟨hl1, hl60, _⟩ := right_node hr
    clear hr
    go_enter Tryd.func52, Tryd.ntmps52
    go_wp2_with (fail)
    refine h1.mono ?_
    rintro e w1 ⟨rfl, hb1⟩
    go_wp2_with (fail)
    go_loopw [6, 7] (fun vn vk wr => ∃ k : Nat, vk = .int .i64 k ∧ k ≤ l.length ∧ vn = .int .i64 (cntN (l.take k) (bs p)) ∧ Below w.heap.size w wr) (fun _ vk _ => l.length - (intOf vk).toNat)
    case atStart => exact ⟨0, rfl, Nat.zero_le _, rfl, hb1⟩
    case round =>
      obtain ⟨k, rfl, hk, rfl, hb⟩ := hrel
      have hc60 : cntN (l.take k) (bs p) ≤ 60 := Nat.le_trans (cnt_le _ _) (Nat.le_trans (List.length_take_le _ _) (by omega))
      by_cases hlt : k < l.length
      · obtain ⟨x, hx⟩ : ∃ x, l[k]? = some x := ⟨l[k], by simp [hlt]⟩
        obtain ⟨b, off, rfl, hlb, d0, d1, d2, d3, d4⟩ := Hcell.out wr hb k x hx
        have hu := Path.runder_calls wr p x.path
        have hcn := cnt_next hx (bs p)
        generalize cntN (l.take k) (bs p) = c at *
        generalize hc1 : cntN (l.take (k + 1)) (bs p) = c1 at *
        have Hc1 := Lib.hid hc1
        clear hx hc1
        cases hq : underL (bs p) (bs x.path)
        · rw [hq] at hu hcn
          rw [if_neg (by simp)] at hcn
          have Hcn := Lib.hid hcn
          clear hq hcn
          go_wp2_with (fail)
          refine hu.mono ?_
          rintro e w2 ⟨rfl, hb2⟩
          go_wp2_with (fail)
          go_roundw
          case rel => exact ⟨k + 1, by go_num, by omega, by rw [Hc1.out, Hcn.out]; rfl, hb.trans (hb2.mono hb.size)⟩
          case measure => simp [intOf]; omega
        · rw [hq] at hu hcn
          rw [if_pos rfl] at hcn
          have Hcn := Lib.hid hcn
          clear hq hcn
          go_wp2_with (fail)
          refine hu.mono ?_
          rintro e w2 ⟨rfl, hb2⟩
          go_wp2_with (fail)
          go_roundw
          case rel => exact ⟨k + 1, by go_num, by omega, by rw [Hc1.out, Hcn.out]; go_num, hb.trans (hb2.mono hb.size)⟩
          case measure => simp [intOf]; omega
      · obtain rfl : k = l.length := by omega
        have hcc : cntN (l.take l.length) (bs p) = cntN l (bs p) := by rw [List.take_length]
        have Hcc := Lib.hid hcc
        clear hcc
        go_wp2_with (fail)
        go_ret
        exact ⟨by rw [Hc.out, ← Hcc.out]; rfl, hb⟩

set_option maxRecDepth 4000 in
set_option maxHeartbeats 8000000 in
theorem rover_calls (w : World) (v : Value) (l : List Nd) (h : RdN w v l) (hn : l.length ≤ 8796093022208) :
    Calls Tryd.prog 32 #[v] w fun e w' => ∃ v', e = .returned v' ∧ OwnS w w' v' (overL l) ∧ Below w.heap.size w w' := by
  have h1 := rright_calls w v l h hn
  have hcnt : ∀ W, Below w.heap.size w W → ∀ p : ByteArray, _ := fun W hW p => rcount_calls W v l p (h.below hW) hn
  obtain ⟨ao, cap, rfl, hcap, _, hcell⟩ := rd_cellsN h.rd
  have Hcell := Lib.hid hcell; have Hcnt := Lib.hid hcnt
  clear h hcell hcnt
  cases hr : rightT l
  · rw [overL, hr, if_neg (by simp)]
    rw [hr] at h1
    clear hr
    go_enter Tryd.func32, Tryd.ntmps32
    go_wp2_with (fail)
    refine h1.mono ?_
    rintro e w1 ⟨rfl, hb1⟩
    go_wp2_with (fail)
    go_loopw [4, 5] (fun vo vk wr => vk = .int .i64 ((0 : Nat) : Int) ∧ vo = .slice none 0 0 ∧ wr = w1) (fun _ _ _ => 0)
    case atStart => exact ⟨rfl, rfl, rfl⟩
    case round =>
      obtain ⟨rfl, rfl, rfl⟩ := hrel
      by_cases hz : 0 < l.length
      all_goals
        go_wp2_with (fail)
        go_ret
        exact ⟨_, rfl, OwnS.nil _ _, hb1⟩
  · obtain ⟨hl1, hl60, _⟩ := right_node hr
    rw [hr] at h1
    have Hr := Lib.hid hr
    clear hr
    go_enter Tryd.func32, Tryd.ntmps32
    go_wp2_with (fail)
    refine h1.mono ?_
    rintro e w1 ⟨rfl, hb1⟩
    go_wp2_with (fail)
    go_loopw [4, 5] (fun vo vk wr => ∃ k : Nat, vk = .int .i64 k ∧ k ≤ l.length ∧ OwnS w wr vo (fst l k) ∧ Below w.heap.size w wr) (fun _ vk _ => l.length - (intOf vk).toNat)
    case atStart => exact ⟨0, rfl, Nat.zero_le _, OwnS.nil _ _, hb1⟩
    case round =>
      obtain ⟨k, rfl, hk, hO, hb⟩ := hrel
      have HO := Lib.hid hO; clear hO
      have hsz := hb.size
      by_cases hlt : k < l.length
      · obtain ⟨x, hx⟩ : ∃ x, l[k]? = some x := ⟨l[k], by simp [hlt]⟩
        obtain ⟨b, off, rfl, hlb, d0, d1, d2, d3, d4⟩ := Hcell.out wr hb k x hx
        have hlen := fst_len l k
        have hways := over_ways l x
        have hq := quota_bd Hr.out (List.mem_of_getElem? hx)
        have Hf0 := Lib.hid fun h => fst_no hx (l := l) h
        have Hf1 := Lib.hid fun h => fst_yes hx (l := l) h
        have hc60 := cnt_le l (bs x.path)
        have hcc := fun W hW => Hcnt.out W hW x.path
        rw [cntT_yes Hr.out] at hcc
        generalize cntN l (bs x.path) = c at *
        have cF := fun d os => Calls.regrown_of (hcc _ (hb.trans ((below_regrown wr d os).mono hsz)))
        have e0 := cell_regrown d0
        have e1 := cell_regrown d1
        have e2 := cell_regrown d2
        have Hx := Lib.hid hx
        clear hx hcc
        rcases hways with ⟨c0, c1⟩ | ⟨c0, c1, c2⟩ | ⟨c0, c1, c2, c3⟩ | ⟨c0, c1, c2, c3⟩
        rotate_right
        focus
          rw [c1] at e1 d1
          have Hc0 := Lib.hid c0
          clear c0 c1
          go_wp2_with (fail)
          refine wp_region_quiet_below (by kernel_rfl) (by kernel_rfl) ?_; (repeat (go_big_quiet_step ((exact cF _ _)))); refine wpQuiet_nil ?_; intro _ hw'; obtain ⟨⟨dq, osq⟩, hw''⟩ := hw'; subst hw''
          have hbq := hb.trans ((below_regrown wr dq osq).mono hsz)
          have hOq := ownS_below HO.out (below_regrown wr dq osq)
          have g0 := e0 dq osq
          clear d0 d1 d2 d3 d4 e0 e1 e2 cF
          generalize Go.Sort.grow (redrawn wr dq) osq = wq at *
          have hown := hOq.own
          generalize hw : (fst l k).length = n1 at *
          have HW := Lib.hid hown; have Hw := Lib.hid hw; have HOn := Lib.hid hOq.new
          have hbsz := hbq.size
          clear hown hw hOq
          go_wp2_with (at_builtin; (with_reducible refine etS.wpList1 (HW.out.alloc _) (heap_alloc_new _ _) rfl (by simp [Value.oneCell']) (by omega) (by unfold maxLen; omega) rfl (.tmp 45) (.tmp 51) rfl rfl rfl ?_); intro g1 cap1 w2 hown1 hgrow hat hlt1)
          go_roundw
          case rel =>
            refine ⟨k + 1, by go_num, by omega, ?_, (hbq.alloc hbsz _).grown hgrow (by simp; omega) (fun q hq => HOn.out q hq)⟩
            rw [Hf1.out Hc0.out]
            refine ⟨?_, fun g hg => ?_⟩
            · rw [List.length_append, Hw.out, flatS_snoc]
              exact hown1
            · simp only [Value.ownBlock, Option.some.injEq] at hg
              subst hg
              rcases hat with h | h
              · exact HOn.out _ h
              · simp at h; omega
          case measure => simp [intOf]; omega
        all_goals
          rw [c1] at e1 d1
          have Hc0 := Lib.hid c0
          clear c0 c1
          try have c2' : decide (0 ≤ x.quota) = false := decide_eq_false c2
          go_wp2_with (fail)
          refine wp_region_quiet_below (by kernel_rfl) (by kernel_rfl) ?_; (repeat (go_big_quiet_step ((exact cF _ _)))); refine wpQuiet_nil ?_; intro _ hw'; obtain ⟨⟨dq, osq⟩, hw''⟩ := hw'; subst hw''
          go_wp2_with (fail)
          go_roundw
          case rel => exact ⟨k + 1, by go_num, by omega, by rw [Hf0.out Hc0.out]; exact ownS_below HO.out (below_regrown wr dq osq), hb.trans ((below_regrown wr dq osq).mono hsz)⟩
          case measure => simp [intOf]; omega
      · obtain rfl : k = l.length := by omega
        go_wp2_with (fail)
        go_ret
        refine ⟨_, rfl, ?_, hb⟩
        have hO := HO.out
        rw [fst, List.take_length] at hO
        rw [overL, if_pos Hr.out]
        exact hO
end Go.Proofs.YtgpddngbccecfaaDoor.Quota
