/- Quotas: the document's Room. -/
import Derived.Test.YtbgeiebfjlgcmaaDoorQe
namespace Go.Proofs.YtbgeiebfjlgcmaaDoor.Quota
open Go.RowKit
open Path (Bs bs mk bs_mk mk_bs tl_bs splitE splitL MaxC parD parE parN underL under_iff under_anti OwnS flatS flatS_snoc etS)
open Tree
set_option linter.unusedSimpArgs false
set_option linter.unusedVariables false

set_option maxHeartbeats 4000000 in
theorem rroom_no (w : World) (v : Value) (l : List Nd) (p : ByteArray) (h : RdN w v l) (hn : l.length ≤ 8796093022208) (hd : (rightT l = true ∧ dirAt l (bs p) = true) → False) :
    Calls Tryd.prog 30 #[v, .string p] w fun e w' => e = .returned (.int .i64 0) ∧ Below w.heap.size w w' := by
  have h1 := rright_calls w v l h hn
  have h2 : ∀ W, Below w.heap.size w W → _ := fun W hW => rfind_calls W v l p (h.below hW).rd hn
  have hff := find_facts (bs p) l
  obtain ⟨ao, cap, rfl, hcap, _, hcell⟩ := rd_cellsN h.rd
  have H2 := Lib.hid h2; have Hcell := Lib.hid hcell; have Hff := Lib.hid hff
  clear h h2 hcell hff
  generalize findI (bs p) l = fi at *
  cases hr : rightT l
  · rw [hr] at h1
    clear hr hd
    go_enter Tryd.func30, Tryd.ntmps30
    go_wp2_with (fail)
    refine h1.mono ?_
    rintro e w1 ⟨rfl, hb1⟩
    go_wp2_with (fail)
    go_ret
    exact ⟨rfl, hb1⟩
  · rw [hr] at h1
    go_enter Tryd.func30, Tryd.ntmps30
    go_wp2_with (fail)
    refine h1.mono ?_
    rintro e w1 ⟨rfl, hb1⟩
    clear h1
    go_wp2_with (fail)
    refine (H2.out w1 hb1).mono ?_
    rintro e w2 ⟨rfl, hb2⟩
    have hbw := hb1.trans (hb2.mono hb1.size)
    rcases Hff.out with ⟨rfl, _⟩ | ⟨i, x, rfl, hx, hf⟩
    · clear hr hd Hff
      go_wp2_with (fail)
      go_ret
      exact ⟨rfl, hbw⟩
    · have hxd : x.dir = false := by
        cases hdd : x.dir
        · rfl
        · exact (hd ⟨hr, by rw [dirAt, hf]; exact hdd⟩).elim
      obtain ⟨b, off, rfl, hlb, d0, d1, d2, d3, d4⟩ := Hcell.out w2 hbw i x hx
      rw [hxd] at d1
      have hil := (List.getElem?_eq_some_iff.1 hx).1
      have hi0 : ¬ (i : Int) < 0 := by omega
      clear hr hd Hff hx hf hxd
      go_wp2_with (fail)
      go_ret
      exact ⟨rfl, hbw⟩

set_option maxRecDepth 4000 in
set_option maxHeartbeats 8000000 in
theorem rroom_yes (w : World) (v : Value) (l : List Nd) (p : ByteArray) (h : RdN w v l) (hn : l.length ≤ 8796093022208) (hr : rightT l = true) (hd : dirAt l (bs p) = true) :
    Calls Tryd.prog 30 #[v, .string p] w fun e w' => e = .returned (.int .i64 (max (roomK l (bs p) l.length) 0)) ∧ Below w.heap.size w w' := by
  have h1 := rright_calls w v l h hn
  have h2 : ∀ W, Below w.heap.size w W → _ := fun W hW => rfind_calls W v l p (h.below hW).rd hn
  have hcnt : ∀ W, Below w.heap.size w W → ∀ p : ByteArray, _ := fun W hW p => rcount_calls W v l p (h.below hW) hn
  obtain ⟨hl1, hl60, _⟩ := right_node hr
  obtain ⟨i, x0, hfi, hx0, hxd⟩ : ∃ (i : Nat) (x : Nd), findI (bs p) l = i ∧ l[i]? = some x ∧ x.dir = true := by
    rcases find_facts (bs p) l with ⟨_, hf⟩ | ⟨i, x, h1, h2, h3⟩
    · rw [dirAt, hf] at hd; cases hd
    · rw [dirAt, h3] at hd; exact ⟨i, x, h1, h2, hd⟩
  obtain ⟨ao, cap, rfl, hcap, _, hcell⟩ := rd_cellsN h.rd
  have H2 := Lib.hid h2; have Hcell := Lib.hid hcell; have Hr := Lib.hid hr; have Hcnt := Lib.hid hcnt
  have Hbd := Lib.hid fun k => room_bd (l := l) (p := bs p) hl60 k
  have hil := (List.getElem?_eq_some_iff.1 hx0).1
  have Hx0 := Lib.hid hx0
  rw [hfi] at H2
  rw [hr] at h1
  clear h h2 hcell hr hd hfi hx0 hcnt
  go_enter Tryd.func30, Tryd.ntmps30
  go_wp2_with (fail)
  refine h1.mono ?_
  rintro e w1 ⟨rfl, hb1⟩
  clear h1
  go_wp2_with (fail)
  refine (H2.out w1 hb1).mono ?_
  rintro e w2 ⟨rfl, hb2⟩
  have hbw := hb1.trans (hb2.mono hb1.size)
  obtain ⟨b, off, rfl, hlb, d0, d1, d2, d3, d4⟩ := Hcell.out w2 hbw i x0 Hx0.out
  rw [hxd] at d1
  have hi0 : ¬ (i : Int) < 0 := by omega
  clear hxd
  go_wp2_with (fail)
  clear d0 d1 d2 d3 d4
  go_loopw [7, 8] (fun vn vk wr => ∃ k : Nat, vk = .int .i64 k ∧ k ≤ l.length ∧ vn = .int .i64 (roomK l (bs p) k) ∧ Below w.heap.size w wr) (fun _ vk _ => l.length - (intOf vk).toNat)
  case atStart => exact ⟨0, rfl, Nat.zero_le _, rfl, hbw⟩
  case round =>
    obtain ⟨k, rfl, hk, rfl, hb⟩ := hrel
    have hsz := hb.size
    have hbdk := Hbd.out k
    by_cases hlt : k < l.length
    · obtain ⟨x, hx⟩ : ∃ x, l[k]? = some x := ⟨l[k], by simp [hlt]⟩
      obtain ⟨b', off', he, _, d0, d1, d2, d3, d4⟩ := Hcell.out wr hb k x hx
      simp only [Option.some.injEq, Addr.mk.injEq, and_true] at he
      obtain ⟨rfl, rfl⟩ := he
      have hq := quota_bd Hr.out (List.mem_of_getElem? hx)
      have hua := Path.runder_calls wr x.path p
      have hways := room_ways l (bs p) (roomK l (bs p) k) x
      rw [← room_next hx] at hways
      have hcc := fun W hW => Hcnt.out W hW x.path
      rw [cntT_yes Hr.out] at hcc
      have hc60 := cnt_le l (bs x.path)
      have hcel := fun W (hW : Below w.heap.size w W) => Hcell.out W hW k x hx
      generalize cntN l (bs x.path) = c at *
      generalize roomK l (bs p) k = r0 at *
      generalize hr1 : roomK l (bs p) (k + 1) = r1 at *
      have Hcc := Lib.hid hcc; have Hr1 := Lib.hid hr1; have Hcel := Lib.hid hcel
      clear hx hcc hr1 hcel
      have key : (¬ 0 ≤ x.quota ∧ r1 = r0) ∨ (underL (bs x.path) (bs p) = false ∧ r1 = r0) ∨ (0 ≤ x.quota ∧ underL (bs x.path) (bs p) = true ∧ r1 = min r0 (x.quota - c)) := by
        rcases hways with ⟨c1, c2⟩ | ⟨c1, c2, c3⟩ | ⟨c1, c2, c3⟩
        · exact .inl ⟨c1, c2⟩
        · exact .inr (.inl ⟨c2, c3⟩)
        · exact .inr (.inr ⟨c1, c2, c3⟩)
      clear hways
      rcases key with ⟨c1, rfl⟩ | ⟨c2, rfl⟩ | ⟨c1, c2, c3⟩
      · have c1' : decide (0 ≤ x.quota) = false := decide_eq_false c1
        cases hu : underL (bs x.path) (bs p)
        all_goals
          rw [hu] at hua
          clear hu
          go_wp2_with (fail)
          refine hua.mono ?_
          rintro e w3 ⟨rfl, hb3⟩
          have hb3' := hb.trans (hb3.mono hsz)
          obtain ⟨b', off', he, _, d0, d1, d2, d3, d4⟩ := Hcel.out w3 hb3'
          simp only [Option.some.injEq, Addr.mk.injEq, and_true] at he
          obtain ⟨rfl, rfl⟩ := he
          go_wp2_with (fail)
          go_roundw
          case rel => exact ⟨k + 1, by go_num, by omega, by rw [Hr1.out], hb3'⟩
          case measure => simp [intOf]; omega
      · rw [c2] at hua
        clear c2
        go_wp2_with (fail)
        refine hua.mono ?_
        rintro e w3 ⟨rfl, hb3⟩
        go_wp2_with (fail)
        go_roundw
        case rel => exact ⟨k + 1, by go_num, by omega, by rw [Hr1.out], hb.trans (hb3.mono hsz)⟩
        case measure => simp [intOf]; omega
      · rw [c2] at hua
        have Hc3 := Lib.hid c3
        clear c2 c3
        go_wp2_with (fail)
        refine hua.mono ?_
        rintro e w3 ⟨rfl, hb3⟩
        have hb3' := hb.trans (hb3.mono hsz)
        obtain ⟨b', off', he, _, d0, d1, d2, d3, d4⟩ := Hcel.out w3 hb3'
        simp only [Option.some.injEq, Addr.mk.injEq, and_true] at he
        obtain ⟨rfl, rfl⟩ := he
        have cF := fun d os => Calls.regrown_of (Hcc.out _ (hb3'.trans ((below_regrown w3 d os).mono hb3'.size)))
        have e0 := cell_regrown d0
        have e2 := cell_regrown d2
        have hwr : IntKind.i64.wrap (x.quota - (c : Int)) = x.quota - (c : Int) := by rw [IntKind.wrap_i64]; omega
        go_wp2_with (fail)
        refine wp_region_quiet_below (by kernel_rfl) (by kernel_rfl) ?_; (repeat (go_big_quiet_step ((exact cF _ _)))); refine wpQuiet_nil ?_; intro _ hw'; obtain ⟨⟨dq, osq⟩, hw''⟩ := hw'; subst hw''
        go_wp2_with (fail)
        go_roundw
        case rel => exact ⟨k + 1, by go_num, by omega, by rw [Hr1.out, Hc3.out], hb3'.trans ((below_regrown w3 dq osq).mono hb3'.size)⟩
        case measure => simp [intOf]; omega
    · obtain rfl : k = l.length := by omega
      go_wp2_with (fail)
      go_ret
      exact ⟨rfl, hb⟩
theorem rroom_calls (w : World) (v : Value) (l : List Nd) (p : ByteArray) (h : RdN w v l) (hn : l.length ≤ 8796093022208) :
    Calls Tryd.prog 30 #[v, .string p] w fun e w' => e = .returned (.int .i64 (roomT l (bs p))) ∧ Below w.heap.size w w' := by
  rw [roomT]
  by_cases hd : rightT l = true ∧ dirAt l (bs p) = true
  · rw [if_pos hd]; exact rroom_yes w v l p h hn hd.1 hd.2
  · rw [if_neg hd]; exact rroom_no w v l p h hn hd
end Go.Proofs.YtbgeiebfjlgcmaaDoor.Quota
