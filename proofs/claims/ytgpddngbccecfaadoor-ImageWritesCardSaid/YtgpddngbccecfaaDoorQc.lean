/- Quotas: quota.Count, Over. -/
import Derived.Test.YtgpddngbccecfaaDoorQb
namespace Go.Proofs.YtgpddngbccecfaaDoor.Quota
open Go.RowKit Go.Maps Go.WideMaps
open Path (Bs bs mk bs_mk mk_bs tl_bs splitE splitL MaxC parD parE parN underL under_iff under_anti OwnS flatS flatS_snoc etS)
open Tree
set_option linter.unusedSimpArgs false
set_option linter.unusedVariables false

theorem counts_calls (w : World) (v : Value) (l : List Nd) (h : RdN w v l) (hn : l.length ≤ 8796093022208) (hM : MaxC w) : Calls Tryd.prog 45 #[v] w (CntPost w l) := by
  cases hr : rightT l
  · exact counts_no w v l h hn hM hr
  · exact counts_yes w v l h hn hM hr

def overP (l : List Nd) (x : Nd) : Bool := x.dir && decide (0 ≤ x.quota) && decide (x.quota < cntN l (bs x.path))
def overL (l : List Nd) : List ByteArray := if rightT l = true then (l.filter (overP l)).map (·.path) else []
theorem over_ways (l : List Nd) (x : Nd) : (overP l x = false ∧ x.dir = false) ∨ (overP l x = false ∧ x.dir = true ∧ ¬ 0 ≤ x.quota) ∨ (overP l x = false ∧ x.dir = true ∧ 0 ≤ x.quota ∧ ¬ x.quota < cntN l (bs x.path)) ∨
    (overP l x = true ∧ x.dir = true ∧ 0 ≤ x.quota ∧ x.quota < cntN l (bs x.path)) := by
  rw [overP]
  cases x.dir
  · exact .inl ⟨rfl, rfl⟩
  · by_cases h1 : 0 ≤ x.quota
    · by_cases h2 : x.quota < cntN l (bs x.path)
      · exact .inr (.inr (.inr ⟨by simp [h1, h2], rfl, h1, h2⟩))
      · exact .inr (.inr (.inl ⟨by simp [h2], rfl, h1, h2⟩))
    · exact .inr (.inl ⟨by simp [h1], rfl, h1⟩)
def fst (l : List Nd) (k : Nat) : List ByteArray := ((l.take k).filter (overP l)).map (·.path)
theorem fst_no {l : List Nd} {k : Nat} {x : Nd} (hx : l[k]? = some x) (h : overP l x = false) : fst l (k + 1) = fst l k := by
  rw [fst, List.take_add_one, hx, List.filter_append]
  simp [h, fst]
theorem fst_yes {l : List Nd} {k : Nat} {x : Nd} (hx : l[k]? = some x) (h : overP l x = true) : fst l (k + 1) = fst l k ++ [x.path] := by
  rw [fst, List.take_add_one, hx, List.filter_append]
  simp [h, fst]
theorem fst_len (l : List Nd) (k : Nat) : (fst l k).length ≤ k := by
  rw [fst, List.length_map]
  exact Nat.le_trans (List.length_filter_le _ _) (List.length_take_le _ _)

set_option maxRecDepth 4000 in
set_option maxHeartbeats 4000000 in
theorem over_calls (w : World) (v : Value) (l : List Nd) (h : RdN w v l) (hn : l.length ≤ 8796093022208) (hM : MaxC w) :
    Calls Tryd.prog 25 #[v] w fun e w' => ∃ v', e = .returned v' ∧ OwnS w w' v' (overL l) ∧ Below w.heap.size w w' := by
  have h1 := counts_calls w v l h hn hM
  have hbvs : ∀ x ∈ l, ∃ ao cap, x.bv = .slice ao x.blocks.length cap := fun x hx => bv_slice (h.bl x hx)
  obtain ⟨ao, cap, rfl, hcap, _, hcell⟩ := rd_cellsN h.rd
  have Hbvs := Lib.hid hbvs; have Hcell := Lib.hid hcell
  clear h hM hbvs hcell
  cases hr : rightT l
  · rw [overL, hr, if_neg (by simp)]
    go_enter Tryd.func25, Tryd.ntmps25
    go_wp2_with (fail)
    refine h1.mono ?_
    rintro e w1 ⟨b, n, rfl, hm, hb1⟩
    rw [hr] at hm
    obtain ⟨m, hlen, h0⟩ := hm.len
    simp only [Bool.not_false] at h0
    clear hm hr
    go_wp2_with (fail)
    go_ret
    exact ⟨_, rfl, OwnS.nil _ _, hb1⟩
  · obtain ⟨hl1, hl60, _⟩ := right_node hr
    go_enter Tryd.func25, Tryd.ntmps25
    go_wp2_with (fail)
    refine h1.mono ?_
    rintro e w1 ⟨B, n, rfl, hm, hb1⟩
    rw [hr] at hm
    obtain ⟨m, hlen, h0⟩ := hm.len
    simp only [Bool.not_true] at h0
    have Hm := Lib.hid hm; have Hr := Lib.hid hr
    have hB := hm.lt
    clear hm hr
    go_wp2_with (fail)
    clear hlen h0
    go_loopw [3, 14] (fun vo vk wr => ∃ k : Nat, vk = .int .i64 k ∧ k ≤ l.length ∧ OwnS w1 wr vo (fst l k) ∧ Below w1.heap.size w1 wr) (fun _ vk _ => l.length - (intOf vk).toNat)
    case atStart => exact ⟨0, rfl, Nat.zero_le _, OwnS.nil _ _, Below.refl _ _⟩
    case round =>
      obtain ⟨k, rfl, hk, hO, hb⟩ := hrel
      have HO := Lib.hid hO; clear hO
      have hsz := hb.size
      by_cases hlt : k < l.length
      · obtain ⟨x, hx⟩ : ∃ x, l[k]? = some x := ⟨l[k], by simp [hlt]⟩
        have hbw : Below w.heap.size w wr := hb1.trans (hb.mono hb1.size)
        obtain ⟨b, off, rfl, hlb, d0, d1, d2, d3, d4⟩ := Hcell.out wr hbw k x hx
        have hxm := List.mem_of_getElem? hx
        obtain ⟨ax, cx, hbvx⟩ := Hbvs.out x hxm
        rw [hbvx] at d3
        have hps : x.path.size ≤ maxLen := by
          have := path_size ((right_node Hr.out).2.2 x hxm)
          unfold maxLen; omega
        have Hx := Lib.hid hx
        have hA : Below w1.heap.size w1 (wr.alloc (.cells #[.string x.path, .bool x.dir, .int .i64 x.quota, .slice ax x.blocks.length cx, .int .i64 x.writer] 51 (0, 0))) := hb.alloc hsz _
        have hmA := Hm.out.below hA hB
        have hl := hmA.look hps
        rw [cntT, if_pos Hr.out] at hl
        have hlen := fst_len l k
        have hbA := hb.alloc hsz (.cells #[.string x.path, .bool x.dir, .int .i64 x.quota, .slice ax x.blocks.length cx, .int .i64 x.writer] 51 (0, 0))
        have hc60 := cnt_le l (bs x.path)
        have hways := over_ways l x
        have HA := Lib.hid hA; have Hb := Lib.hid hb
        have hf0 := fun h => fst_no hx (l := l) h
        have hf1 := fun h => fst_yes hx (l := l) h
        generalize cntN l (bs x.path) = c at *
        have Hf0 := Lib.hid hf0; have Hf1 := Lib.hid hf1
        clear hx hxm hbvx hA hmA hb hbw hf0 hf1
        rcases hways with ⟨c0, c1⟩ | ⟨c0, c1, c2⟩ | ⟨c0, c1, c2, c3⟩ | ⟨c0, c1, c2, c3⟩
        rotate_right
        focus
          have Hc0 := Lib.hid c0
          clear c0
          have hown := HO.out.own
          have hzA := HA.out.size
          generalize hw : (fst l k).length = n1 at *
          have hkk : ((wr.alloc (.cells #[.string x.path, .bool x.dir, .int .i64 x.quota, .slice ax x.blocks.length cx, .int .i64 x.writer] 51 (0, 0))).alloc (.cells #[.string x.path] 9 (0, 0))).heap[wr.heap.size + 1]? = some (.cells #[.string x.path] 9 (0, 0)) := by
            have := heap_alloc_new (wr.alloc (.cells #[.string x.path, .bool x.dir, .int .i64 x.quota, .slice ax x.blocks.length cx, .int .i64 x.writer] 51 (0, 0))) (.cells #[.string x.path] 9 (0, 0))
            rwa [show (wr.alloc (.cells #[.string x.path, .bool x.dir, .int .i64 x.quota, .slice ax x.blocks.length cx, .int .i64 x.writer] 51 (0, 0))).heap.size = wr.heap.size + 1 by simp] at this
          have HW := Lib.hid (hown.alloc (.cells #[.string x.path, .bool x.dir, .int .i64 x.quota, .slice ax x.blocks.length cx, .int .i64 x.writer] 51 (0, 0))); have Hw := Lib.hid hw; have HK := Lib.hid hkk
          clear hkk
          clear hown hw
          rw [c1] at hl HA d1 HW HK
          go_wp2_with (at_builtin; (with_reducible refine etS.wpList1 (HW.out.alloc _) HK.out rfl (by simp [Value.oneCell']) (by omega) (by unfold maxLen; omega) rfl (.tmp 34) (.tmp 37) rfl rfl rfl ?_); intro g1 cap1 w2 hown1 hgrow hat hlt1)
          go_roundw
          case rel =>
            refine ⟨k + 1, by go_num, by omega, ?_, (HA.out.alloc HA.out.size _).grown hgrow (by simp; omega) (fun q hq => HO.out.new q hq)⟩
            rw [Hf1.out Hc0.out]
            refine ⟨?_, fun g hg => ?_⟩
            · rw [List.length_append, Hw.out, flatS_snoc]
              exact hown1
            · simp only [Value.ownBlock, Option.some.injEq] at hg
              subst hg
              rcases hat with h | h
              · exact HO.out.new _ h
              · simp at h; omega
          case measure => simp [intOf]; omega
        all_goals
          have Hc0 := Lib.hid c0
          rw [c1] at hl HA d1
          clear c0
          go_wp2_with (fail)
          go_roundw
          case rel => exact ⟨k + 1, by go_num, by omega, by rw [Hf0.out Hc0.out]; exact ⟨HO.out.own.alloc _, HO.out.new⟩, HA.out⟩
          case measure => simp [intOf]; omega
      · obtain rfl : k = l.length := by omega
        go_wp2_with (fail)
        go_ret
        refine ⟨_, rfl, ?_, hb1.trans (hb.mono hb1.size)⟩
        have hO := HO.out
        rw [fst, List.take_length] at hO
        rw [overL, if_pos Hr.out]
        exact ⟨hO.own, fun g hg => Nat.le_trans hb1.size (hO.new g hg)⟩
end Go.Proofs.YtgpddngbccecfaaDoor.Quota
