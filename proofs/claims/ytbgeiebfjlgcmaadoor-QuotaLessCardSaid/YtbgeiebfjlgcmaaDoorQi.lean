/- QuotaNone: the walk of the law. -/
import Derived.Test.YtbgeiebfjlgcmaaDoorQh
import Derived.Test.YtbgeiebfjlgcmaaDoorTl
namespace Go.Proofs.YtbgeiebfjlgcmaaDoor.Quota
open Go.RowKit
open Path (Bs bs mk bs_mk mk_bs tl_bs MaxC OwnS encS rd_cellsS)
open Tree
set_option linter.unusedSimpArgs false
set_option linter.unusedVariables false

def noq (x : Nd) : Nd := { x with quota := -1 }
def nqL (l : List Nd) (k : Nat) : List Nd := (l.take k).map noq
theorem nq_next {l : List Nd} {k : Nat} {x : Nd} (hx : l[k]? = some x) : nqL l (k + 1) = nqL l k ++ [noq x] := by
  rw [nqL, List.take_add_one, hx, List.map_append]; rfl
theorem nq_len {l : List Nd} {k : Nat} (hk : k ≤ l.length) : (nqL l k).length = k := by rw [nqL, List.length_map, List.length_take]; omega
theorem nq_all {l : List Nd} {k : Nat} : ∀ x ∈ nqL l k, x.quota = -1 := fun x hx => by
  obtain ⟨y, _, rfl⟩ := List.mem_map.1 hx
  rfl
theorem none_over {l : List Nd} (h : ∀ x ∈ l, x.quota = -1) : overL l = [] := by
  rw [overL]
  split
  · rw [List.filter_eq_nil_iff.2 (fun x hx => by rw [overP, h x hx]; simp)]; rfl
  · rfl
theorem none_room {l : List Nd} {p : Bs} (h : ∀ x ∈ l, x.quota = -1) : ∀ k, roomK l p k = 60 - l.length
  | 0 => by rw [roomK, List.take_zero]; rfl
  | k + 1 => by
    by_cases hk : k < l.length
    · rw [room_next (x := l[k]) (by simp [hk]), none_room h k, roomStep, h _ (List.getElem_mem hk), if_neg (by omega)]
    · have e : l.take (k + 1) = l.take k := by rw [List.take_of_length_le (by omega), List.take_of_length_le (by omega)]
      rw [roomK, e]; exact none_room h k
theorem dir_at {l : List Nd} (h : rightT l = true) {i : Nat} {x : Nd} (hx : l[i]? = some x) : dirAt l (bs x.path) = x.dir := by rw [dirAt, find_at (right_rises h) hx]
theorem none_want {l : List Nd} (hq : ∀ x ∈ l, x.quota = -1) (h : rightT l = true) {i : Nat} {x : Nd} (hx : l[i]? = some x) : roomT l (bs x.path) = if x.dir = true then 60 - (l.length : Int) else 0 := by
  have hl := (right_node h).2.1
  rw [roomT, dir_at h hx, none_room hq]
  simp only [h, true_and]
  split
  · omega
  · rfl
theorem not_right_room {l : List Nd} (h : rightT l = false) (p : Bs) : roomT l p = 0 := by rw [roomT, h]; rfl

theorem index_of (a : Int) (n : Nat) (hn : 0 < n) : ∃ i : Nat, i < n ∧ (a < 0 → -((a + 1).tmod (n : Int)) = (i : Int)) ∧ (¬ a < 0 → a % (n : Int) = (i : Int)) := by
  by_cases h : a < 0
  · have h1 := Int.emod_nonneg (-(a + 1)) (b := (n : Int)) (by omega)
    have h2 := Int.emod_lt_of_pos (-(a + 1)) (b := (n : Int)) (by omega)
    refine ⟨((-(a + 1)) % (n : Int)).toNat, by omega, fun _ => ?_, fun h' => absurd h h'⟩
    rw [← Int.neg_tmod, Int.tmod_eq_emod_of_nonneg (by omega)]
    omega
  · have h1 := Int.emod_nonneg a (b := (n : Int)) (by omega)
    have h2 := Int.emod_lt_of_pos a (b := (n : Int)) (by omega)
    exact ⟨(a % (n : Int)).toNat, by omega, fun h' => absurd h' h, fun _ => by omega⟩
structure Made (w w' : World) (v : Value) (q : List Nd) : Prop where
  own : OwnN w w' v q
  below : Below w.heap.size w w'

set_option maxRecDepth 4000 in
set_option maxHeartbeats 8000000 in
theorem law_none (v : Value) (l : List Nd) (at' : Int) (w : World) (hM : MaxC w) (h0 : RdN w v l ∧ (∀ x ∈ l, OkN w x) ∧ l.length ≤ 8796093022208) (ha : -9223372036854775808 ≤ at' ∧ at' ≤ 9223372036854775807) :
    Calls Tryd.prog 7 #[v, .int .i64 at'] w fun e w' => e = .returned (.bool true) ∧ Below w.heap.size w w' := by
  obtain ⟨h, _, hn⟩ := h0
  have e0 := ex_calls w hM
  have hbvs : ∀ x ∈ l, ∃ ao cap, x.bv = .slice ao x.blocks.length cap := fun x hx => bv_slice (h.bl x hx)
  have hblk : ∀ W, Below w.heap.size w W → ∀ x ∈ l, Rd W 3 encB x.bv x.blocks := fun W hW x hx => h.mem hW hx
  have h1 : ∀ W, Below w.heap.size w W → ∀ u q, RdN W u q → q.length ≤ 8796093022208 → _ := fun W hW u q hu hq => right_calls W u q hu hq (hM.below hW)
  have h2 : ∀ W, Below w.heap.size w W → ∀ u q p, RdN W u q → q.length ≤ 8796093022208 → _ := fun W hW u q p hu hq => room_calls W u q p hu hq (hM.below hW)
  have h3 : ∀ W, Below w.heap.size w W → ∀ u q, RdN W u q → q.length ≤ 8796093022208 → _ := fun W hW u q hu hq => over_calls W u q hu hq (hM.below hW)
  obtain ⟨ao, cap, rfl, hcap, _, hcell⟩ := rd_cellsN h.rd
  have H1 := Lib.hid h1; have H2 := Lib.hid h2; have H3 := Lib.hid h3; have Hbvs := Lib.hid hbvs; have Hblk := Lib.hid hblk; have Hcell := Lib.hid hcell
  clear h1 h2 h3 hbvs hblk hcell h hM
  go_enter Tryd.func7, Tryd.ntmps7
  go_wp2_with (fail)
  refine e0.mono ?_
  rintro e w1 ⟨rfl, hB1⟩
  clear e0
  go_wp2_with (fail)
  go_loopw [6, 7] (fun vm vk wr => ∃ k : Nat, vk = .int .i64 k ∧ k ≤ l.length ∧ k ≤ 100 ∧ Made w wr vm (nqL l k)) (fun _ vk _ => l.length - (intOf vk).toNat)
  case atStart => exact ⟨0, rfl, Nat.zero_le _, Nat.zero_le _, OwnN.nil _ _, hB1⟩
  case round =>
    obtain ⟨k, rfl, hk, hk100, hm⟩ := hrel
    have Hm := Lib.hid hm
    have hb := hm.below
    have hsz := hb.size
    have hnl : (nqL l k).length = k := nq_len hk
    by_cases hlt : k < l.length ∧ k < 100
    · obtain ⟨hlt, hlt1⟩ := hlt
      obtain ⟨x, hx⟩ : ∃ x, l[k]? = some x := ⟨l[k], by simp [hlt]⟩
      obtain ⟨b, off, rfl, hlb, d0, d1, d2, d3, d4⟩ := Hcell.out wr hb k x hx
      have hxm := List.mem_of_getElem? hx
      obtain ⟨ax, cx, hbvx⟩ := Hbvs.out x hxm
      have hnx := nq_next hx
      have hbx := hbvx
      rw [hbvx] at d3
      have hown := hm.own.own
      rw [hnl] at hown
      have hA : Below w.heap.size w (wr.alloc (.cells #[.string x.path, .bool x.dir, .int .i64 (-1), .slice ax x.blocks.length cx, .int .i64 x.writer] 45 (0, 0))) := hb.alloc hsz _
      have HW := Lib.hid (hown.alloc (.cells #[.string x.path, .bool x.dir, .int .i64 (-1), .slice ax x.blocks.length cx, .int .i64 x.writer] 45 (0, 0)))
      have HA := Lib.hid hA; have Hnx := Lib.hid hnx; have Hnl := Lib.hid hnl; have Hxm := Lib.hid hxm; have Hbx := Lib.hid hbx
      clear hx hxm hbvx hnx hown hA hnl hm hbx
      have hkk : ((wr.alloc (.cells #[.string x.path, .bool x.dir, .int .i64 (-1), .slice ax x.blocks.length cx, .int .i64 x.writer] 45 (0, 0))).alloc (.cells #[.string x.path, .bool x.dir, .int .i64 (-1), .slice ax x.blocks.length cx, .int .i64 x.writer] 45 (0, 0))).heap[wr.heap.size + 1]? = some (.cells #[.string x.path, .bool x.dir, .int .i64 (-1), .slice ax x.blocks.length cx, .int .i64 x.writer] 45 (0, 0)) := by
        have := heap_alloc_new (wr.alloc (.cells #[.string x.path, .bool x.dir, .int .i64 (-1), .slice ax x.blocks.length cx, .int .i64 x.writer] 45 (0, 0))) (.cells #[.string x.path, .bool x.dir, .int .i64 (-1), .slice ax x.blocks.length cx, .int .i64 x.writer] 45 (0, 0))
        rwa [show (wr.alloc (.cells #[.string x.path, .bool x.dir, .int .i64 (-1), .slice ax x.blocks.length cx, .int .i64 x.writer] 45 (0, 0))).heap.size = wr.heap.size + 1 by simp] at this
      have HK := Lib.hid hkk
      clear hkk
      go_wp2_with (at_builtin; (with_reducible refine etN.wpList1 (HW.out.alloc _) HK.out rfl (by simp [Value.oneCell']) (by omega) (by unfold maxLen; omega) rfl (.tmp 27) (.tmp 29) rfl rfl rfl ?_); intro g1 cap1 w2 hown1 hgrow hat hlt1)
      go_roundw
      case rel =>
        have hbw : Below w.heap.size w w2 := (HA.out.alloc HA.out.size _).grown hgrow (by simp; omega) (fun q hq => Hm.out.own.new q hq)
        refine ⟨k + 1, by go_num, by omega, by omega, ⟨?_, fun g hg => ?_, fun y hy => ?_⟩, hbw⟩
        · rw [Hnx.out, List.length_append, Hnl.out, flatN_snoc]
          rw [show encN (noq x) = [.string x.path, .bool x.dir, .int .i64 (-1), .slice ax x.blocks.length cx, .int .i64 x.writer] by rw [encN, noq, ← Hbx.out]]
          exact hown1
        · simp only [Value.ownBlock, Option.some.injEq] at hg
          subst hg
          rcases hat with h | h
          · exact Hm.out.own.new _ h
          · simp at h; omega
        · rw [Hnx.out, List.mem_append, List.mem_singleton] at hy
          rcases hy with hy | rfl
          · obtain ⟨z, hz, rfl⟩ := List.mem_map.1 hy
            exact Hblk.out w2 hbw z (List.mem_of_mem_take hz)
          · exact Hblk.out w2 hbw x Hxm.out
      case measure => simp [intOf]; omega
    · have hrd := hm.own.rd
      have hq8 : (nqL l k).length ≤ 8796093022208 := by omega
      have hr := H1.out wr hb _ _ hrd hq8
      have hqa := nq_all (l := l) (k := k)
      obtain ⟨am, cm, hvm⟩ := own_slice hm.own.own
      obtain ⟨hvm, _⟩ := hvm
      subst hvm
      have hcond : ¬ (k < l.length ∧ k < 100) := hlt
      generalize nqL l k = q at *
      have hk0 : (k : Int) < (l.length : Int) → ¬ (k : Int) < 100 := fun h h' => hlt ⟨by omega, by omega⟩
      have Hnl := Lib.hid hnl
      have Hr := H1; have HR := Lib.hid hrd; have Hqa := Lib.hid hqa
      have hk60 : q.length ≤ 100 := by omega
      have hcell2 := (rd_cellsN hrd.rd)
      clear hm hrd hqa hnl hlt hcond Hm
      have hrm := H2.out
      cases hq : rightT q
      · rw [hq] at hr
        have h2 : ∀ W, Below w.heap.size w W → RdN W (.slice am q.length cm) q → Calls Tryd.prog 29 #[.slice am q.length cm, .string ⟨#[47]⟩] W fun e w' => e = .returned (.int .i64 0) ∧ Below W.heap.size W w' := fun W hW hu => by
          have := H2.out W hW _ q ⟨#[47]⟩ hu hq8
          rwa [not_right_room hq] at this
        have HR2 := Lib.hid h2
        clear hq h2 hrm hcell2
        by_cases hc1 : k < l.length
        all_goals
          try have hc2 : ¬ k < 100 := by omega
          clear hk0
          go_wp2_with (fail)
          refine hr.mono ?_
          rintro e w2 ⟨rfl, hb2⟩
          have hbw2 := hb.trans (hb2.mono hsz)
          go_wp2_with (fail)
          refine (HR2.out w2 hbw2 (HR.out.below hb2)).mono ?_
          rintro e w3 ⟨rfl, hb3⟩
          go_wp2_with (fail)
          go_ret
          exact ⟨rfl, hbw2.trans (hb3.mono hbw2.size)⟩
      · rw [hq] at hr
        obtain ⟨q1, q60, _⟩ := right_node hq
        have hov : overL q = [] := none_over Hqa.out
        have hnw := fun i x (hx : q[i]? = some x) => none_want Hqa.out hq hx
        have Hov := Lib.hid hov; have Hnw := Lib.hid hnw
        obtain ⟨i, hil, hi1, hi2⟩ := index_of at' q.length (by omega)
        obtain ⟨x, hx⟩ : ∃ x, q[i]? = some x := ⟨q[i], by simp [hil]⟩
        obtain ⟨ax, cx, hbvx⟩ := bv_slice (HR.out.bl x (List.mem_of_getElem? hx))
        obtain ⟨am', cm', hv', _, _, hcq⟩ := hcell2
        simp only [Value.slice.injEq] at hv'
        obtain ⟨rfl, _, rfl⟩ := hv'
        obtain ⟨b, off, rfl, hbm, _⟩ := hcq wr (Below.refl _ _) i x hx
        have Hcq := Lib.hid fun W hW => hcq W hW i x hx
        have hwant := hnw i x hx
        have Hwant := Lib.hid hwant
        clear hq hrm hov hnw hx hcq hwant
        have hbm' := hbm
        by_cases hc1 : k < l.length
        all_goals
          try have hc2 : ¬ k < 100 := by omega
          clear hk0
          by_cases hat : at' < 0
          all_goals
            first
            | have hi := hi1 hat
            | have hi := hi2 hat
            clear hi1 hi2
            cases hd : x.dir
            all_goals
              go_wp2_with (fail)
              refine hr.mono ?_
              rintro e w2 ⟨rfl, hb2⟩
              have hbw2 := hb.trans (hb2.mono hsz)
              obtain ⟨b', off', he, _, d0, d1, d2, d3, d4⟩ := Hcq.out w2 hb2
              simp only [Option.some.injEq, Addr.mk.injEq, and_true] at he
              obtain ⟨rfl, rfl⟩ := he
              rw [hbvx] at d3
              rw [hd] at d1
              have hkn := heap_alloc_new w2 (.cells #[.string x.path, .bool x.dir, .int .i64 x.quota, .slice ax x.blocks.length cx, .int .i64 x.writer] 45 (0, 0))
              have hAn : Below w2.heap.size w2 (w2.alloc (.cells #[.string x.path, .bool x.dir, .int .i64 x.quota, .slice ax x.blocks.length cx, .int .i64 x.writer] 45 (0, 0))) := (Below.refl _ _).alloc (Nat.le_refl _) _
              rw [hd] at hkn hAn
              have hw2 := Hwant.out
              rw [hd] at hw2
              have Hkn := Lib.hid hkn; have HAn := Lib.hid hAn; have Hw2 := Lib.hid hw2
              clear hkn hAn hw2 hr
              go_wp2_with (fail)
              have hov := H3.out _ (hbw2.trans (HAn.out.mono hbw2.size)) _ q ((HR.out.below hb2).below HAn.out) hq8
              rw [Hov.out] at hov
              refine hov.mono ?_
              rintro e w3 ⟨v3, rfl, hO3, hb3⟩
              obtain ⟨a3, c3, hv3, _, _, _⟩ := rd_cellsS hO3.rd
              subst hv3
              have hb23 := HAn.out.trans (hb3.mono HAn.out.size)
              have hk3 := (hb3.block w2.heap.size (by simp)).trans Hkn.out
              have k0 := cell_of_blk (j := 0) hk3
              simp only [List.getElem?_toArray, List.getElem?_cons_zero] at k0
              clear hO3 hk3 hov d0 d1 d2 d3 d4
              have hrm := H2.out w3 (hbw2.trans (hb23.mono hbw2.size)) _ q x.path ((HR.out.below hb2).below hb23) hq8
              rw [Hw2.out] at hrm
              go_wp2_with (fail)
              refine hrm.mono ?_
              rintro e w4 ⟨rfl, hb4⟩
              clear hrm
              go_wp2_with (fail)
              go_ret
              exact ⟨by simp, hbw2.trans ((hb23.trans (hb4.mono hb23.size)).mono hbw2.size)⟩
end Go.Proofs.YtbgeiebfjlgcmaaDoor.Quota
