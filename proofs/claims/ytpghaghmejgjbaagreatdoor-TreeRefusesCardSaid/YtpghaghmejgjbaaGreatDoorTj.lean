/- Trees: the document's Find, Right. -/
import Derived.Test.YtpghaghmejgjbaaGreatDoorTi
namespace Go.Proofs.YtpghaghmejgjbaaGreatDoor.Tree
open Go.RowKit
open Path (Bs bs mk bs_mk mk_bs tl_bs splitE splitL MaxC parD parE parN below_drewN)
set_option linter.unusedSimpArgs false
set_option linter.unusedVariables false

set_option maxHeartbeats 4000000 in
theorem rfind_calls (w : World) (v : Value) (l : List Nd) (key : ByteArray) (h : Rd w 5 encN v l) (hn : l.length ≤ 8796093022208) :
    Calls Tryz.prog 18 #[v, .string key] w fun e w' => e = .returned (.int .i64 (findI (bs key) l)) ∧ Below w.heap.size w w' := by
  obtain ⟨ao, cap, rfl, _, _, hcell⟩ := rd_cellsN h
  have Hcell := Lib.hid hcell; clear hcell h
  go_enter Tryz.func18, Tryz.ntmps18
  go_wp2_with (fail)
  go_loopw [5] (fun i wr => ∃ k : Nat, i = .int .i64 k ∧ k ≤ l.length ∧ Below w.heap.size w wr ∧ (∀ p x, p < k → l[p]? = some x → (fun x => bs x.path == bs key) x = false)) (fun i _ => l.length - (intOf i).toNat)
  case atStart => exact ⟨0, rfl, Nat.zero_le _, Below.refl _ _, fun p x hp => by omega⟩
  case round =>
    obtain ⟨k, rfl, hk, hb, hnone⟩ := hrel
    have Hnone := Lib.hid hnone; clear hnone
    by_cases hlt : k < l.length
    · obtain ⟨x, hx⟩ : ∃ x, l[k]? = some x := ⟨l[k], by simp [hlt]⟩
      obtain ⟨b, off, rfl, hlb, c0, c1, c2, c3, c4⟩ := Hcell.out wr hb k x hx
      have Hx := Lib.hid hx; clear hx
      cases hq : (bs x.path == bs key)
      · have hq' : (x.path.toList == key.toList) = false := by rw [tl_bs, tl_bs]; exact hq
        have Hq := Lib.hid hq; clear hq
        go_wp2_with (fail)
        go_roundw
        case rel =>
          refine ⟨k + 1, by go_num, by omega, hb, fun p y hp hy => ?_⟩
          by_cases e : p = k
          · subst e
            have := Hx.out.symm.trans hy
            simp only [Option.some.injEq] at this
            rw [← this]; exact Hq.out
          · exact Hnone.out p y (by omega) hy
        case measure => simp [intOf]; omega
      · have hq' : (x.path.toList == key.toList) = true := by rw [tl_bs, tl_bs]; exact hq
        have Hfi := Lib.hid (fi_some Hnone.out Hx.out hq); clear hq
        go_wp2_with (fail)
        go_ret
        exact ⟨by rw [findI, Hfi.out]; rfl, hb⟩
    · obtain rfl : k = l.length := by omega
      have Hfi := Lib.hid (fi_none Hnone.out)
      go_wp2_with (fail)
      go_ret
      exact ⟨by rw [findI, Hfi.out]; rfl, hb⟩

theorem find_facts (p : Bs) (l : List Nd) : (findI p l = -1 ∧ l.find? (fun x => bs x.path == p) = none) ∨ ∃ (i : Nat) (x : Nd), findI p l = i ∧ l[i]? = some x ∧ l.find? (fun x => bs x.path == p) = some x := by
  rw [findI, fiN]
  cases h : l.findIdx? (fun x => bs x.path == p) with
  | none =>
    left
    refine ⟨rfl, ?_⟩
    rw [List.findIdx?_eq_none_iff] at h
    rw [List.find?_eq_none]
    intro x hx
    rw [h x hx]; decide
  | some i =>
    right
    rw [List.findIdx?_eq_some_iff_getElem] at h
    obtain ⟨hi, h1, h2⟩ := h
    refine ⟨i, l[i], rfl, by simp [hi], ?_⟩
    rw [List.find?_eq_some_iff_getElem]
    refine ⟨h1, i, hi, rfl, fun j hj => ?_⟩
    have := h2 j hj
    simpa using this
theorem bad_ways (l : List Nd) (x : Nd) : (dirBad l x = true ∧ findI (parD (bs x.path)) l = -1) ∨ (∃ (i : Nat) (y : Nd), findI (parD (bs x.path)) l = i ∧ l[i]? = some y ∧ y.dir = false ∧ dirBad l x = true) ∨ (∃ (i : Nat) (y : Nd), findI (parD (bs x.path)) l = i ∧ l[i]? = some y ∧ y.dir = true ∧ dirBad l x = false) := by
  rw [dirBad, dirE]
  rcases find_facts (parD (bs x.path)) l with ⟨h1, h2⟩ | ⟨i, y, h1, h2, h3⟩
  · exact .inl ⟨by rw [h2]; rfl, h1⟩
  · right
    rw [h3]
    cases hd : y.dir
    · exact .inl ⟨i, y, h1, h2, hd, by simp [hd]⟩
    · exact .inr ⟨i, y, h1, h2, hd, by simp [hd]⟩
/-- What holds of the first k nodes. -/
def upto (l : List Nd) (k : Nat) : Prop := ∀ j, j < k → okA l j = true ∧ ∀ x, l[j]? = some x → 1 ≤ j → dirBad l x = false
theorem upto_end {l : List Nd} (hh : headOk l = true) (h : upto l l.length) : rightT l = true := by
  rw [rightT, rightA, hh, show (List.range l.length).all (okA l) = true from List.all_eq_true.2 fun i hi => (h i (List.mem_range.1 hi)).1, Bool.true_and, Bool.true_and, Bool.not_eq_true']
  rw [List.any_eq_false]
  intro x hx
  obtain ⟨j, hj, rfl⟩ := List.mem_iff_getElem.1 hx
  rw [List.getElem_drop]
  rw [List.length_drop] at hj
  rw [(h (1 + j) (by omega)).2 _ (by simp [show 1 + j < l.length by omega]) (by omega)]
  decide
theorem bad_end {l : List Nd} {k : Nat} {x : Nd} (hx : l[k]? = some x) (hk : 1 ≤ k) (h : dirBad l x = true) : rightT l = false := by
  have hkl := (List.getElem?_eq_some_iff.1 hx).1
  rw [rightT, show (l.drop 1).any (dirBad l) = true from List.any_eq_true.2 ⟨x, List.mem_of_getElem? (i := k - 1) (by rw [List.getElem?_drop, show 1 + (k - 1) = k by omega]; exact hx), h⟩, Bool.not_true, Bool.and_false]
theorem ok_end {l : List Nd} {k : Nat} (hk : k < l.length) (h : okA l k = false) : rightT l = false := by
  rw [rightT, rightA, show (List.range l.length).all (okA l) = false from List.all_eq_false.2 ⟨k, List.mem_range.2 hk, by rw [h]; decide⟩, Bool.and_false]; rfl

set_option maxHeartbeats 4000000 in
theorem rright_no (w : World) (v : Value) (l : List Nd) (h : Rd w 5 encN v l) (hn : l.length ≤ 8796093022208) (hh : headOk l = false) :
    Calls Tryz.prog 16 #[v] w fun e w' => e = .returned (.bool false) ∧ Below w.heap.size w w' := by
  obtain ⟨ao, cap, rfl, _, _, hcell⟩ := rd_cellsN h
  have Hcell := Lib.hid hcell
  have hw := head_ways l
  clear hcell h
  rcases hw with ⟨c1, _⟩ | ⟨c1, c2, _⟩ | ⟨x, c1, c2, hx, c3, _⟩ | ⟨x, c1, c2, hx, c3, c4, _⟩ | ⟨x, c1, c2, hx, c3, c4, h5⟩
  rotate_right
  · rw [hh] at h5; cases h5
  all_goals
    clear hh
    try
      obtain ⟨b, off, rfl, hlb, k0, k1, k2, k3, k4⟩ := Hcell.out _ (Below.refl _ _) 0 x hx
      simp only [Nat.zero_mul, Nat.add_zero] at k0 k1 k2 k3 k4
      have hpos := (List.getElem?_eq_some_iff.1 hx).1
      clear hx
    try rw [c4] at k1
    try have c3' : (x.path.toList == [47]) = false := by simpa [bne] using c3
    try have c3' : (x.path.toList == [47]) = true := by simpa [bne] using c3
    go_enter Tryz.func16, Tryz.ntmps16
    go_wp2_with (fail)
    go_ret
    exact ⟨rfl, Below.refl _ _⟩

set_option maxRecDepth 4000 in
set_option maxHeartbeats 8000000 in
theorem rright_calls (w : World) (v : Value) (l : List Nd) (h : RdN w v l) (hn : l.length ≤ 8796093022208) :
    Calls Tryz.prog 16 #[v] w fun e w' => e = .returned (.bool (rightT l)) ∧ Below w.heap.size w w' := by
  by_cases hh0 : headOk l = false
  · rw [rightT, rightA, hh0]
    exact rright_no w v l h.rd hn hh0
  have hh : headOk l = true := by simpa using hh0
  clear hh0
  obtain ⟨x0, c1, c2, hx0, c3, c4⟩ : ∃ x, ((l.length : Int) == 0) = false ∧ ¬ 60 < (l.length : Int) ∧ l[0]? = some x ∧ (x.path.toList == [47]) = true ∧ x.dir = true := by
    rcases head_ways l with ⟨_, h5⟩ | ⟨_, _, h5⟩ | ⟨x, _, _, _, _, h5⟩ | ⟨x, _, _, _, _, _, h5⟩ | ⟨x, c1, c2, hx, c3, c4, h5⟩
    all_goals try (rw [hh] at h5; cases h5)
    exact ⟨x, c1, c2, hx, by simpa [bne] using c3, c4⟩
  have hfit := fun W (hW : Below w.heap.size w W) x (hx : x ∈ l) => rfits_calls W x ((h.bl x hx).below hW (Nat.le_refl _))
  have hfind := fun W (hW : Below w.heap.size w W) key => rfind_calls W v l key (h.below hW).rd hn
  have hbvs : ∀ x ∈ l, ∃ ao cap, x.bv = .slice ao x.blocks.length cap := fun x hx => bv_slice (h.bl x hx)
  obtain ⟨ao, cap, rfl, hcap, _, hcell⟩ := rd_cellsN h.rd
  have Hcell := Lib.hid hcell; have Hfit := Lib.hid hfit; have Hbvs := Lib.hid hbvs; have Hfind := Lib.hid hfind
  have Hh := Lib.hid hh
  clear hcell h hfit hfind hbvs hh
  obtain ⟨b, off, rfl, hlb, k0, k1, k2, k3, k4⟩ := Hcell.out _ (Below.refl _ _) 0 x0 hx0
  simp only [Nat.zero_mul, Nat.add_zero] at k0 k1 k2 k3 k4
  rw [c4] at k1
  have hpos := (List.getElem?_eq_some_iff.1 hx0).1
  clear hx0 k2 k3 k4 c4
  go_enter Tryz.func16, Tryz.ntmps16
  go_wp2_with (fail)
  clear k0 k1 c1 c3
  go_loopw [3] (fun vk wr => ∃ k : Nat, vk = .int .i64 k ∧ k ≤ l.length ∧ upto l k ∧ Below w.heap.size w wr) (fun vk _ => l.length - (intOf vk).toNat)
  case atStart => exact ⟨0, rfl, Nat.zero_le _, fun j hj => by omega, Below.refl _ _⟩
  case round =>
    obtain ⟨k, rfl, hk, hall, hb⟩ := hrel
    have Hall := Lib.hid hall; clear hall
    have hsz := hb.size
    by_cases hlt : k < l.length
    · obtain ⟨x, hx⟩ : ∃ x, l[k]? = some x := ⟨l[k], by simp [hlt]⟩
      obtain ⟨b', off', he, _, d0, d1, d2, d3, d4⟩ := Hcell.out wr hb k x hx
      simp only [Option.some.injEq, Addr.mk.injEq, and_true] at he
      obtain ⟨rfl, rfl⟩ := he
      have hxm := List.mem_of_getElem? hx
      obtain ⟨ax, cx, hbvx⟩ := Hbvs.out x hxm
      have hfx := Hfit.out wr hb x hxm
      rw [hbvx] at hfx d3
      have ways := okA_ways hx
      have bad := bad_ways l x
      have Hx := Lib.hid hx
      have Hb := Lib.hid hb; have Hbad := Lib.hid bad
      clear hxm hbvx hb hx bad
      rcases ways with ⟨e1, e2⟩ | ⟨e1, rfl, e2⟩ | ⟨j, y, rfl, hy, e1, e3, e2⟩ | ⟨j, y, rfl, hy, e1, e3, e2⟩
      all_goals
        rw [e1] at hfx
        have He2 := Lib.hid e2
        clear e1 e2
      · go_wp2_with (fail)
        refine hfx.mono ?_
        rintro e w2 ⟨rfl, hb2⟩
        go_wp2_with (fail)
        go_quiet (fail)
        go_wp2_with (fail)
        go_ret
        exact ⟨ret_bool (ok_end hlt He2.out).symm, Hb.out.trans ((hb2.mono hsz).trans (below_drewN w2 _ |>.mono (by have := hb2.size; omega)))⟩
      · simp only [Nat.zero_mul, Nat.add_zero] at d0 d1 d2 d3 d4
        go_wp2_with (fail)
        refine hfx.mono ?_
        rintro e w2 ⟨rfl, hb2⟩
        go_wp2_with (fail)
        go_quiet (fail)
        go_wp2_with (fail)
        go_roundw
        case rel => exact ⟨1, by go_num, by omega, fun i hi => by obtain rfl : i = 0 := by omega
                                                                  exact ⟨He2.out, fun x hx h1 => by omega⟩, Hb.out.trans ((hb2.mono hsz).trans (below_drewN w2 _ |>.mono (by have := hb2.size; omega)))⟩
        case measure => simp [intOf]; omega
      · have hle1 : Op.bytesLess x.path.toList y.path.toList = false := by
          rw [tl_bs, tl_bs]; exact lt_asym e3
        have hle2 : (x.path.toList == y.path.toList) = false := by
          rw [tl_bs, tl_bs]; exact beq_false_of_ne (fun e => lt_ne e3 e.symm)
        have hk0 : (((j + 1 : Nat) : Int) == 0) = false := beq_false_of_ne (by omega)
        have Hy := Lib.hid hy
        clear hy
        go_wp2_with (fail)
        refine hfx.mono ?_
        rintro e w2 ⟨rfl, hb2⟩
        have hbw2 := Hb.out.trans (hb2.mono hsz)
        obtain ⟨b', off', he, _, g0, g1, g2, g3, g4⟩ := Hcell.out w2 hbw2 j y Hy.out
        simp only [Option.some.injEq, Addr.mk.injEq, and_true] at he
        obtain ⟨rfl, rfl⟩ := he
        obtain ⟨b', off', he, _, d0, d1, d2, d3, d4⟩ := Hcell.out w2 hbw2 (j + 1) x Hx.out
        simp only [Option.some.injEq, Addr.mk.injEq, and_true] at he
        obtain ⟨rfl, rfl⟩ := he
        clear d1 d2 d3 d4 g1 g2 g3 g4 hb2
        go_wp2_with (fail)
        go_quiet (fail)
        have hbw3 : Below w.heap.size w (w2.drewN nq) := hbw2.trans (below_drewN w2 _ |>.mono hbw2.size)
        have d0' : (w2.drewN nq).cell? ⟨b, off + (j + 1) * 5, none⟩ = some (.string x.path) := d0
        generalize w2.drewN nq = w3 at *
        have hp := Path.rparent_calls w3 x.path
        have HP := Lib.hid hp
        clear d0 g0 hp
        go_wp2_with (fail)
        refine HP.out.mono ?_
        rintro e w4 ⟨rfl, hb4⟩
        have hbw4 := hbw3.trans (hb4.mono hbw3.size)
        have hf := Hfind.out w4 hbw4 (mk (parD (bs x.path)))
        rw [bs_mk] at hf
        go_wp2_with (fail)
        rcases Hbad.out with ⟨q1, q2⟩ | ⟨i, z, q1, q2, q3, q4⟩ | ⟨i, z, q1, q2, q3, q4⟩
        · rw [q2] at hf
          have Hq1 := Lib.hid q1
          clear q1 q2
          refine hf.mono ?_
          rintro e w5 ⟨rfl, hb5⟩
          go_wp2_with (fail)
          go_ret
          exact ⟨ret_bool (bad_end Hx.out (by omega) Hq1.out).symm, hbw4.trans (hb5.mono hbw4.size)⟩
        all_goals
          rw [q1] at hf
          have Hq4 := Lib.hid q4
          have hil := (List.getElem?_eq_some_iff.1 q2).1
          have Hq2 := Lib.hid q2
          have hi0 : ¬ (i : Int) < 0 := by omega
          clear q1 q2 q4
          refine hf.mono ?_
          rintro e w5 ⟨rfl, hb5⟩
          have hbw5 := hbw4.trans (hb5.mono hbw4.size)
          obtain ⟨b', off', he, _, g0, g1, g2, g3, g4⟩ := Hcell.out w5 hbw5 i z Hq2.out
          simp only [Option.some.injEq, Addr.mk.injEq, and_true] at he
          obtain ⟨rfl, rfl⟩ := he
          rw [q3] at g1
          clear q3
          go_wp2_with (fail)
        · go_ret
          exact ⟨ret_bool (bad_end Hx.out (by omega) Hq4.out).symm, hbw5⟩
        · go_roundw
          case rel =>
            refine ⟨j + 1 + 1, by go_num, by omega, fun i hi => ?_, hbw5⟩
            by_cases e : i < j + 1
            · exact Hall.out i e
            · obtain rfl : i = j + 1 := by omega
              refine ⟨He2.out, fun x' hx' _ => ?_⟩
              have := Hx.out.symm.trans hx'
              simp only [Option.some.injEq] at this
              rw [← this]; exact Hq4.out
          case measure => simp [intOf]; omega
      · have hle : (Op.bytesLess x.path.toList y.path.toList || x.path.toList == y.path.toList) = true := by
          rw [tl_bs, tl_bs]
          rcases lt_tri (bs x.path) (bs y.path) with h | h | h
          · rw [ltB] at h; rw [h, Bool.true_or]
          · rw [beq_iff_eq.2 h, Bool.or_true]
          · rw [e3] at h; cases h
        rw [Bool.or_eq_true] at hle
        have Hy := Lib.hid hy
        clear hy
        go_wp2_with (fail)
        refine hfx.mono ?_
        rintro e w2 ⟨rfl, hb2⟩
        have hbw2 := Hb.out.trans (hb2.mono hsz)
        obtain ⟨b', off', he, _, g0, g1, g2, g3, g4⟩ := Hcell.out w2 hbw2 j y Hy.out
        simp only [Option.some.injEq, Addr.mk.injEq, and_true] at he
        obtain ⟨rfl, rfl⟩ := he
        obtain ⟨b', off', he, _, d0, d1, d2, d3, d4⟩ := Hcell.out w2 hbw2 (j + 1) x Hx.out
        simp only [Option.some.injEq, Addr.mk.injEq, and_true] at he
        obtain ⟨rfl, rfl⟩ := he
        clear d1 d2 d3 d4 g1 g2 g3 g4 hb2
        go_wp2_with (fail)
        rcases hle with h1 | h1
        all_goals
          go_quiet (fail)
          go_wp2_with (fail)
          go_ret
          exact ⟨ret_bool (ok_end hlt He2.out).symm, hbw2.trans (below_drewN w2 _ |>.mono hbw2.size)⟩
    · obtain rfl : k = l.length := by omega
      go_wp2_with (fail)
      go_ret
      exact ⟨ret_bool (upto_end Hh.out Hall.out).symm, hb⟩
end Go.Proofs.YtpghaghmejgjbaaGreatDoor.Tree
