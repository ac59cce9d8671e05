/- Trees: tree.dir; which nodes fail a choice (slices.IndexFunc, ContainsFunc). -/
import Derived.Test.YtpghaghmejgjbaaGreatDoorTe
namespace Go.Proofs.YtpghaghmejgjbaaGreatDoor.Tree
open Go.RowKit
open Path (Bs bs mk bs_mk mk_bs tl_bs splitE splitL MaxC parD parE parN)
set_option linter.unusedSimpArgs false
set_option linter.unusedVariables false

theorem has_find (key : ByteArray) (l : List Nd) : hasN key l = (l.find? (fun x => bs x.path == bs key)).isSome := by
  rw [hasN, Bool.eq_iff_iff, List.any_eq_true, List.find?_isSome]
theorem idx_has {l : List Nd} {key : ByteArray} {x : Nd} (hr : Rises l) (hx : l.find? (fun x => bs x.path == bs key) = some x) : l[idxN key l]? = some x := by
  have hc : bs x.path = bs key := by have := List.find?_some hx; simpa using this
  obtain ⟨p, hp, hpx⟩ := List.mem_iff_getElem.1 (List.mem_of_find?_eq_some hx)
  have hp' : l[p]? = some x := by simp [hp, hpx]
  rw [idx_at (i := p) (by omega) (fun q y hq hy => ?_) (fun q y hq hy => ?_)]
  · exact hp'
  · have := rises_get hr hy hp' hq; rw [hc] at this; exact this
  · by_cases e : q = p
    · subst e
      have := hp'.symm.trans hy
      simp only [Option.some.injEq] at this
      rw [← this, hc]; exact lt_irr _
    · have := rises_get hr hp' hy (by omega); rw [hc] at this; exact lt_asym this

def dirE (l : List Nd) (p : Bs) : Int := match l.find? (fun y => bs y.path == parD p) with
  | none => 5
  | some x => if x.dir = true then 0 else 7

set_option maxHeartbeats 2000000 in
theorem dir_calls (w : World) (v : Value) (l : List Nd) (p : ByteArray) (h : RdN w v l) (hs : Rises l) (hn : l.length ≤ 8796093022208) (hM : MaxC w) :
    Calls Tryz.prog 45 #[v, .string p] w fun e w' => e = .returned (.int .i64 (dirE l (bs p))) ∧ Below w.heap.size w w' := by
  have h1 := Path.parent_calls w p hM
  have hat := fun W (hW : Below w.heap.size w W) => at_calls W v l (mk (parD (bs p))) (h.below hW) hs hn
  obtain ⟨ao, cap, rfl, _, _, hcell⟩ := rd_cellsN h.rd
  have hfi := has_find (mk (parD (bs p))) l
  have hix := fun x => idx_has (key := mk (parD (bs p))) (x := x) hs
  rw [bs_mk] at hfi
  rw [bs_mk] at hix
  rw [dirE]
  generalize parD (bs p) = D at *
  generalize parE (bs p) = E at *
  generalize parN (bs p) = N at *
  cases hf : l.find? (fun y => bs y.path == D) with
  | none =>
    rw [hf] at hfi
    simp only [Option.isSome_none] at hfi
    have Hat := Lib.hid hat
    have Hfi := Lib.hid hfi
    clear hat hfi hix h hs hcell hM hf
    go_enter Tryz.func45, Tryz.ntmps45
    go_wp2_with (fail)
    refine h1.mono ?_
    rintro e w1 ⟨rfl, hb1⟩
    have ha := Hat.out w1 hb1
    rw [Hfi.out] at ha
    go_wp2_with (fail)
    refine ha.mono ?_
    rintro e w2 ⟨rfl, hb2⟩
    go_wp2_with (fail)
    go_ret
    exact ⟨rfl, hb1.trans (hb2.mono hb1.size)⟩
  | some x =>
    rw [hf] at hfi
    simp only [Option.isSome_some] at hfi
    have hx := hix x hf
    have hxl := (List.getElem?_eq_some_iff.1 hx).1
    generalize idxN (mk D) l = i at *
    have Hat := Lib.hid hat
    have Hfi := Lib.hid hfi
    have Hcell := Lib.hid hcell
    have Hx := Lib.hid hx
    clear hat hfi hix h hs hcell hM hf hx
    show Calls _ _ _ w fun e w' => e = .returned (.int .i64 (if x.dir = true then 0 else 7)) ∧ Below w.heap.size w w'
    cases hd : x.dir
    · rw [if_neg (by simp)]
      go_enter Tryz.func45, Tryz.ntmps45
      go_wp2_with (fail)
      refine h1.mono ?_
      rintro e w1 ⟨rfl, hb1⟩
      have ha := Hat.out w1 hb1
      rw [Hfi.out] at ha
      go_wp2_with (fail)
      refine ha.mono ?_
      rintro e w2 ⟨rfl, hb2⟩
      have hB := hb1.trans (hb2.mono hb1.size)
      obtain ⟨b, off, rfl, hbb, c0, c1, c2, c3, c4⟩ := Hcell.out w2 hB i x Hx.out
      rw [hd] at c1
      clear Hat Hcell Hx
      go_wp2_with (fail)
      go_ret
      exact ⟨rfl, hB⟩
    · rw [if_pos rfl]
      go_enter Tryz.func45, Tryz.ntmps45
      go_wp2_with (fail)
      refine h1.mono ?_
      rintro e w1 ⟨rfl, hb1⟩
      have ha := Hat.out w1 hb1
      rw [Hfi.out] at ha
      go_wp2_with (fail)
      refine ha.mono ?_
      rintro e w2 ⟨rfl, hb2⟩
      have hB := hb1.trans (hb2.mono hb1.size)
      obtain ⟨b, off, rfl, hbb, c0, c1, c2, c3, c4⟩ := Hcell.out w2 hB i x Hx.out
      rw [hd] at c1
      clear Hat Hcell Hx
      go_wp2_with (fail)
      go_ret
      exact ⟨rfl, hB⟩

theorem r1_calls (w : World) (bt : Nat) (v : Value) (l : List Nd) (x : Nd) (hc : w.heap[bt]? = some (.cells #[v] 22 (0, 0))) (hx : Rd w 3 encB x.bv x.blocks) (h : RdN w v l) (hs : Rises l) (hn : l.length ≤ 8796093022208) (hM : MaxC w) :
    Calls Tryz.prog 44 #[.agg #[.string x.path, .bool x.dir, .int .i64 x.quota, x.bv, .int .i64 x.writer], .pointer (some ⟨bt, 0, none⟩)] w fun e w' => e = .returned (.bool (dirE l (bs x.path) != 0)) ∧ Below w.heap.size w w' := by
  have hcc := cell_of_one hc
  have hbl := lt_of_block hc
  obtain ⟨ao, cap, hv⟩ := bv_slice hx
  have hd := fun W (hW : Below w.heap.size w W) => dir_calls W v l x.path (h.below hW) hs hn (hM.below hW)
  obtain ⟨ao', cap', hv', _⟩ := rd_cellsN h.rd
  rw [hv'] at hd hcc
  rw [hv]
  have Hd := Lib.hid hd
  clear hd hx h hs hM hv hv' hc
  go_enter Tryz.func44, Tryz.ntmps44
  go_wp2_with (fail)
  refine (Hd.out _ ((Below.refl _ _).alloc (Nat.le_refl _) _)).mono ?_
  rintro e w1 ⟨rfl, hb1⟩
  have hB := ((Below.refl w.heap.size w).alloc (Nat.le_refl _) (.cells #[.string x.path, .bool x.dir, .int .i64 x.quota, .slice ao x.blocks.length cap, .int .i64 x.writer] 25)).trans (hb1.mono (by simp))
  go_wp2_with (fail)
  go_ret
  exact ⟨rfl, hB⟩
end Go.Proofs.YtpghaghmejgjbaaGreatDoor.Tree
