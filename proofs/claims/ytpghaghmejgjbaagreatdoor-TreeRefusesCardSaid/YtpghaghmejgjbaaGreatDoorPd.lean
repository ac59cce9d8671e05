/- Paths: path.Split. -/
import Derived.Test.YtpghaghmejgjbaaGreatDoorPc
import Derived.Test.YtpghaghmejgjbaaGreatDoorSh
namespace Go.Proofs.YtpghaghmejgjbaaGreatDoor.Path
open Go.RowKit
set_option linter.unusedSimpArgs false

/-- The library's own bound holds some number. -/
structure MaxC (w : World) : Prop where
  ex : ∃ m, w.cell? ⟨0, 0, none⟩ = some (.int .i64 m)
theorem MaxC.lt {w : World} (h : MaxC w) : 0 < w.heap.size := by
  obtain ⟨m, hm⟩ := h.ex
  exact World.block_lt_of_cell? w _ hm
theorem MaxC.below {w w' : World} (h : MaxC w) (hb : Below w.heap.size w w') : MaxC w' := by
  obtain ⟨m, hm⟩ := h.ex
  exact ⟨m, (hb.cell (p := ⟨0, 0, none⟩) h.lt).trans hm⟩

theorem pieces_eq (t : ByteArray) : Lib.splitB ⟨#[47]⟩ 0 (Lib.countB t ⟨#[47]⟩) t = (cutL (bs t)).map mk := by
  have h1 := Lib.splitB_data ⟨#[47]⟩ 0 (Lib.countB t ⟨#[47]⟩) t
  have h2 : Lib.countB t ⟨#[47]⟩ = (bs t).count 47 := by
    rw [← Lib.count_one]; rfl
  rw [h2] at h1 ⊢
  have h3 : (Lib.splitB ⟨#[47]⟩ 0 ((bs t).count 47) t).map bs = cutL (bs t) := h1.trans (split_cut (bs t))
  rw [← h3, List.map_map]
  conv => lhs; rw [← List.map_id (Lib.splitB ⟨#[47]⟩ 0 ((bs t).count 47) t)]
  exact List.map_congr_left fun x _ => (mk_bs x).symm
theorem any_bad (ns : List Bs) : (ns.map mk).any badS = !(ns.all nameL) := by
  induction ns with
  | nil => rfl
  | cons x t ih => rw [List.map_cons, List.any_cons, List.all_cons, ih, badS, bs_mk, Bool.not_and]

theorem spl_calls (w : World) (t : ByteArray) (hM : MaxC w) (hs : t.size ≤ 1000000) :
    Calls Tryz.prog 69 #[.string t, .string ⟨#[47]⟩] w fun e w' => e = .returned (.slice (some ⟨w.heap.size, 0, none⟩) (cutL (bs t)).length (cutL (bs t)).length) ∧ OwnS w w' (.slice (some ⟨w.heap.size, 0, none⟩) (cutL (bs t)).length (cutL (bs t)).length) ((cutL (bs t)).map mk) ∧ Below w.heap.size w w' := by
  obtain ⟨m, hm⟩ := hM.ex
  have hlen := Lib.splitB_all ⟨#[47]⟩ (by decide) 0 _ t rfl
  refine (Tryz.strings_Split t ⟨#[47]⟩ m w (by omega) hm (by decide)).mono ?_
  rintro e w' ⟨rfl, rfl⟩
  rw [← hlen, pieces_eq t, List.length_map]
  have hle : (cutL (bs t)).length ≤ t.size + 1 := by
    have := Lib.countB_le ⟨#[47]⟩ (by decide) t.size t (Nat.le_refl _)
    rw [pieces_eq t, List.length_map] at hlen
    omega
  refine ⟨rfl, ⟨?_, fun g hg => ?_⟩, (Below.refl _ _).alloc (Nat.le_refl _) _⟩
  · rw [List.length_map]
    refine ⟨by rw [flatS_len, List.length_map, Nat.mul_one], .inr ⟨w.heap.size, _, _, rfl, Nat.zero_le _, heap_alloc_new w _, Nat.le_refl _, by unfold maxLen; omega, by simp, ?_⟩⟩
    rw [flatS_map]
    simp only [Nat.mul_one, List.map_map]
    exact List.take_of_length_le (by simp)
  · simp only [Value.ownBlock, Option.some.injEq] at hg
    omega

theorem tail_bs (p : ByteArray) : (bs p).tail = bs (p.extract 1 p.size) := by
  rw [bs, bs, Lib.extract_to_end, List.drop_one]
theorem cut_len : ∀ s : Bs, (cutL s).length ≤ s.length + 1
  | [] => by simp [cutL]
  | b :: t => by
    have ih := cut_len t
    by_cases hb : b = 47
    · subst hb
      rw [cut_slash]; simp; omega
    · cases h : cutL t with
      | nil => exact absurd h (cut_ne t)
      | cons x r => rw [cut_other hb h]; rw [h] at ih; simp at ih ⊢; omega
/-- Which way a text goes. -/
theorem split_ways (p : ByteArray) :
    (120 < (p.size : Int) ∧ splitE (bs p) = 4) ∨
    (¬ 120 < (p.size : Int) ∧ (p.toList == [47]) = true ∧ splitE (bs p) = 0 ∧ splitL (bs p) = []) ∨
    (¬ 120 < (p.size : Int) ∧ (p.toList == [47]) = false ∧ p.toList.isEmpty = true ∧ splitE (bs p) = 1) ∨
    (¬ 120 < (p.size : Int) ∧ (p.toList == [47]) = false ∧ p.toList.isEmpty = false ∧ splitE (bs p) = 1 ∧ ∃ h : 0 < p.size, ((p[0].toNat : Int) != 47) = true) ∨
    (¬ 120 < (p.size : Int) ∧ (p.toList == [47]) = false ∧ p.toList.isEmpty = false ∧ (∃ h : 0 < p.size, ((p[0].toNat : Int) != 47) = false) ∧
      splitE (bs p) = (if (cutL (bs (p.extract 1 p.size))).all nameL = true then (if 6 < (cutL (bs (p.extract 1 p.size))).length then 4 else 0) else 1) ∧ splitL (bs p) = if splitE (bs p) = 0 then cutL (bs (p.extract 1 p.size)) else []) := by
  have hl := bs_len p
  rw [tl_bs]
  by_cases h1 : 120 < (bs p).length
  · exact .inl ⟨by omega, by rw [splitE, if_pos h1]⟩
  · by_cases h2 : bs p = [47]
    · exact .inr (.inl ⟨by omega, by rw [h2]; rfl, by rw [h2]; decide, by rw [h2]; decide⟩)
    · have h2' : (bs p == [47]) = false := by simpa using h2
      by_cases h3 : bs p = []
      · exact .inr (.inr (.inl ⟨by omega, h2', by rw [h3]; rfl, by rw [h3]; decide⟩))
      · have h3' : (bs p).isEmpty = false := by simpa using h3
        have h0 : 0 < p.size := by have := List.length_pos_iff.2 h3; omega
        have hb := bs_get h0
        have hhead : (bs p).head? = some p[0] := by rw [List.head?_eq_getElem?]; exact hb
        by_cases h4 : p[0] = 47
        · refine .inr (.inr (.inr (.inr ⟨by omega, h2', h3', ⟨h0, by rw [h4]; rfl⟩, ?_, ?_⟩)))
          · rw [splitE, if_neg h1, if_neg h2, if_pos (by rw [hhead, h4])]
            have e := congrArg cutL (tail_bs p)
            simp only [e]
          · rw [splitL]
            split
            · exact congrArg cutL (tail_bs p)
            · rfl
        · refine .inr (.inr (.inr (.inl ⟨by omega, h2', h3', ?_, h0, ?_⟩)))
          · rw [splitE, if_neg h1, if_neg h2, if_neg (by rw [hhead]; simpa using h4)]
          · refine bne_iff_ne.2 fun e => h4 ?_
            rw [← UInt8.toNat_inj]
            have : p[0].toNat = 47 := by omega
            rw [this]; rfl

def SplPost (w : World) (k : Int) (q : List ByteArray) (e : Ending) (w' : World) : Prop :=
  ∃ v', e = .returned (.tuple #[v', .int .i64 k]) ∧ OwnS w w' v' q ∧ Below w.heap.size w w'

set_option maxHeartbeats 2000000 in
theorem split_calls (w : World) (p : ByteArray) (hM : MaxC w) :
    Calls Tryz.prog 38 #[.string p] w (SplPost w (splitE (bs p)) ((splitL (bs p)).map mk)) := by
  rcases split_ways p with ⟨h1, hE⟩ | ⟨h1, h2, hE, hL⟩ | ⟨h1, h2, h3, hE⟩ | ⟨h1, h2, h3, hE, h0, h4⟩ | ⟨h1, h2, h3, ⟨h0, h4⟩, hE, hL⟩
  · rw [hE, split_bad (by rw [hE]; decide)]
    clear hE
    go_enter Tryz.func38, Tryz.ntmps38
    go_wp2_with (fail)
    go_ret2
    exact ⟨_, rfl, OwnS.nil _ _, Below.refl _ _⟩
  · rw [hE, hL]
    clear hE hL
    go_enter Tryz.func38, Tryz.ntmps38
    go_wp2_with (fail)
    go_ret2
    exact ⟨_, rfl, OwnS.nil _ _, Below.refl _ _⟩
  · rw [hE, split_bad (by rw [hE]; decide)]
    clear hE
    go_enter Tryz.func38, Tryz.ntmps38
    go_wp2_with (fail)
    go_ret2
    exact ⟨_, rfl, OwnS.nil _ _, Below.refl _ _⟩
  · rw [hE, split_bad (by rw [hE]; decide)]
    clear hE
    go_enter Tryz.func38, Tryz.ntmps38
    go_wp2_with (fail)
    go_ret2
    exact ⟨_, rfl, OwnS.nil _ _, Below.refl _ _⟩
  · have hsp := spl_calls w (p.extract 1 p.size) hM (by simp; omega)
    rw [hL, hE]
    have hany := any_bad (cutL (bs (p.extract 1 p.size)))
    have hql : (cutL (bs (p.extract 1 p.size))).length ≤ 1000 := by
      have := cut_len (bs (p.extract 1 p.size))
      rw [bs_len] at this
      simp at this
      omega
    generalize cutL (bs (p.extract 1 p.size)) = q at *
    clear hE hL
    cases ha : q.all nameL
    · rw [ha] at hany
      rw [if_neg (by simp), if_neg (by decide)]
      clear ha
      go_enter Tryz.func38, Tryz.ntmps38
      go_wp2_with (fail)
      refine hsp.mono ?_
      rintro e w1 ⟨rfl, hO1, hb1⟩
      have hh := has1_calls w1 _ _ hO1.rd (by simp; omega)
      rw [hany] at hh
      go_wp2_with (fail)
      refine hh.mono ?_
      rintro e w2 ⟨rfl, hb2⟩
      go_wp2_with (fail)
      go_ret2
      exact ⟨_, rfl, OwnS.nil _ _, hb1.trans (hb2.mono hb1.size)⟩
    · rw [ha] at hany
      rw [if_pos rfl]
      clear ha
      by_cases h6 : 6 < q.length
      · rw [if_pos h6, if_neg (by decide)]
        go_enter Tryz.func38, Tryz.ntmps38
        go_wp2_with (fail)
        refine hsp.mono ?_
        rintro e w1 ⟨rfl, hO1, hb1⟩
        have hh := has1_calls w1 _ _ hO1.rd (by simp; omega)
        rw [hany] at hh
        go_wp2_with (fail)
        refine hh.mono ?_
        rintro e w2 ⟨rfl, hb2⟩
        have h6' : 6 < (q.length : Int) := by omega
        go_wp2_with (fail)
        go_ret2
        exact ⟨_, rfl, OwnS.nil _ _, hb1.trans (hb2.mono hb1.size)⟩
      · rw [if_neg h6, if_pos rfl]
        go_enter Tryz.func38, Tryz.ntmps38
        go_wp2_with (fail)
        refine hsp.mono ?_
        rintro e w1 ⟨rfl, hO1, hb1⟩
        have hh := has1_calls w1 _ _ hO1.rd (by simp; omega)
        rw [hany] at hh
        go_wp2_with (fail)
        refine hh.mono ?_
        rintro e w2 ⟨rfl, hb2⟩
        have h6' : ¬ 6 < (q.length : Int) := by omega
        have hO2 := below_ownsRow hb2 hO1.own (fun g hg => (hO1.own.lt g hg).2)
        have Hn := hO1.new
        have HN := Lib.hid Hn; clear Hn hO1
        have HO2 := Lib.hid hO2; clear hO2
        go_wp2_with (fail)
        go_ret2
        exact ⟨_, rfl, ⟨HO2.out, HN.out⟩, hb1.trans (hb2.mono hb1.size)⟩
end Go.Proofs.YtpghaghmejgjbaaGreatDoor.Path
