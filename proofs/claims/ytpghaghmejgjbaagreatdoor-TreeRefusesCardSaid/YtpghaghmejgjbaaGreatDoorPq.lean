/- Paths: path.Parent. -/
import Derived.Test.YtpghaghmejgjbaaGreatDoorPi
namespace Go.Proofs.YtpghaghmejgjbaaGreatDoor.Path
open Go.RowKit
set_option linter.unusedSimpArgs false
set_option linter.unusedVariables false

theorem last_of {p : ByteArray} {pre n : Bs} (h : bs p = pre ++ 47 :: n) (hn : (47 : UInt8) ∉ n) : Lib.lastIndexByte p 47 = pre.length := by
  have hl := bs_len p
  rw [h, List.length_append, List.length_cons] at hl
  have hat : ∀ (i : Nat) b, (bs p)[i]? = some b → p.data[i]! = b := fun i b hb => by
    have : p.data[i]? = some b := by simpa [bs] using hb
    rw [getElem!_def, this]
  have h47 : (bs p)[pre.length]? = some 47 := by rw [h, List.getElem?_append_right (Nat.le_refl _), Nat.sub_self]; rfl
  rcases Lib.lastIndexByte_spec p 47 with ⟨_, hno⟩ | ⟨i, hi, he, hc, hno⟩
  · exact absurd (by rw [hat _ _ h47]; rfl) (hno pre.length (by omega))
  · rw [he]
    rcases Nat.lt_trichotomy i pre.length with hlt | heq | hgt
    · exact absurd (by rw [hat _ _ h47]; rfl) (hno pre.length hlt (by omega))
    · rw [heq]
    · exfalso
      obtain ⟨j, rfl⟩ : ∃ j, i = pre.length + 1 + j := ⟨i - (pre.length + 1), by omega⟩
      have hj : j < n.length := by omega
      have hb : (bs p)[pre.length + 1 + j]? = some n[j] := by
        rw [h, List.getElem?_append_right (by omega), show pre.length + 1 + j - pre.length = j + 1 by omega, List.getElem?_cons_succ]
        simp [hj]
      rw [hat _ _ hb] at hc
      have : n[j] = 47 := by
        rw [← UInt8.toNat_inj]
        have : n[j].toNat = 47 := by omega
        rw [this]; rfl
      exact hn (this ▸ List.getElem_mem hj)

/-- A path that has a parent. -/
structure Par (p : Bs) (init : List Bs) (n pre : Bs) : Prop where
  L : splitL p = init ++ [n]
  whole : p = pre ++ 47 :: n
  no : (47 : UInt8) ∉ n
  dir : p.take (max pre.length 1) = joinP init
  name : p.drop (pre.length + 1) = n
  E : parE p = 0
  D : parD p = joinP init
  N : parN p = n
theorem par_yes {p : Bs} (hE : splitE p = 0) (hL : splitL p ≠ []) : ∃ init n pre, Par p init n pre := by
  obtain ⟨g1, g2⟩ := split_ok hE
  have hs : splitL p = (splitL p).dropLast ++ [(splitL p).getLast hL] := (List.dropLast_concat_getLast hL).symm
  have hno : (47 : UInt8) ∉ (splitL p).getLast hL := name_slash ((joinE_ok.1 g1).1 _ (List.getLast_mem hL))
  have hpe : parE p = 0 := by rw [parE, if_pos hE, if_neg hL]
  generalize hi : (splitL p).dropLast = init at *
  generalize hg : (splitL p).getLast hL = n at *
  have hD : parD p = joinP init := by rw [parD, if_pos hpe, hi]
  have hN : parN p = n := by
    rw [parN, if_pos hpe, List.getLastD_eq_getLast?, List.getLast?_eq_some_getLast hL, hg]; rfl
  rw [hs] at g2
  by_cases h0 : init = []
  · subst h0
    have hw : p = [] ++ 47 :: n := by rw [← g2, List.nil_append, joinP, inter_one]; rfl
    refine ⟨[], n, [], hs, hw, hno, ?_, ?_, hpe, hD, hN⟩
    · rw [hw]; rfl
    · rw [hw]; rfl
  · have hw : p = joinP init ++ 47 :: n := by rw [← g2, join_snoc init n h0]
    have h1 : max (joinP init).length 1 = (joinP init).length := by rw [joinP, List.length_cons]; omega
    refine ⟨init, n, joinP init, hs, hw, hno, ?_, ?_, hpe, hD, hN⟩
    · rw [h1]; conv => lhs; rw [hw]
      rw [List.take_left' rfl]
    · conv => lhs; rw [hw]
      rw [List.drop_append, List.drop_of_length_le (by omega), show (joinP init).length + 1 - (joinP init).length = 1 by omega]; rfl
theorem par_no {p : Bs} (h : parE p ≠ 0) : parD p = [] ∧ parN p = [] := ⟨if_neg h, if_neg h⟩

def ParPost (w : World) (d n : Bs) (k : Int) (e : Ending) (w' : World) : Prop :=
  e = .returned (.tuple #[.string (mk d), .string (mk n), .int .i64 k]) ∧ Below w.heap.size w w'

set_option maxHeartbeats 4000000 in
theorem parent_calls (w : World) (p : ByteArray) (hM : MaxC w) :
    Calls Tryz.prog 34 #[.string p] w (ParPost w (parD (bs p)) (parN (bs p)) (parE (bs p))) := by
  have h1 := split_calls w p hM
  have hl6 := split_six (bs p)
  have hpl := bs_len p
  by_cases hE : splitE (bs p) = 0
  · by_cases hL : splitL (bs p) = []
    · have hpe : parE (bs p) = 1 := by rw [parE, if_pos hE, if_pos hL]
      obtain ⟨d1, d2⟩ := par_no (p := bs p) (by rw [hpe]; decide)
      rw [hpe, d1, d2]
      rw [hE, hL] at h1
      clear hpe d1 d2 hE hL hl6 hM
      go_enter Tryz.func34, Tryz.ntmps34
      go_wp2_with (fail)
      refine h1.mono ?_
      rintro e w1 ⟨v1, rfl, hO1, hb1⟩
      obtain ⟨a1, c1, rfl, _, _, _⟩ := rd_cellsS hO1.rd
      go_wp2_with (fail)
      go_ret3
      exact ⟨rfl, hb1⟩
    · obtain ⟨init, n, pre, hp⟩ := par_yes hE hL
      rw [hp.E, hp.D, hp.N]
      have hli := last_of hp.whole hp.no
      have hlp : splitL (bs p) ≠ [] := hL
      have hlen : 0 < (splitL (bs p)).length := List.length_pos_iff.2 hL
      have hwl := congrArg List.length hp.whole
      rw [List.length_append, List.length_cons, hpl] at hwl
      have x2 : p.extract (pre.length + 1) p.size = mk n := by
        apply bs_inj
        rw [bs_mk, bs, Lib.extract_to_end]
        exact hp.name
      have hdir := hp.dir
      rw [hE] at h1
      generalize splitL (bs p) = L at *
      have hlast := fun W => Tryz.strings_LastIndexByte p 47 (by
        have : splitE (bs p) = 0 := hE
        rw [splitE] at this
        split at this
        · cases this
        · omega) W
      rw [hli] at hlast
      have hbig : p.size ≤ 120 := by
        have : splitE (bs p) = 0 := hE
        rw [splitE] at this
        split at this
        · cases this
        · omega
      have Hlast := Lib.hid hlast; have X2 := Lib.hid x2; clear hlast x2 hli hp hE hL hlp hM
      have q0 : ((L.length : Int) == 0) = false := beq_false_of_ne (by omega)
      have q1 : IntKind.i64.wrap ((pre.length : Int) + 1) = (pre.length : Int) + 1 := by rw [IntKind.wrap_i64]; omega
      have q2 : (pre.length : Int) + 1 ≤ (p.size : Int) := by omega
      have q3 : ((pre.length : Int) + 1).toNat = pre.length + 1 := by omega
      have q4 : (0 : Int) ≤ (pre.length : Int) + 1 := by omega
      have x1 : p.extract 0 (max (pre.length : Int) 1).toNat = mk (joinP init) := by
        apply bs_inj
        rw [bs_mk, ← hdir, bs, Lib.extract_data, show (max (pre.length : Int) 1).toNat = max pre.length 1 by omega]
        rfl
      have X1 := Lib.hid x1; clear x1 hdir
      have q5 : max (pre.length : Int) 1 ≤ (p.size : Int) := by omega
      have q6 : (0 : Int) ≤ max (pre.length : Int) 1 := by omega
      clear hwl
      go_enter Tryz.func34, Tryz.ntmps34
      go_wp2_with (fail)
      refine h1.mono ?_
      rintro e w1 ⟨v1, rfl, hO1, hb1⟩
      obtain ⟨a1, c1, rfl, _, _, _⟩ := rd_cellsS hO1.rd
      rw [List.length_map]
      clear hO1
      go_wp2_with (fail)
      refine (Hlast.out _).mono ?_
      rintro e w2 ⟨rfl, hw2⟩
      obtain rfl : w1 = w2 := hw2.symm
      go_wp2_with (fail)
      generalize w1 = W1 at *
      go_quiet (fail)
      go_wp2_with (fail)
      go_ret3
      refine ⟨?_, ?_⟩
      · rw [← X1.out, ← X2.out]
        rfl
      · exact hb1.trans (below_drewN W1 _ |>.mono hb1.size)
  · have hpe : parE (bs p) = splitE (bs p) := by rw [parE, if_neg hE]
    obtain ⟨d1, d2⟩ := par_no (p := bs p) (by rw [hpe]; exact hE)
    rw [hpe, d1, d2]
    clear hpe d1 d2
    generalize splitE (bs p) = E at *
    have q1 : (E != 0) = true := bne_iff_ne.2 hE
    clear hM hl6
    go_enter Tryz.func34, Tryz.ntmps34
    go_wp2_with (fail)
    refine h1.mono ?_
    rintro e w1 ⟨v1, rfl, hO1, hb1⟩
    go_wp2_with (fail)
    go_ret3
    exact ⟨rfl, hb1⟩
end Go.Proofs.YtpghaghmejgjbaaGreatDoor.Path
