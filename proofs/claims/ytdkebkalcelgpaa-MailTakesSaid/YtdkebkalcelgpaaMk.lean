/- MailTwins: a twin is like what it was made of, and stands behind all. -/
import Derived.Test.YtdkebkalcelgpaaMi
namespace Go.Proofs.Ytdkebkalcelgpaa.Mail
open Go.RowKit

abbrev sX : ByteArray := ⟨#[120]⟩
/-- What was sent in the first k rounds. -/
def numbered (k : Nat) : List Ag := (List.range k).map fun (j : Nat) => (⟨(j : Int), sX, 0⟩ : Ag)
theorem numbered_len (k : Nat) : (numbered k).length = k := by simp [numbered]
theorem numbered_succ (k : Nat) : numbered (k + 1) = numbered k ++ [⟨(k : Int), sX, 0⟩] := by simp [numbered, List.range_succ]
theorem numbered_get {k j : Nat} (h : j < k) : (numbered k)[j]? = some ⟨(j : Int), sX, 0⟩ := by simp [numbered, h]
theorem send_num (l : List Ag) (h : l.length < 50) (t : Int) : sendL l t sX = l ++ [⟨t, sX, 0⟩] ∧ sendE l sX = 0 := by
  have hn : ¬ (50 ≤ l.length ∨ 4000 < sX.size) := by simp [ByteArray.size]; omega
  exact ⟨by rw [sendL, if_neg hn], by rw [sendE, if_neg hn]⟩

theorem takeM_at (w : World) (b : Nat) (l : List Ag) (F : Nat → Prop) (i : Nat) (x : Ag) (j : Int) (hj : j = (i : Int)) (hR : MailR w b l F) (hn : l.length ≤ 1000000) (hx : l[i]? = some x) :
    Calls Try.prog 16 #[.pointer (some ⟨b, 0, none⟩), .int .i64 j] w fun e w' => e = .returned (.tuple #[.agg #[.int .i64 x.to, .string x.data], .bool true]) ∧ Left w w' b (l.eraseIdx i) F := by
  subst hj
  exact takeM_in w b l F i x hR hn hx

theorem len_quiet {w : World} {b : Nat} {l : List Ag} {F : Nat → Prop} (hR : MailR w b l F) (n : Nat) : Calls Try.prog 24 #[.pointer (some ⟨b, 0, none⟩)] (w.drewN n) fun e w' => e = .returned (.int .i64 (l.length : Int)) ∧ w' = w.drewN n :=
  (len_calls (w.drewN n) b l F hR).mono fun _ _ ⟨h1, h2⟩ => ⟨h1, h2.symm⟩

theorem law_twins (a0 a1 : Int) (w : World) (h0 : -9223372036854775808 ≤ a0 ∧ a0 ≤ 9223372036854775807) (h1 : -9223372036854775808 ≤ a1 ∧ a1 ≤ 9223372036854775807) :
    Calls Try.prog 6 #[.int .i64 a0, .int .i64 a1] w fun e w' => e = .returned (.bool true) ∧ Below w.heap.size w w' := by
  have hp0 := fun W => pick_calls W a0 20 h0.1 h0.2 (by omega) (by omega)
  have b0 := pickI_bd a0 20 (by omega)
  have hp1 := fun W => pick_calls W a1 (1 + pickI a0 20) h1.1 h1.2 (by omega) (by omega)
  have b1 := pickI_bd a1 (1 + pickI a0 20) (by omega)
  obtain ⟨n, hn⟩ : ∃ n : Nat, pickI a0 20 = n := ⟨(pickI a0 20).toNat, by omega⟩
  rw [hn] at hp0 hp1 b0 b1
  obtain ⟨i, hi⟩ : ∃ i : Nat, pickI a1 (1 + (n : Int)) = i := ⟨(pickI a1 (1 + (n : Int))).toNat, by omega⟩
  rw [hi] at hp1 b1
  obtain ⟨_, b01⟩ := b0
  obtain ⟨_, b11⟩ := b1
  have hex := examples_calls w
  clear hn hi h0 h1
  go_enter Try.func6, Try.ntmps6
  go_wp2_with (first
    | (go_at_call 11; refine hex.mono ?_; rintro e w1 ⟨rfl, hb1⟩)
    | (go_at_call 12; refine (new_calls _).mono ?_; rintro e w2 ⟨rfl, rfl⟩)
    | (go_at_call_of 13 a0; refine (hp0 _).mono ?_; rintro e w3 ⟨rfl, rfl⟩)
    | (go_at_call_of 13 a1; refine (hp1 _).mono ?_; rintro e w3 ⟨rfl, rfl⟩))
  have O1 := new_one w1
  generalize hW : w1.alloc (.cells #[.slice none 0 0] 75) = w2 at *
  clear hW hp0 hp1 hex
  go_loopw [7] (fun vk wr => ∃ (k : Nat), vk = .int .i64 k ∧ (k : Int) ≤ 1 + n ∧ One w1 wr w1.heap.size (numbered k) []) (fun vk _ => (1 + n - intOf vk).toNat)
  case atStart => exact ⟨0, rfl, by omega, O1⟩
  case round =>
    obtain ⟨k, rfl, hkn, O⟩ := hrel
    by_cases hlt : (k : Int) < 1 + n
    · have hS := O.left (R := fun e => e = .returned (.int .i64 0)) (l' := numbered (k + 1)) (fun F h => by
        have := send_calls wr _ _ F (k : Int) sX h (by rw [numbered_len]; omega) (by decide)
        have hs := send_num (numbered k) (by rw [numbered_len]; omega) (k : Int)
        rw [hs.1, hs.2, ← numbered_succ] at this
        exact this)
      go_wp2_with (go_at_call 14; refine hS.mono ?_; rintro e w3 ⟨rfl, O3⟩)
      go_roundw
      case rel => exact ⟨k + 1, by go_num, by omega, O3⟩
      case measure => simp [intOf]; omega
    · obtain rfl : k = n + 1 := by omega
      have hT := O.left (R := fun e => e = .returned (.int .i64 0)) (l' := numbered (n + 1) ++ [⟨(i : Int), sX, 0⟩]) (fun F h => by
        have := twin_in wr _ _ F i ⟨(i : Int), sX, 0⟩ h (by rw [numbered_len]; omega) (numbered_get (by omega)) (show sX.size ≤ maxLen by decide)
        have hs := send_num (numbered (n + 1)) (by rw [numbered_len]; omega) (i : Int)
        rw [hs.1, hs.2] at this
        exact this)
      have hlen : (numbered (n + 1) ++ [(⟨(i : Int), sX, 0⟩ : Ag)]).length = n + 2 := by simp [numbered_len]
      have gn : (numbered (n + 1) ++ [(⟨(i : Int), sX, 0⟩ : Ag)])[n + 1]? = some ⟨(i : Int), sX, 0⟩ := by rw [List.getElem?_append_right (by rw [numbered_len]; omega)]; simp [numbered_len]
      have gi : (numbered (n + 1) ++ [(⟨(i : Int), sX, 0⟩ : Ag)])[i]? = some ⟨(i : Int), sX, 0⟩ := by rw [List.getElem?_append_left (by rw [numbered_len]; omega)]; exact numbered_get (by omega)
      have her : (numbered (n + 1) ++ [(⟨(i : Int), sX, 0⟩ : Ag)]).eraseIdx (n + 1) = numbered (n + 1) := by rw [List.eraseIdx_append_of_length_le (by rw [numbered_len]; omega)]; simp [numbered_len]
      have hout := fun (W : World) (F : Nat → Prop) (j : Int) (h : MailR W w1.heap.size (numbered (n + 1) ++ [⟨(i : Int), sX, 0⟩]) F) (hj : j < 0 ∨ (n : Int) + 2 ≤ j) => twin_out W _ _ F j h (by rw [hlen]; omega) (by rw [hlen]; omega)
      generalize numbered (n + 1) ++ [(⟨(i : Int), sX, 0⟩ : Ag)] = l2 at *
      have Gn := Lib.hid gn; clear gn
      have Gi := Lib.hid gi; clear gi
      have Hlen := Lib.hid hlen; clear hlen
      have Her := Lib.hid her; clear her
      go_wp2_with (fail)
      refine hT.mono ?_; rintro e w3 ⟨rfl, O3⟩
      go_wp2_with (fail)
      refine (O3.left fun F h => hout w3 F _ h (by omega)).mono ?_; rintro e w4 ⟨rfl, O4⟩
      go_wp2_with (fail)
      refine (O4.left fun F h => hout w4 F _ h (by omega)).mono ?_; rintro e w5 ⟨rfl, O5⟩
      clear hT O3 O4 O
      go_wp2_with (fail)
      obtain ⟨F5, hM5⟩ := O5.one
      refine (all_calls w5 _ _ F5 hM5 (by rw [Hlen.out]; omega)).mono ?_; rintro e w6 ⟨va, rfl, hown, _, hb6⟩
      obtain ⟨g, ca, cur, rfl, _, hg, hle, hcm, hcs, htk⟩ := hown.2.resolve_left (fun h => by have := Hlen.out; omega)
      have hgn : w5.heap.size ≤ g := by have h : ∀ q, (some g) = some q → w5.heap.size ≤ q := by assumption
                                        exact h g rfl
      have O6 := O5.keep hb6 hgn hg; clear O5 hM5
      have hcur : ∀ k x, l2[k]? = some x → cur[k * 2]? = some (.int .i64 x.to) ∧ cur[k * 2 + 1]? = some (.string x.data) := fun k x hx => by
        have hx' : (l2.map msOf)[k]? = some (msOf x) := by simp [hx]
        have hk := (List.getElem?_eq_some_iff.1 hx).1
        have e0 := flat_get encM 2 encM_len (l2.map msOf) k 0 (msOf x) hx' (by decide)
        have e1 := flat_get encM 2 encM_len (l2.map msOf) k 1 (msOf x) hx' (by decide)
        rw [show (l2.map msOf).flatMap encM = cur.toList.take (l2.length * 2) from htk.symm, List.getElem?_take, if_pos (by omega)] at e0 e1
        exact ⟨by simpa [encM, msOf] using e0, by simpa [encM, msOf] using e1⟩
      have Hcn := Lib.hid (hcur _ _ Gn.out); have Hci := Lib.hid (hcur _ _ Gi.out)
      clear hcur htk hcs hown
      go_wp2_with (fail)
      refine (O6.left fun F h => takeM_at w6 _ _ F (n + 1) ⟨(i : Int), sX, 0⟩ _ (by omega) h (by rw [Hlen.out]; omega) Gn.out).mono ?_; rintro e w7 ⟨rfl, O7⟩; rw [Her.out] at O7
      clear O6
      go_wp2_with (fail)
      have O8 := O7.push (.cells #[.int .i64 (i : Int), .string sX] 32)
      refine (O8.left fun F h => takeM_in _ _ _ F i ⟨(i : Int), sX, 0⟩ h (by rw [numbered_len]; omega) (numbered_get (by omega))).mono ?_; rintro e w8 ⟨rfl, O9⟩
      clear O7 O8
      go_wp2_with (fail)
      have O10 := O9.push (.cells #[.int .i64 (i : Int), .string sX] 32)
      obtain ⟨F10, hM10⟩ := O10.one
      have hL := len_quiet hM10
      rw [List.length_eraseIdx, if_pos (by rw [numbered_len]; omega), numbered_len] at hL
      have hend := O10.end
      have hgk := O10.kept (k := g) (List.mem_cons_of_mem _ (List.mem_cons_of_mem _ (List.mem_singleton.2 rfl)))
      have hxk := O10.kept (k := w7.heap.size) (List.mem_cons_of_mem _ (List.mem_cons_self))
      have hyk := O10.kept (k := w8.heap.size) (List.mem_cons_self)
      have x0 := cell_of_blk (j := 0) hxk; have x1 := cell_of_blk (j := 1) hxk
      have y0 := cell_of_blk (j := 0) hyk; have y1 := cell_of_blk (j := 1) hyk
      have p0 := (cell_of_blk (j := (n + 1) * 2) hgk).trans Hcn.out.1; have p1 := (cell_of_blk (j := (n + 1) * 2 + 1) hgk).trans Hcn.out.2
      have q0 := (cell_of_blk (j := i * 2) hgk).trans Hci.out.1; have q1 := (cell_of_blk (j := i * 2 + 1) hgk).trans Hci.out.2
      have g1 : Try.prog.eqGuardType Try.prog.depth 32 = false := by kernel_rfl
      have g2 : ∀ W, (Op.equalIn 10000 32 (.agg #[.int .i64 (i : Int), .string sX]) (.agg #[.int .i64 (i : Int), .string sX])).run Try.prog W = .ok true W := fun W => by
        have := eqMs W ⟨(i : Int), sX⟩ ⟨(i : Int), sX⟩
        rw [this]; simp [msEq]
      have t1 : ((l2.length : Int) == 1 + (n : Int) + 1) = true := by have := Hlen.out; simp; omega
      have t2 : (1 + (n : Int)).toNat = n + 1 := by omega
      have t3 : 1 + (n : Int) < (l2.length : Int) := by have := Hlen.out; omega
      have t4 : (i : Int) < (l2.length : Int) := by have := Hlen.out; omega
      clear hgk hxk hyk O10 O9 hM10
      simp only [List.getElem?_toArray, List.getElem?_cons_zero, List.getElem?_cons_succ] at x0 x1 y0 y1
      generalize hW9 : w8.alloc (.cells #[.int .i64 (i : Int), .string sX] 32) = w9 at *
      have HW9 := Lib.hid hW9; clear hW9
      go_quiet ((go_at_call 24; exact Calls.quiet_of_same (hL _)))
      clear g1 g2
      go_wp2
      go_ret
      refine ⟨ret_bool (by simp; omega), hb1.trans (Below.mono (B := w1.heap.size) ?_ hb1.size)⟩
      exact ⟨hend.os, hend.tape, hend.output, hend.size, hend.block⟩
end Go.Proofs.Ytdkebkalcelgpaa.Mail
