/- The wire (chapter 1): texts, walked. -/
import Derived.Test.YtgpddngbccecfaaDoorWe
import Derived.Test.YtgpddngbccecfaaDoorWc
namespace Go.Proofs.YtgpddngbccecfaaDoor.Wire
open Go.RowKit
open Path (Bs bs mk bs_mk mk_bs tl_bs mk_size)
set_option linter.unusedSimpArgs false
set_option linter.unusedVariables false
theorem mk_app (a b : Bs) : mk a ++ mk b = mk (a ++ b) := by
  apply Path.bs_inj
  have : bs (mk a ++ mk b) = bs (mk a) ++ bs (mk b) := by simp [bs]
  rw [this, bs_mk, bs_mk, bs_mk]
theorem mk_appb (a : Bs) (s : ByteArray) : mk a ++ s = mk (a ++ bs s) := by
  conv => lhs; rw [← mk_bs s]
  rw [mk_app]
/-- A text's bytes. -/
def textB (s : Bs) : Bs := numB s.length ++ s
def textT (b : Bs) : Option (Bs × Bs) := match takeN b with
  | none => none
  | some (n, r) => if 0 ≤ n ∧ n ≤ 4000 ∧ n ≤ (r.length : Int) then some (r.take n.toNat, r.drop n.toNat) else none
theorem textT_textB (s r : Bs) (h : s.length ≤ 4000) : textT (textB s ++ r) = some (s, r) := by
  rw [textT, textB, List.append_assoc, take_num (by constructor <;> omega)]
  simp only []
  rw [if_pos ⟨by omega, by omega, by rw [List.length_append]; omega⟩, Int.toNat_natCast, List.take_left, List.drop_left]
theorem vb_len : ∀ (k z : Nat), z < 128 ^ (k + 1) → (vb z).length ≤ k + 1
  | 0, z, h => by rw [vb_last (by omega)]; exact Nat.le_refl _
  | k + 1, z, h => by
    by_cases h1 : z < 128
    · rw [vb_last h1]; simp
    · rw [vb.eq_def, if_neg h1, List.length_cons]
      have := vb_len k (z / 128) (by rw [Nat.pow_succ] at h; exact Nat.div_lt_of_lt_mul (by rw [Nat.mul_comm]; exact h))
      omega
theorem numB_len {n : Int} (h : inI n) : (numB n).length ≤ 10 := by
  have h2 : (128 : Nat) ^ 10 = 1180591620717411303424 := by decide
  have := zig_lt h
  exact vb_len 9 _ (by rw [h2]; omega)
set_option maxHeartbeats 4000000 in
theorem text_calls (w : World) (s : ByteArray) (hs : s.size ≤ 140737488355328) : Calls Tryd.prog 15 #[.string s] w fun e w' =>
    (s.size ≤ 4000 ∧ e = .returned (.tuple #[.string (mk (textB (bs s))), .int .i64 0]) ∨ ¬ s.size ≤ 4000 ∧ e = .returned (.tuple #[.string ⟨#[]⟩, .int .i64 4])) ∧ Below w.heap.size w w' := by
  have hn := num_calls w s.size (by constructor <;> omega)
  have ht : mk (numB (s.size : Int)) ++ s = mk (textB (bs s)) := by rw [mk_appb, textB, Path.bs_len]
  have hl := mk_size (numB (s.size : Int))
  have hl2 := numB_len (n := s.size) (by constructor <;> omega)
  go_enter Tryd.func15, Tryd.ntmps15
  by_cases h : s.size ≤ 4000
  · have h1 : decide (4000 < (s.size : Int)) = false := decide_eq_false (by omega)
    go_wp2_with (fail)
    refine hn.mono ?_
    rintro e w1 ⟨rfl, hb⟩
    go_wp2_with (fail)
    go_ret2
    exact ⟨.inl ⟨h, rfl⟩, hb⟩
  · have h1 : decide (4000 < (s.size : Int)) = true := decide_eq_true (by omega)
    go_wp2_with (fail)
    go_ret2
    exact ⟨.inr ⟨h, rfl⟩, Below.refl _ _⟩
set_option maxHeartbeats 4000000 in
theorem rtext_calls (w : World) (s : ByteArray) (hs : s.size ≤ 140737488355328) : Calls Tryd.prog 19 #[.string s] w fun e w' =>
    (s.size ≤ 4000 ∧ e = .returned (.tuple #[.string (mk (textB (bs s))), .bool true]) ∨ ¬ s.size ≤ 4000 ∧ e = .returned (.tuple #[.string ⟨#[]⟩, .bool false])) ∧ Below w.heap.size w w' := by
  have hn := rnum_calls w s.size (by constructor <;> omega)
  have ht : mk (numB (s.size : Int)) ++ s = mk (textB (bs s)) := by rw [mk_appb, textB, Path.bs_len]
  have hl := mk_size (numB (s.size : Int))
  have hl2 := numB_len (n := s.size) (by constructor <;> omega)
  go_enter Tryd.func19, Tryd.ntmps19
  by_cases h : s.size ≤ 4000
  · have h1 : decide (4000 < (s.size : Int)) = false := decide_eq_false (by omega)
    go_wp2_with (fail)
    refine hn.mono ?_
    rintro e w1 ⟨rfl, hb⟩
    go_wp2_with (fail)
    go_ret2
    exact ⟨.inl ⟨h, rfl⟩, hb⟩
  · have h1 : decide (4000 < (s.size : Int)) = true := decide_eq_true (by omega)
    go_wp2_with (fail)
    go_ret2
    exact ⟨.inr ⟨h, rfl⟩, Below.refl _ _⟩
/-- What TakeText tells. -/
def TakeTextP (w : World) (s : Bs) (e : Ending) (w' : World) : Prop :=
  (∃ a r, textT s = some (a, r) ∧ e = .returned (.tuple #[.string (mk a), .string (mk r), .int .i64 0]) ∨ textT s = none ∧ e = .returned (.tuple #[.string ⟨#[]⟩, .string ⟨#[]⟩, .int .i64 2])) ∧ Below w.heap.size w w'
theorem textT_none {s : Bs} (h : takeN s = none) : textT s = none := by rw [textT, h]
theorem textT_some {s r : Bs} {n : Int} (h : takeN s = some (n, r)) (hn : 0 ≤ n ∧ n ≤ 4000 ∧ n ≤ (r.length : Int)) : textT s = some (r.take n.toNat, r.drop n.toNat) := by
  rw [textT, h]; exact if_pos hn
theorem textT_no {s r : Bs} {n : Int} (h : takeN s = some (n, r)) (hn : ¬ (0 ≤ n ∧ n ≤ 4000 ∧ n ≤ (r.length : Int))) : textT s = none := by
  rw [textT, h]; exact if_neg hn
theorem take_bs (r : Bs) (k : Nat) : (mk r).extract 0 k = mk (r.take k) := by
  apply Path.bs_inj
  rw [bs_mk]
  simp [bs, mk, ByteArray.data_extract]
theorem drop_mk (r : Bs) (k : Nat) : (mk r).extract k (mk r).size = mk (r.drop k) := by rw [drop_bs, bs_mk]
set_option maxHeartbeats 4000000 in
theorem taket_calls (w : World) (s : ByteArray) (hs : s.size ≤ 140737488355328) : Calls Tryd.prog 36 #[.string s] w (TakeTextP w (bs s)) := by
  have hn := taken_calls w s hs
  go_enter Tryd.func36, Tryd.ntmps36
  go_wp2_with (fail)
  refine hn.mono ?_
  rintro e w1 ⟨⟨n, r, ⟨ht, rfl⟩ | ⟨ht, rfl⟩⟩, hb⟩
  · have hin := (take_some ht).1
    have hms := mk_size r
    by_cases h0 : n < 0
    · have hno := textT_no ht (fun h => absurd h.1 (by omega))
      have Hno := Lib.hid hno
      clear hn hno ht
      go_wp2_with (fail)
      go_ret3
      exact ⟨⟨[], [], .inr ⟨Hno.out, rfl⟩⟩, hb⟩
    · obtain ⟨m, rfl⟩ : ∃ m : Nat, n = (m : Int) := ⟨n.toNat, by omega⟩
      have h00 : decide ((m : Int) < 0) = false := decide_eq_false h0
      by_cases h1 : (m : Int) ≤ 4000 ∧ (m : Int) ≤ (r.length : Int)
      · have hyes := textT_some ht ⟨by omega, h1.1, h1.2⟩
        rw [Int.toNat_natCast] at hyes
        have hd : decide (min 4000 ((mk r).size : Int) < (m : Int)) = false := decide_eq_false (by omega)
        have e1 := take_bs r m
        have e2 := drop_mk r m
        have g1 : (m : Int) ≤ ((mk r).size : Int) := by omega
        have g2 : m ≤ (mk r).size := by omega
        have g3 : (0 : Int) ≤ (m : Int) := by omega
        have Hy := Lib.hid hyes; have E1 := Lib.hid e1; have E2 := Lib.hid e2
        clear hn hyes ht e1 e2
        generalize mk r = R at *
        clear hin hms h1
        go_wp2_with (fail)
        go_quiet (fail)
        go_wp2_with (fail)
        go_ret3
        rw [E1.out, E2.out]
        exact ⟨⟨_, _, .inl ⟨Hy.out, rfl⟩⟩, hb.trans ((Path.below_drewN _ nq).mono hb.size)⟩
      · have hno := textT_no ht (fun h => h1 ⟨h.2.1, h.2.2⟩)
        have hd : decide (min 4000 ((mk r).size : Int) < (m : Int)) = true := decide_eq_true (by omega)
        have Hno := Lib.hid hno
        clear hn hno ht
        go_wp2_with (fail)
        go_ret3
        exact ⟨⟨[], [], .inr ⟨Hno.out, rfl⟩⟩, hb⟩
  · have hno := textT_none ht
    have Hno := Lib.hid hno
    clear hn hno ht
    go_wp2_with (fail)
    go_ret3
    exact ⟨⟨[], [], .inr ⟨Hno.out, rfl⟩⟩, hb⟩
end Go.Proofs.YtgpddngbccecfaaDoor.Wire
