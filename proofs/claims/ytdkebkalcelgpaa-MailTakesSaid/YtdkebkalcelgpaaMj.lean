/- MailAges: whatever is on its way is gone when as many ticks have passed. -/
import Derived.Test.YtdkebkalcelgpaaMi
namespace Go.Proofs.Ytdkebkalcelgpaa.Mail
open Go.RowKit

/-- Ages m, m - 1, .., 1. -/
def cd : Nat → List Int
  | 0 => []
  | m + 1 => ((m : Int) + 1) :: cd m
theorem cd_len (m : Nat) : (cd m).length = m := by
  induction m with
  | zero => rfl
  | succ m ih => simp [cd, ih]
theorem cd_up (m : Nat) : (cd m ++ [0]).map (· + 1) = cd (m + 1) := by
  induction m with
  | zero => simp [cd]
  | succ m ih => simp only [cd, List.cons_append, List.map_cons, ih]; simp
theorem cd_lt {m : Nat} {a : Int} (h : a ∈ cd m) : 1 ≤ a ∧ a ≤ m := by
  induction m with
  | zero => simp [cd] at h
  | succ m ih =>
    simp only [cd, List.mem_cons] at h
    rcases h with rfl | h
    · omega
    · have := ih h; omega
theorem cd_keep (m : Nat) (t : Int) (h : (m : Int) < t) : (cd m ++ [0]).filter (fun a => !(decide (t < 1) || decide (a ≥ t))) = cd m ++ [0] := by
  rw [List.filter_eq_self]
  intro a ha
  rw [List.mem_append] at ha
  rcases ha with ha | ha
  · have := cd_lt ha; simp; omega
  · simp at ha; subst ha; simp; omega
def ages (l : List Ag) : List Int := l.map (·.age)
theorem ages_ageL (t : Int) (l : List Ag) : ages (ageL t l) = ((ages l).filter (fun a => !(decide (t < 1) || decide (a ≥ t)))).map (· + 1) := by
  induction l with
  | nil => rfl
  | cons x l ih =>
    simp only [ages, ageL] at ih ⊢
    by_cases h : stays t x = true
    · have h' : (!(decide (t < 1) || decide (x.age ≥ t))) = true := h
      simp only [List.filter_cons, List.map_cons, h, h', if_true, inc, List.cons.injEq, true_and]
      exact ih
    · have h' : ¬ (!(decide (t < 1) || decide (x.age ≥ t))) = true := h
      simp only [List.filter_cons, List.map_cons, h, h', if_false, Bool.false_eq_true]
      exact ih
theorem ageL_len (t : Int) (l : List Ag) : ageN t l = (l.length : Int) - (ageL t l).length := by simp [ageN, ageL]
theorem ages_len (l : List Ag) : (ages l).length = l.length := by simp [ages]
/-- One round: one more is sent, and a tick passes. -/
theorem round_ages {l : List Ag} {m : Nat} {t x : Int} {d : ByteArray} (h : ages l = cd m) (hm : (m : Int) ≤ t) (ht : 1 ≤ t) :
    ages (ageL t (l ++ [⟨x, d, 0⟩])) = cd (min (m + 1) t.toNat) ∧ ageN t (l ++ [⟨x, d, 0⟩]) = if (m : Int) < t then 0 else 1 := by
  have e : ages (l ++ [⟨x, d, 0⟩]) = cd m ++ [0] := by rw [← h]; simp [ages]
  have hl : l.length = m := by rw [← ages_len, h, cd_len]
  have key : ages (ageL t (l ++ [⟨x, d, 0⟩])) = cd (min (m + 1) t.toNat) := by
    rw [ages_ageL, e]
    by_cases hlt : (m : Int) < t
    · rw [cd_keep m t hlt, cd_up, show min (m + 1) t.toNat = m + 1 by omega]
    · obtain rfl : t = (m : Int) := by omega
      obtain ⟨q, rfl⟩ : ∃ q, m = q + 1 := ⟨m - 1, by omega⟩
      rw [show min (q + 1 + 1) (((q + 1 : Nat) : Int)).toNat = q + 1 by omega]
      have h0 : (!(decide (((q + 1 : Nat) : Int) < 1) || decide (((q : Int) + 1) ≥ ((q + 1 : Nat) : Int)))) = false := by simp
      simp only [cd, List.cons_append, List.filter_cons, h0, Bool.false_eq_true, if_false]
      rw [cd_keep q _ (by omega), cd_up]; rfl
  refine ⟨key, ?_⟩
  rw [ageL_len, ← ages_len (ageL t _), key, cd_len, List.length_append, hl]
  split <;> simp <;> omega

theorem ages_ok {w : Nat} {l : List Ag} (h : ages l = cd w) (hw : w ≤ 1000) : ∀ x ∈ l, 0 ≤ x.age ∧ x.age ≤ 1000000 := by
  intro x hx
  have : x.age ∈ cd w := by rw [← h]; exact List.mem_map.2 ⟨x, hx, rfl⟩
  have := cd_lt this
  omega

theorem ages_snoc_ok {w : Nat} {l : List Ag} (h : ages l = cd w) (hw : w ≤ 1000) (t : Int) (d : ByteArray) : ∀ x ∈ l ++ [⟨t, d, 0⟩], 0 ≤ x.age ∧ x.age ≤ 1000000 := by
  intro x hx
  rw [List.mem_append] at hx
  rcases hx with hx | hx
  · exact ages_ok h hw x hx
  · simp at hx; subst hx; simp

theorem send_small {l : List Ag} (h : l.length < 50) (t : Int) : sendL l t ByteArray.empty = l ++ [⟨t, ByteArray.empty, 0⟩] ∧ sendE l ByteArray.empty = 0 := by
  have hn : ¬ (50 ≤ l.length ∨ 4000 < ByteArray.empty.size) := by simp; omega
  exact ⟨by rw [sendL, if_neg hn], by rw [sendE, if_neg hn]⟩

theorem law_ages (a0 a1 : Int) (w : World) (h0 : -9223372036854775808 ≤ a0 ∧ a0 ≤ 9223372036854775807) (h1 : -9223372036854775808 ≤ a1 ∧ a1 ≤ 9223372036854775807) :
    Calls Try.prog 5 #[.int .i64 a0, .int .i64 a1] w fun e w' => e = .returned (.bool true) ∧ Below w.heap.size w w' := by
  have hp0 := fun W => pick_calls W a0 31 h0.1 h0.2 (by omega) (by omega)
  have hp1 := fun W => pick_calls W a1 40 h1.1 h1.2 (by omega) (by omega)
  have b0 := pickI_bd a0 31 (by omega)
  have b1 := pickI_bd a1 40 (by omega)
  generalize pickI a0 31 = n at *
  generalize pickI a1 40 = t at *
  obtain ⟨b00, b01⟩ := b0
  obtain ⟨b10, b11⟩ := b1
  have hex := examples_calls w
  go_enter Try.func5, Try.ntmps5
  go_wp2_with (first
    | (go_at_call 11; refine hex.mono ?_; rintro e w1 ⟨rfl, hb1⟩)
    | (go_at_call 12; refine (new_calls _).mono ?_; rintro e w2 ⟨rfl, rfl⟩)
    | (go_at_call_of 13 a0; refine (hp0 _).mono ?_; rintro e w3 ⟨rfl, rfl⟩)
    | (go_at_call_of 13 a1; refine (hp1 _).mono ?_; rintro e w3 ⟨rfl, rfl⟩))
  obtain ⟨T, hT⟩ : ∃ T, T = 1 + t := ⟨_, rfl⟩
  have hT1 : 1 ≤ T := by omega
  have hT2 : T ≤ 40 := by omega
  rw [← hT]
  clear hT hp0 hp1 hex h0 h1 b10 b11
  have O1 := new_one w1
  generalize hW : w1.alloc (.cells #[.slice none 0 0] 75) = w2 at *
  clear hW
  go_loopw [7] (fun vi wr => ∃ (i : Nat) (l : List Ag), vi = .int .i64 i ∧ (i : Int) ≤ n ∧ One w1 wr w1.heap.size l [] ∧ ages l = cd (min i T.toNat)) (fun vi _ => (n - intOf vi).toNat)
  case atStart => exact ⟨0, [], rfl, by omega, O1, by simp [ages, cd]⟩
  case round =>
    obtain ⟨i, l, rfl, hin, O, hag⟩ := hrel
    have hlen : l.length = min i T.toNat := by rw [← ages_len, hag, cd_len]
    by_cases hlt : (i : Int) < n
    · have hS := O.left (R := fun e => e = .returned (.int .i64 0)) (l' := l ++ [⟨(i : Int), ByteArray.empty, 0⟩]) (fun F h => by have := send_calls wr _ l F (i : Int) ByteArray.empty h (by omega) (by decide); rwa [(send_small (by omega) (i : Int)).1, (send_small (by omega) (i : Int)).2] at this)
      have hok := ages_snoc_ok hag (by omega) (i : Int) ByteArray.empty
      obtain ⟨hr1, hr2⟩ := round_ages (x := (i : Int)) (d := ByteArray.empty) hag (t := T) (by omega) hT1
      have hA := fun (W : World) (h : One w1 W w1.heap.size (l ++ [⟨(i : Int), ByteArray.empty, 0⟩]) []) => h.left (fun F h => age_calls W _ _ F T h (by simp; omega) hok)
      have hl2 : (ageL T (l ++ [⟨(i : Int), ByteArray.empty, 0⟩])).length = min (min i T.toNat + 1) T.toNat := by rw [← ages_len, hr1, cd_len]
      have hL := fun (W : World) (F : Nat → Prop) (h : MailR W w1.heap.size (ageL T (l ++ [⟨(i : Int), ByteArray.empty, 0⟩])) F) => len_calls W _ _ F h
      generalize ageL T (l ++ [⟨(i : Int), ByteArray.empty, 0⟩]) = l2 at *
      generalize ageN T (l ++ [⟨(i : Int), ByteArray.empty, 0⟩]) = g at *
      have Hr1 := Lib.hid hr1; clear hr1
      have Hag := Lib.hid hag; clear hag
      have Hlen := Lib.hid hlen; clear hlen
      have Hl2 := Lib.hid hl2; clear hl2
      clear hok
      by_cases hiT : (i : Int) < T
      · obtain rfl : g = 0 := by rw [hr2, if_pos (by omega)]
        have hl3 : ((l2.length : Int) != (i : Int) + 1) = false := by simp; have := Hl2.out; omega
        clear hr2
        go_wp2_with (first
          | (go_at_call 14; refine hS.mono ?_; rintro e w3 ⟨rfl, O3⟩)
          | (go_at_call 20; refine (hA _ O3).mono ?_; rintro e w4 ⟨rfl, O4⟩; obtain ⟨F4, hM4⟩ := O4.one; have hL4 := hL _ F4 hM4)
          | (go_at_call 24; refine hL4.mono ?_; rintro e w5 ⟨rfl, rfl⟩))
        go_roundw
        case rel => exact ⟨i + 1, l2, by go_num, by omega, O4, by rw [Hr1.out, show min (min i T.toNat + 1) T.toNat = min (i + 1) T.toNat by omega]⟩
        case measure => simp [intOf]; omega
      · obtain rfl : g = 1 := by rw [hr2, if_neg (by omega)]
        have hl3 : ((l2.length : Int) != T) = false := by simp; have := Hl2.out; omega
        clear hr2
        go_wp2_with (first
          | (go_at_call 14; refine hS.mono ?_; rintro e w3 ⟨rfl, O3⟩)
          | (go_at_call 20; refine (hA _ O3).mono ?_; rintro e w4 ⟨rfl, O4⟩; obtain ⟨F4, hM4⟩ := O4.one; have hL4 := hL _ F4 hM4)
          | (go_at_call 24; refine hL4.mono ?_; rintro e w5 ⟨rfl, rfl⟩))
        go_roundw
        case rel => exact ⟨i + 1, l2, by go_num, by omega, O4, by rw [Hr1.out, show min (min i T.toNat + 1) T.toNat = min (i + 1) T.toNat by omega]⟩
        case measure => simp [intOf]; omega
    · have hall : ageL 0 l = [] ∧ ageN 0 l = l.length := by
        have : l.filter (stays 0) = [] := List.filter_eq_nil_iff.2 fun x _ => by simp [stays, lateB]
        simp [ageL, ageN, this]
      obtain ⟨F, hM⟩ := O.one
      have hL0 := len_calls wr _ _ F hM
      have hA := O.left (fun F h => age_calls wr _ _ F 0 h (by omega) (ages_ok hag (by omega)))
      rw [hall.1, hall.2] at hA
      have hL := fun (W : World) (F : Nat → Prop) (h : MailR W w1.heap.size [] F) => len_calls W _ _ F h
      have hself : ((l.length : Int) == (l.length : Int)) = true := by simp
      clear hall hag hM hlen O
      go_wp2_with (first
        | (go_at_call 20; refine hA.mono ?_; rintro e w4 ⟨rfl, O4⟩; obtain ⟨F4, hM4⟩ := O4.one; have hL4 := hL _ F4 hM4; clear hL0)
        | (go_at_call 24; refine hL0.mono ?_; rintro e w5 ⟨rfl, rfl⟩)
        | (go_at_call 24; refine hL4.mono ?_; rintro e w5 ⟨rfl, rfl⟩))
      go_ret
      exact ⟨rfl, hb1.trans (O4.end.mono hb1.size)⟩
end Go.Proofs.Ytdkebkalcelgpaa.Mail
