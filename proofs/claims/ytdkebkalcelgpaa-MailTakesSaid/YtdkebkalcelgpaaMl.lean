/- MailTakes: what is sent is taken, each once, in whatever order it is taken. -/
import Derived.Test.YtdkebkalcelgpaaMj
import Derived.Test.YtdkebkalcelgpaaMk
import Derived.Test.YtdkebkalcelgpaaO
namespace Go.Proofs.Ytdkebkalcelgpaa.Mail
open Go.RowKit

/-- What was sent in the first k rounds. -/
def plainN (k : Nat) : List Ag := (List.range k).map fun (j : Nat) => (⟨(j : Int), ByteArray.empty, 0⟩ : Ag)
theorem plainN_len (k : Nat) : (plainN k).length = k := by simp [plainN]
theorem plainN_succ (k : Nat) : plainN (k + 1) = plainN k ++ [⟨(k : Int), ByteArray.empty, 0⟩] := by simp [plainN, List.range_succ]

/-- All that is still there has a number of its own, below n, that has not been met. -/
structure Unmet (n : Nat) (l : List Ag) (met : List Bool) : Prop where
  len : met.length = n
  apart : l.Pairwise (fun x y => x.to ≠ y.to)
  all : ∀ x ∈ l, 0 ≤ x.to ∧ x.to < n ∧ met[x.to.toNat]? = some false

theorem Unmet.start (n : Nat) : Unmet n (plainN n) (List.replicate n false) := by
  refine ⟨by simp, ?_, fun x hx => ?_⟩
  · rw [plainN, List.pairwise_map]
    exact List.pairwise_lt_range.imp fun h => by simp; omega
  · simp only [plainN, List.mem_map, List.mem_range] at hx
    obtain ⟨j, hj, rfl⟩ := hx
    refine ⟨by simp, by simpa using hj, by simp [hj]⟩
theorem Unmet.next {n : Nat} {l : List Ag} {met : List Bool} {k : Nat} {x : Ag} (h : Unmet n l met) (hx : l[k]? = some x) : Unmet n (l.eraseIdx k) (met.set x.to.toNat true) := by
  have hk := (List.getElem?_eq_some_iff.1 hx).1
  refine ⟨by simp [h.len], h.apart.sublist (List.eraseIdx_sublist _ _), fun y hy => ?_⟩
  obtain ⟨q, hqk, hq⟩ := List.mem_eraseIdx_iff_getElem?.1 hy
  obtain ⟨hq1, hq2⟩ := List.getElem?_eq_some_iff.1 hq
  obtain ⟨_, hx2⟩ := List.getElem?_eq_some_iff.1 hx
  obtain ⟨y0, y1, y2⟩ := h.all y (List.mem_of_getElem? hq)
  obtain ⟨x0, x1, x2⟩ := h.all x (List.mem_of_getElem? hx)
  refine ⟨y0, y1, ?_⟩
  have hp := List.pairwise_iff_getElem.1 h.apart
  have hne : x.to ≠ y.to := by
    rw [← hx2, ← hq2]
    rcases Nat.lt_or_gt_of_ne hqk with hlt | hgt
    · exact (hp q k hq1 hk hlt).symm
    · exact hp k q hk hq1 hgt
  rw [List.getElem?_set_ne (by omega)]
  exact y2

theorem infoB : (Try.prog.info? 4).map (fun i => (i.zero, i.size, i.bytes)) = some (some (.bool false), 1, 1) := by kernel_rfl

set_option maxHeartbeats 4000000 in
theorem law_takes (a0 : Int) (v1 : Value) (ord : List Int) (w : World) (h0 : -9223372036854775808 ≤ a0 ∧ a0 ≤ 9223372036854775807) (h1 : Rd w 1 encI v1 ord ∧ (∀ a ∈ ord, inI a) ∧ ord.length * 8 ≤ 140737488351232) :
    Calls Try.prog 4 #[.int .i64 a0, v1] w fun e w' => e = .returned (.bool true) ∧ Below w.heap.size w w' := by
  have hp0 := fun W => pick_calls W a0 51 h0.1 h0.2 (by omega) (by omega)
  have b0 := pickI_bd a0 51 (by omega)
  obtain ⟨n, hn⟩ : ∃ n : Nat, pickI a0 51 = n := ⟨(pickI a0 51).toNat, by omega⟩
  rw [hn] at hp0 b0
  obtain ⟨_, b01⟩ := b0
  obtain ⟨hrd, hin, hol⟩ := h1
  have hcell : ∀ W, Below w.heap.size w W → ∀ k x, ord[k]? = some x → ∃ b off cap, v1 = .slice (some ⟨b, off, none⟩) ord.length cap ∧ W.cell? ⟨b, off + k, none⟩ = some (.int .i64 x) := fun W hW k x hx => by
    obtain ⟨ao, cap, hv, _, _, hc⟩ := hrd.below hW (Nat.le_refl _)
    obtain ⟨b, off, rfl, _, hcc⟩ := hc k x hx
    exact ⟨b, off, cap, hv, by have := hcc 0 _ rfl; simpa using this⟩
  obtain ⟨ao, cap0, hv1⟩ : ∃ ao cap, v1 = .slice ao ord.length cap := by obtain ⟨ao, cap, hv, _⟩ := hrd; exact ⟨ao, cap, hv⟩
  subst hv1
  have hex := examples_calls w
  have Hcell := Lib.hid hcell
  have Hin := Lib.hid hin
  clear hn h0 hrd hcell hin
  go_enter Try.func4, Try.ntmps4
  go_wp2_with (first
    | (go_at_call 11; refine hex.mono ?_; rintro e w1 ⟨rfl, hb1⟩)
    | (go_at_call 12; refine (new_calls _).mono ?_; rintro e w2 ⟨rfl, rfl⟩)
    | (go_at_call_of 13 a0; refine (hp0 _).mono ?_; rintro e w3 ⟨rfl, rfl⟩))
  have O1 := new_one w1
  generalize hW : w1.alloc (.cells #[.slice none 0 0] 75) = w2 at *
  clear hW hp0 hex
  go_loopw [7] (fun vk wr => ∃ (k : Nat), vk = .int .i64 k ∧ k ≤ n ∧ One w1 wr w1.heap.size (plainN k) []) (fun vk _ => (n - intOf vk).toNat)
  case atStart => exact ⟨0, rfl, by omega, O1⟩
  case round =>
    obtain ⟨k, rfl, hkn, O⟩ := hrel
    by_cases hlt : k < n
    · have hS := O.left (R := fun e => e = .returned (.int .i64 0)) (l' := plainN (k + 1)) (fun F h => by
        have := send_calls wr _ _ F (k : Int) ByteArray.empty h (by rw [plainN_len]; omega) (by decide)
        have hs := send_small (l := plainN k) (by rw [plainN_len]; omega) (k : Int)
        rw [hs.1, hs.2, ← plainN_succ] at this
        exact this)
      go_wp2_with (go_at_call 14; refine hS.mono ?_; rintro e w3 ⟨rfl, O3⟩)
      go_roundw
      case rel => exact ⟨k + 1, by go_num, by omega, O3⟩
      case measure => simp [intOf]; omega
    · obtain rfl : k = n := by omega
      clear hlt hkn
      have hfull := O.left (R := fun e => e = .returned (.int .i64 (sendE (plainN k) ByteArray.empty))) (fun F h => send_calls wr _ _ F 0 ByteArray.empty h (by rw [plainN_len]; omega) (by decide))
      by_cases h50 : k = 50
      case' pos =>
        have hk50 : ((k : Int) == 50) = true := by simp; omega
        have e4 : sendE (plainN k) ByteArray.empty = 4 := by rw [sendE, if_pos (by rw [plainN_len]; omega)]
        have e5 : sendL (plainN k) 0 ByteArray.empty = plainN k := by rw [sendL, if_pos (by rw [plainN_len]; omega)]
        rw [e4, e5] at hfull
        have H50 := Lib.hid h50; clear h50 e4 e5 O
        go_wp2_with (first | (go_at_call 14; refine hfull.mono ?_; rintro e w3 ⟨rfl, O3⟩) | (at_make; refine wpList_make1 Try.underlying47 infoB rfl rfl _ _ rfl k _ _ rfl rfl (by omega) (by unfold maxLen; omega) ?_))
        clear hfull hk50 H50
      case' neg =>
        have hk50 : ((k : Int) == 50) = false := by simp; omega
        clear h50 hfull
        go_wp2_with (at_make; refine wpList_make1 Try.underlying47 infoB rfl rfl _ _ rfl k _ _ rfl rfl (by omega) (by unfold maxLen; omega) ?_)
        clear hk50
        have O3 := O
        clear O
        obtain ⟨w3, hw3⟩ : ∃ W, W = wr := ⟨wr, rfl⟩
        rw [← hw3] at O3 ⊢
        clear hw3
      all_goals
        have hz := O3.end.size
        have O4 := O3.push (.cells (Array.replicate k (.bool false)) 4)
        have hrep : Array.replicate k (Value.bool false) = ((List.replicate k false).map Value.bool).toArray := by simp
        rw [hrep] at O4 ⊢
        clear O3 hrep
        generalize hG : w3.heap.size = gm at *
        generalize hW4 : w3.alloc (.cells ((List.replicate k false).map Value.bool).toArray 4) = w4 at *
        clear hG hW4
        go_loopw [9] (fun vi wq => ∃ (i : Nat) (l : List Ag) (met : List Bool), vi = .int .i64 i ∧ i ≤ k ∧ l.length = k - i ∧ Unmet k l met ∧ One w1 wq w1.heap.size l [(gm, .cells (met.map Value.bool).toArray 4 (0, 0))]) (fun vi _ => (k - intOf vi).toNat)
        case atStart => exact ⟨0, plainN k, List.replicate k false, rfl, by omega, by rw [plainN_len]; omega, Unmet.start k, O4⟩
        case round =>
          obtain ⟨i, l, met, rfl, hik, hl, hun, O⟩ := hrel
          have Hl := Lib.hid hl; clear hl
          by_cases hlt : i < k
          · have hpk : ∀ kk : Nat, kk < k - i → ∃ x, l[kk]? = some x := fun kk hkk => ⟨l[kk]'(by have := Hl.out; omega), by simp⟩
            have hTk := fun (kk : Nat) (x : Ag) (j : Int) (hj : j = (kk : Int)) (hx : l[kk]? = some x) => O.left (R := fun e => e = .returned (.tuple #[.agg #[.int .i64 x.to, .string x.data], .bool true])) (l' := l.eraseIdx kk) (fun F h => takeM_at wr _ _ F kk x j hj h (by have := Hl.out; omega) hx)
            by_cases hio : i < ord.length
            · obtain ⟨a, ha⟩ : ∃ a, ord[i]? = some a := ⟨ord[i], by simp [hio]⟩
              obtain ⟨bo, oo, cc, hvv, hoc⟩ := Hcell.out wr (hb1.trans (O.end.mono hb1.size)) i a ha
              simp only [Value.slice.injEq, true_and] at hvv
              obtain ⟨rfl, rfl⟩ := hvv
              obtain ⟨i0, i1⟩ := Hin.out a (List.mem_of_getElem? ha)
              have hpi := fun W => pick_calls W a ((k : Int) - (i : Int)) i0 i1 (by omega) (by omega)
              obtain ⟨p0, p1⟩ := pickI_bd a ((k : Int) - (i : Int)) (by omega)
              obtain ⟨kk, hkk⟩ : ∃ kk : Nat, pickI a ((k : Int) - (i : Int)) = kk := ⟨(pickI a ((k : Int) - (i : Int))).toNat, by omega⟩
              rw [hkk] at hpi p0 p1
              obtain ⟨x, hx⟩ := hpk kk (by omega)
              obtain ⟨x0, x1, x2⟩ := hun.all x (List.mem_of_getElem? hx)
              have hT := hTk kk x (kk : Int) rfl hx
              have Ha := Lib.hid ha; have Hx := Lib.hid hx; have Hx2 := Lib.hid x2
              clear hkk ha hx x2 hpk hTk O
              go_wp2_with (first
                | (go_at_call 13; refine (hpi _).mono ?_; rintro e w5 ⟨rfl, rfl⟩)
                | (go_at_call 16; refine hT.mono ?_; rintro e w6 ⟨rfl, O6⟩; have hm6 := O6.kept (List.mem_singleton.2 rfl); have hm7 : w6.cell? ⟨gm, x.to.toNat, none⟩ = some (.bool false) := (cell_of_blk hm6).trans (by simp [Hx2.out]); have hm8 := free_of_blk (j := x.to.toNat) hm6; have hm9 := lt_of_block hm6; clear hm6))
              go_roundw
              case rel => exact ⟨i + 1, l.eraseIdx kk, met.set x.to.toNat true, by go_num, by omega, by rw [List.length_eraseIdx, if_pos (by have := Hl.out; omega)]; have := Hl.out; omega, hun.next Hx.out, by
                have h := (O6.poke (by omega) x.to.toNat (.bool true)).below ((Below.refl _ _).alloc (Nat.le_refl _) (.cells #[.int .i64 x.to, .string x.data] 32))
                simpa [List.map_set] using h⟩
              case measure => simp [intOf]; omega
            · obtain ⟨x, hx⟩ := hpk 0 (by omega)
              obtain ⟨x0, x1, x2⟩ := hun.all x (List.mem_of_getElem? hx)
              have hT := hTk 0 x 0 rfl hx
              have Hx := Lib.hid hx; have Hx2 := Lib.hid x2
              clear hx x2 hpk hTk O
              go_wp2_with (go_at_call 16; refine hT.mono ?_; rintro e w6 ⟨rfl, O6⟩; have hm6 := O6.kept (List.mem_singleton.2 rfl); have hm7 : w6.cell? ⟨gm, x.to.toNat, none⟩ = some (.bool false) := (cell_of_blk hm6).trans (by simp [Hx2.out]); have hm8 := free_of_blk (j := x.to.toNat) hm6; have hm9 := lt_of_block hm6; clear hm6)
              go_roundw
              case rel => exact ⟨i + 1, l.eraseIdx 0, met.set x.to.toNat true, by go_num, by omega, by rw [List.length_eraseIdx, if_pos (by have := Hl.out; omega)]; have := Hl.out; omega, hun.next Hx.out, by
                have h := (O6.poke (by omega) x.to.toNat (.bool true)).below ((Below.refl _ _).alloc (Nat.le_refl _) (.cells #[.int .i64 x.to, .string x.data] 32))
                simpa [List.map_set] using h⟩
              case measure => simp [intOf]; omega
          · obtain rfl : i = k := by omega
            obtain rfl : l = [] := List.eq_nil_of_length_eq_zero (by have := Hl.out; omega)
            have hT := O.left (R := fun e => e = .returned (.tuple #[.agg #[.int .i64 0, .string ByteArray.empty], .bool false])) (fun F h => takeM_out wr _ _ F 0 h (by simp) (by simp))
            clear O hlt hik hun
            go_wp2_with (first
              | (go_at_call 16; refine hT.mono ?_; rintro e w6 ⟨rfl, O6⟩; have O7 := O6.below ((Below.refl _ _).alloc (Nat.le_refl _) (.cells #[.int .i64 0, .string ByteArray.empty] 32)); obtain ⟨F7, hM7⟩ := O7.one; have hL := len_calls _ _ _ F7 hM7)
              | (go_at_call 24; refine hL.mono ?_; rintro e w7 ⟨rfl, rfl⟩))
            go_ret
            exact ⟨rfl, hb1.trans (O7.end.mono hb1.size)⟩
end Go.Proofs.Ytdkebkalcelgpaa.Mail
