/- The wire (chapter 1): TakeNum, walked. -/
import Derived.Test.YtgpddngbccecfaaDoorWd
namespace Go.Proofs.YtgpddngbccecfaaDoor.Wire
open Go.RowKit
open Path (Bs bs mk bs_mk mk_bs tl_bs)
set_option linter.unusedSimpArgs false
set_option linter.unusedVariables false
theorem drop_bs (s : ByteArray) (k : Nat) : s.extract k s.size = mk ((bs s).drop k) := by
  apply Path.bs_inj
  rw [bs_mk]
  simp [bs, ByteArray.data_extract]
  rw [List.take_of_length_le]
  simp [List.length_drop]
theorem at_k {s : ByteArray} {k : Nat} (hk : k < s.size) : bs s = (bs s).take k ++ s[k] :: (bs s).drop (k + 1) := by
  have hl : k < (bs s).length := by rw [Path.bs_len]; exact hk
  have h1 := List.drop_eq_getElem_cons hl
  have h2 := Path.bs_get hk
  rw [List.getElem?_eq_getElem hl] at h2
  have h3 := Option.some.inj h2
  rw [h3] at h1
  rw [← h1, List.take_append_drop]
theorem take_ok {s d r : Bs} {c : UInt8} (hs : s = d ++ c :: r) (hd : cont d = true) (hc : c.toNat < 128) (hn : d ≠ [] → c.toNat ≠ 0) (hz : zval (d ++ [c]) < 18446744073709551616) : takeN s = some (zag (zval (d ++ [c])), r) := by
  rw [takeN, hs, digits_mk d c r hd hc]
  simp only []
  rw [if_pos ⟨hz, hn⟩]
theorem take_zero {s d r : Bs} {c : UInt8} (hs : s = d ++ c :: r) (hd : cont d = true) (hc : c.toNat = 0) (hn : d ≠ []) : takeN s = none := by
  rw [takeN, hs, digits_mk d c r hd (by omega)]
  simp only []
  rw [if_neg (fun h => h.2 hn hc)]
theorem take_end {s : Bs} (h : cont s = true) : takeN s = none := by rw [takeN, digits_none.2 h]
theorem at_len (d r : Bs) (c : UInt8) : (d ++ c :: r)[d.length]? = some c := by simp
theorem take_big {s d r : Bs} {c : UInt8} (hs : s = d ++ c :: r) (hd : cont d = true) (h9 : d.length = 9) (hc : 1 < c.toNat) : takeN s = none := by
  rw [takeN]
  cases hx : digits s with
  | none => rfl
  | some x =>
    obtain ⟨d', c', r'⟩ := x
    obtain ⟨h1, h2, h3⟩ := digits_some hx
    simp only []
    rw [if_neg]
    rintro ⟨hz, hn⟩
    have hp9 : (128 : Nat) ^ 9 = 9223372036854775808 := by decide
    have hp10 : (128 : Nat) ^ 10 = 1180591620717411303424 := by decide
    rw [zval_snoc] at hz
    have hge : 9 ≤ d'.length := by
      by_cases h : 9 ≤ d'.length
      · exact h
      · exfalso
        have e1 : s[d'.length]? = some c' := by rw [h1]; simp
        have e2 : s[d'.length]? = d[d'.length]? := by rw [hs, List.getElem?_append_left (by omega)]
        rw [e2] at e1
        have := List.all_eq_true.1 hd c' (List.mem_of_getElem? e1)
        simp at this
        omega
    by_cases h10 : d'.length = 9
    · have e1 : s[d'.length]? = some c' := by rw [h1]; exact at_len _ _ _
      have e2 : s[d.length]? = some c := by rw [hs]; exact at_len _ _ _
      rw [h10] at e1
      rw [h9] at e2
      rw [e2] at e1
      cases e1
      rw [h10, hp9] at hz
      omega
    · have hpow : (128 : Nat) ^ 10 ≤ 128 ^ d'.length := Nat.pow_le_pow_right (by decide) (by omega)
      have hc1 : 1 ≤ c'.toNat % 128 := by
        have := hn (by intro e; rw [e] at hge; simp at hge)
        omega
      have := Nat.mul_le_mul hc1 hpow
      omega
/-- What TakeNum tells. -/
def TakeNumP (w : World) (s : Bs) (e : Ending) (w' : World) : Prop :=
  (∃ n r, takeN s = some (n, r) ∧ e = .returned (.tuple #[.int .i64 n, .string (mk r), .int .i64 0]) ∨ takeN s = none ∧ e = .returned (.tuple #[.int .i64 0, .string ⟨#[]⟩, .int .i64 2])) ∧ Below w.heap.size w w'
theorem and_u8 (c : UInt8) : bits BinOp.and IntKind.u8 (c.toNat : Int) 127 = ((c.toNat % 128 : Nat) : Int) := by
  have key : ∀ x : Fin 256, (BitVec.ofNat 8 x.val &&& 127#8).toNat = x.val % 128 := by decide +kernel
  have hc : c.toNat < 256 := c.toNat_lt
  have h1 : (BitVec.ofInt 8 (c.toNat : Int) &&& BitVec.ofInt 8 127).toNat = c.toNat % 128 := by
    have := key ⟨c.toNat, hc⟩
    have e1 : BitVec.ofInt 8 (c.toNat : Int) = BitVec.ofNat 8 c.toNat := by apply BitVec.eq_of_toNat_eq; simp
    have e2 : BitVec.ofInt 8 127 = 127#8 := by decide
    rw [e1, e2]; exact this
  show IntKind.u8.wrap ((BitVec.ofInt 8 (c.toNat : Int) &&& BitVec.ofInt 8 127).toNat : Int) = _
  rw [h1]
  simp only [IntKind.wrap, IntKind.signed, IntKind.bits]
  simp
  try omega
theorem pow7 (k : Nat) : (2 : Nat) ^ (7 * k) = 128 ^ k := by rw [Nat.pow_mul]
theorem pow_small {k c7 : Nat} (hk : k ≤ 9) (hc : c7 < 128) (h9 : k = 9 → c7 ≤ 1) : c7 * 128 ^ k < 18446744073709551616 := by
  by_cases e : k = 9
  · subst e
    have h1 := h9 rfl
    have h2 : (128 : Nat) ^ 9 = 9223372036854775808 := by decide
    rw [h2]; omega
  · have h1 : (128 : Nat) ^ k ≤ 128 ^ 8 := Nat.pow_le_pow_right (by decide) (by omega)
    have h2 : (128 : Nat) ^ 8 = 72057594037927936 := by decide
    have h3 : c7 * 128 ^ k ≤ 127 * 128 ^ 8 := Nat.mul_le_mul (by omega) h1
    omega
theorem or_u64 {z c7 k : Nat} (hk : k ≤ 9) (hz : z < 128 ^ k) (hc : c7 < 128) (h9 : k = 9 → c7 ≤ 1) : bits BinOp.or IntKind.u64 (z : Int) (IntKind.u64.wrap ((c7 : Int) * 2 ^ (7 * k))) = ((z + c7 * 128 ^ k : Nat) : Int) := by
  have hs := pow_small hk hc h9
  have hy : IntKind.u64.wrap ((c7 : Int) * 2 ^ (7 * k)) = ((c7 * 128 ^ k : Nat) : Int) := by
    have e : (c7 : Int) * 2 ^ (7 * k) = ((c7 * 128 ^ k : Nat) : Int) := by
      rw [← pow7, Int.natCast_mul, Int.natCast_pow]; rfl
    rw [wrapU, e]; omega
  have hz64 : z < 18446744073709551616 := by
    have h1 : (128 : Nat) ^ k ≤ 128 ^ 9 := Nat.pow_le_pow_right (by decide) hk
    have h2 : (128 : Nat) ^ 9 = 9223372036854775808 := by decide
    omega
  have hor : z ||| c7 * 128 ^ k = z + c7 * 128 ^ k := by
    have h := Nat.two_pow_add_eq_or_of_lt (i := 7 * k) (b := z) (by rw [pow7]; exact hz) c7
    rw [pow7, Nat.mul_comm] at h
    rw [Nat.or_comm, ← h, Nat.add_comm]
  rw [hy]
  show IntKind.u64.wrap ((BitVec.ofInt 64 (z : Int) ||| BitVec.ofInt 64 ((c7 * 128 ^ k : Nat) : Int)).toNat : Int) = _
  have e1 : (BitVec.ofInt 64 (z : Int)).toNat = z := by rw [BitVec.toNat_ofInt]; omega
  have e2 : (BitVec.ofInt 64 ((c7 * 128 ^ k : Nat) : Int)).toNat = c7 * 128 ^ k := by rw [BitVec.toNat_ofInt]; omega
  rw [BitVec.toNat_or, e1, e2, hor, wrapU]
  have h3 : z + c7 * 128 ^ k < 18446744073709551616 := by
    by_cases e : k = 9
    · subst e
      have h1 := h9 rfl
      have h2 : (128 : Nat) ^ 9 = 9223372036854775808 := by decide
      rw [h2] at hz ⊢
      omega
    · have h1 : (128 : Nat) ^ k ≤ 128 ^ 8 := Nat.pow_le_pow_right (by decide) (by omega)
      have h2 : (128 : Nat) ^ 8 = 72057594037927936 := by decide
      have h3 : c7 * 128 ^ k ≤ 127 * 128 ^ 8 := Nat.mul_le_mul (by omega) h1
      omega
  omega
theorem and_one (z : Nat) (h : z < 18446744073709551616) : bits BinOp.and IntKind.u64 (z : Int) 1 = ((z % 2 : Nat) : Int) := by
  show IntKind.u64.wrap ((BitVec.ofInt 64 (z : Int) &&& BitVec.ofInt 64 1).toNat : Int) = _
  have e1 : (BitVec.ofInt 64 (z : Int)).toNat = z := by rw [BitVec.toNat_ofInt]; omega
  have e2 : (BitVec.ofInt 64 1).toNat = 1 := by decide
  rw [BitVec.toNat_and, e1, e2, Nat.and_one_is_mod, wrapU]
  omega
theorem wrapI (x : Int) : IntKind.i64.wrap x = (x + 9223372036854775808) % 18446744073709551616 - 9223372036854775808 := by
  simp only [IntKind.wrap, IntKind.signed, IntKind.bits]
  simp
  split <;> omega
theorem zag_eq {z : Nat} (h : z < 18446744073709551616) : bits BinOp.xor IntKind.i64 (wrap64 ((z : Int) / 2)) (wrap64 (-wrap64 (bits BinOp.and IntKind.u64 (z : Int) 1))) = zag z := by
  rw [and_one z h, IntWalk.wrap64_in ((z : Int) / 2) (by constructor <;> omega), IntWalk.wrap64_in ((z % 2 : Nat) : Int) (by constructor <;> omega), IntWalk.wrap64_in (-((z % 2 : Nat) : Int)) (by constructor <;> omega)]
  show IntKind.i64.wrap ((BitVec.ofInt 64 ((z : Int) / 2) ^^^ BitVec.ofInt 64 (-((z % 2 : Nat) : Int))).toNat : Int) = _
  by_cases e : z % 2 = 0
  · have e2 : BitVec.ofInt 64 (-((0 : Nat) : Int)) = 0#64 := by decide
    rw [zag_even e, e, e2, BitVec.xor_zero, BitVec.toNat_ofInt, wrapI]
    omega
  · have e1 : z % 2 = 1 := by omega
    have e2 : BitVec.ofInt 64 (-((1 : Nat) : Int)) = BitVec.allOnes 64 := by decide
    rw [zag_odd e, e1, e2, BitVec.xor_allOnes, BitVec.toNat_not, BitVec.toNat_ofInt, wrapI]
    omega
theorem TakeNumP.yes {w w' : World} {s r : Bs} {n : Int} (h : takeN s = some (n, r)) (hb : Below w.heap.size w w') : TakeNumP w s (.returned (.tuple #[.int .i64 n, .string (mk r), .int .i64 0])) w' := ⟨⟨n, r, .inl ⟨h, rfl⟩⟩, hb⟩
theorem TakeNumP.no {w w' : World} {s : Bs} (h : takeN s = none) (hb : Below w.heap.size w w') : TakeNumP w s (.returned (.tuple #[.int .i64 0, .string ⟨#[]⟩, .int .i64 2])) w' := ⟨⟨0, [], .inr ⟨h, rfl⟩⟩, hb⟩
set_option maxRecDepth 8000 in
set_option maxHeartbeats 8000000 in
theorem taken_calls (w : World) (s : ByteArray) (hs : s.size ≤ 140737488355328) : Calls Tryd.prog 38 #[.string s] w (TakeNumP w (bs s)) := by
  go_enter Tryd.func38, Tryd.ntmps38
  go_wp2_with (fail)
  go_loopw [5, 6, 7, 8, 12] (fun v5 v6 _ _ v12 wr => ∃ k : Nat, v12 = .int .i64 k ∧ k ≤ s.size ∧ k ≤ 9 ∧ v5 = .int .u64 (zval ((bs s).take k)) ∧ v6 = .int .i64 ((7 * k : Nat) : Int) ∧ cont ((bs s).take k) = true ∧ wr = w) (fun _ _ _ _ v12 _ => 10 - (intOf v12).toNat)
  case atStart => exact ⟨0, rfl, Nat.zero_le _, by omega, rfl, rfl, rfl, rfl⟩
  case round =>
    obtain ⟨k, rfl, hk, hk9, rfl, rfl, hc, rfl⟩ := hrel
    have Hc := Lib.hid hc
    clear hc
    have hzl := zval_lt ((bs s).take k)
    rw [List.length_take, Path.bs_len, Nat.min_eq_left hk] at hzl
    have Hzl := Lib.hid hzl
    clear hzl
    by_cases hlt : k < s.size
    · have hat := at_k hlt
      have hdl : ((bs s).take k).length = k := by rw [List.length_take, Path.bs_len, Nat.min_eq_left hk]
      have hsnoc := zval_snoc ((bs s).take k) s[k]
      rw [hdl] at hsnoc
      have Hat := Lib.hid hat; have Hdl := Lib.hid hdl; have Hsn := Lib.hid hsnoc
      clear hat hdl hsnoc
      generalize hz : zval ((bs s).take k) = z at *
      have Hz := Lib.hid hz
      clear hz
      generalize hcc : s[k] = c at *
      have ha := and_u8 c
      have hc256 : c.toNat < 256 := c.toNat_lt
      have hlim : (k : Int) < min (s.size : Int) 10 := by omega
      by_cases hbig : k = 9 ∧ 1 < c.toNat
      · have hno : takeN (bs s) = none := take_big Hat.out Hc.out (by rw [Hdl.out]; exact hbig.1) hbig.2
        have h9 : ((k : Int) == 9) = true := by simp; omega
        have h91 : decide (1 < (c.toNat : Int)) = true := decide_eq_true (by omega)
        have Hno := Lib.hid hno
        clear hno hbig ha
        go_wp2_with (fail)
        go_ret3
        exact TakeNumP.no Hno.out (Below.refl _ _)
      · have h9 : ((k : Int) == 9) = false ∨ ((k : Int) == 9) = true ∧ decide (1 < (c.toNat : Int)) = false := by
          by_cases e : k = 9
          · exact .inr ⟨by simp; omega, decide_eq_false (by omega)⟩
          · exact .inl (by simp; omega)
        have hor := or_u64 (z := z) (c7 := c.toNat % 128) (k := k) hk9 Hzl.out (Nat.mod_lt _ (by decide)) (by omega)
        have hz64 : z + c.toNat % 128 * 128 ^ k < 18446744073709551616 := by
          have hp9 : (128 : Nat) ^ 9 = 9223372036854775808 := by decide
          have h1 := Hzl.out
          by_cases e : k = 9
          · subst e
            rw [hp9] at h1 ⊢
            omega
          · have h2 : (128 : Nat) ^ k ≤ 128 ^ 8 := Nat.pow_le_pow_right (by decide) (by omega)
            have h3 : (128 : Nat) ^ 8 = 72057594037927936 := by decide
            have h4 : c.toNat % 128 * 128 ^ k ≤ 127 * 128 ^ 8 := Nat.mul_le_mul (by omega) h2
            omega
        have Hbig := Lib.hid hbig
        clear hbig
        generalize hz2 : z + c.toNat % 128 * 128 ^ k = z2 at *
        have Hz2 := Lib.hid hz2
        have hzag := zag_eq hz64
        have Hz64 := Lib.hid hz64
        clear hz2 hz64
        by_cases hc128 : c.toNat < 128
        · by_cases hcz : c.toNat = 0 ∧ 0 < k
          · have hno : takeN (bs s) = none := take_zero Hat.out Hc.out hcz.1 (by intro e; have := Hdl.out; rw [e] at this; simp at this; omega)
            have z0 : ((c.toNat : Int) == 0) = true := by simp; omega
            have k0 : decide (0 < (k : Int)) = true := decide_eq_true (by omega)
            have k1 : 0 < k := hcz.2
            have Hno := Lib.hid hno
            clear hno hcz hzag
            generalize hcn : c.toNat % 128 = c7 at *
            rcases h9 with h9 | ⟨h9, h9'⟩
            all_goals
              go_wp2_with (fail)
              go_ret3
              exact TakeNumP.no Hno.out (Below.refl _ _)
          · have hn0 : (bs s).take k ≠ [] → c.toNat ≠ 0 := fun hd h0 => by
              apply hcz
              refine ⟨h0, ?_⟩
              have h1 := List.length_pos_iff.2 hd
              rw [Hdl.out] at h1
              exact h1
            have hyes : takeN (bs s) = some (zag (zval ((bs s).take k ++ [c])), (bs s).drop (k + 1)) := take_ok Hat.out Hc.out hc128 hn0 (by rw [Hsn.out]; exact Hz64.out)
            rw [Hsn.out] at hyes
            clear hn0
            have hz0 : ((c.toNat : Int) == 0) = false ∨ ((c.toNat : Int) == 0) = true ∧ ¬ 0 < k := by
              by_cases e : c.toNat = 0
              · exact .inr ⟨by simp; omega, by omega⟩
              · exact .inl (by simp; omega)
            have Hyes := Lib.hid hyes; have Hzag := Lib.hid hzag
            clear hyes hcz hzag
            generalize hcn : c.toNat % 128 = c7 at *
            rcases h9 with h9 | ⟨h9, h9'⟩ <;> rcases hz0 with z0 | ⟨z0, z0'⟩
            all_goals
              go_wp2_with (fail)
              go_quiet (fail)
              go_wp2_with (fail)
              go_ret3
              have hf := TakeNumP.yes Hyes.out (Path.below_drewN wr nq)
              rw [← Hzag.out, ← drop_bs] at hf
              exact hf
        · have hk8 : k ≤ 8 := by
            have := Hbig.out
            omega
          have h9' : ((k : Int) == 9) = false := by simp; omega
          have hge : decide ((c.toNat : Int) < 128) = false := decide_eq_false (by omega)
          have hcn2 : cont ((bs s).take (k + 1)) = true := by
            rw [List.take_add_one, Path.bs_get hlt, hcc, cont, List.all_append]
            have := Hc.out
            rw [cont] at this
            rw [this]
            simp; omega
          have hz3 : zval ((bs s).take (k + 1)) = z2 := by
            rw [List.take_add_one, Path.bs_get hlt, hcc]
            show zval ((bs s).take k ++ [c]) = z2
            rw [Hsn.out]
          have Hcn2 := Lib.hid hcn2; have Hz3 := Lib.hid hz3
          clear hcn2 hz3 hzag h9
          generalize hcn : c.toNat % 128 = c7 at *
          go_wp2_with (fail)
          go_roundw
          case rel => exact ⟨k + 1, by go_num, by omega, by omega, by rw [Hz3.out], by go_num, Hcn2.out, trivial⟩
          case measure => simp [intOf]; omega
    · have hks : k = s.size := by omega
      have hno : takeN (bs s) = none := by
        refine take_end ?_
        have := Hc.out
        rwa [List.take_of_length_le (by rw [Path.bs_len]; omega)] at this
      have Hno := Lib.hid hno
      have hlim : ¬ (k : Int) < min (s.size : Int) 10 := by omega
      clear hno hks
      generalize zval ((bs s).take k) = z at *
      go_wp2_with (fail)
      go_ret3
      exact TakeNumP.no Hno.out (Below.refl _ _)
end Go.Proofs.YtgpddngbccecfaaDoor.Wire
