/- Sums (chapter 2): CRC-32, both sides, walked. -/
import Derived.Test.YtgpddngbccecfaaDoorWf
import Derived.Laws.IdiomStrings
namespace Go.Proofs.YtgpddngbccecfaaDoor.Wire
open Go.RowKit
open Path (Bs bs mk bs_mk mk_bs tl_bs mk_size)
set_option linter.unusedSimpArgs false
set_option linter.unusedVariables false
def crcR (v : Nat) : Nat := if v % 2 = 1 then v / 2 ^^^ 3988292384 else v / 2
def crcN : Nat → Nat → Nat
  | 0, v => v
  | k + 1, v => crcR (crcN k v)
def crcL (l : Bs) (v : Nat) : Nat := l.foldl (fun v c => crcN 8 (v ^^^ c.toNat)) v
def sumN (l : Bs) : Nat := 4294967295 - crcL l 4294967295
theorem crcR_lt {v : Nat} (h : v < 4294967296) : crcR v < 4294967296 := by
  rw [crcR]
  split
  · exact Nat.xor_lt_two_pow (n := 32) (by omega) (by decide)
  · omega
theorem crcN_lt : ∀ (k : Nat) {v : Nat}, v < 4294967296 → crcN k v < 4294967296
  | 0, v, h => h
  | k + 1, v, h => crcR_lt (crcN_lt k h)
theorem crcX_lt {v : Nat} (h : v < 4294967296) (c : UInt8) : v ^^^ c.toNat < 4294967296 := Nat.xor_lt_two_pow (n := 32) h (by have := c.toNat_lt; omega)
theorem crcL_lt : ∀ (l : Bs) {v : Nat}, v < 4294967296 → crcL l v < 4294967296
  | [], v, h => h
  | c :: t, v, h => by rw [crcL, List.foldl_cons]; exact crcL_lt t (crcN_lt 8 (crcX_lt h c))
theorem crcL_snoc (l : Bs) (c : UInt8) (v : Nat) : crcL (l ++ [c]) v = crcN 8 (crcL l v ^^^ c.toNat) := by rw [crcL, List.foldl_append]; rfl
theorem wrap32 (x : Int) : IntKind.u32.wrap x = x % 4294967296 := by
  simp only [IntKind.wrap, IntKind.signed, IntKind.bits]
  simp
theorem ofI32 {n : Nat} (h : n < 4294967296) : BitVec.ofInt 32 (n : Int) = BitVec.ofNat 32 n := by
  apply BitVec.eq_of_toNat_eq
  rw [BitVec.toNat_ofInt, BitVec.toNat_ofNat]
  omega
theorem xor32 {a b : Nat} (ha : a < 4294967296) (hb : b < 4294967296) : bits BinOp.xor IntKind.u32 (a : Int) (b : Int) = ((a ^^^ b : Nat) : Int) := by
  show IntKind.u32.wrap ((BitVec.ofInt 32 (a : Int) ^^^ BitVec.ofInt 32 (b : Int)).toNat : Int) = _
  have h := Nat.xor_lt_two_pow (n := 32) ha hb
  rw [ofI32 ha, ofI32 hb, BitVec.toNat_xor, BitVec.toNat_ofNat, BitVec.toNat_ofNat, Nat.mod_eq_of_lt ha, Nat.mod_eq_of_lt hb, wrap32]
  have h2 : a ^^^ b < 4294967296 := h
  omega
theorem and32 {a : Nat} (ha : a < 4294967296) : bits BinOp.and IntKind.u32 (a : Int) 1 = ((a % 2 : Nat) : Int) := by
  show IntKind.u32.wrap ((BitVec.ofInt 32 (a : Int) &&& BitVec.ofInt 32 1).toNat : Int) = _
  have e : BitVec.ofInt 32 1 = 1#32 := by decide
  rw [ofI32 ha, e, BitVec.toNat_and, BitVec.toNat_ofNat, BitVec.toNat_ofNat, Nat.mod_eq_of_lt ha, wrap32]
  show ((a &&& 1 : Nat) : Int) % _ = _
  rw [Nat.and_one_is_mod]
  omega
theorem poly32 (a : Nat) : bits BinOp.and IntKind.u32 3988292384 (IntKind.u32.wrap (-((a % 2 : Nat) : Int))) = ((if a % 2 = 1 then 3988292384 else 0 : Nat) : Int) := by
  have key : ∀ x : Fin 2, bits BinOp.and IntKind.u32 3988292384 (IntKind.u32.wrap (-((x.val : Nat) : Int))) = ((if x.val = 1 then 3988292384 else 0 : Nat) : Int) := by decide +kernel
  exact key ⟨a % 2, Nat.mod_lt _ (by decide)⟩
theorem crcR_eq (v : Nat) : v / 2 ^^^ (if v % 2 = 1 then 3988292384 else 0) = crcR v := by
  rw [crcR]
  split
  · rfl
  · rw [Nat.xor_zero]
theorem sum_end {l : Bs} : bits BinOp.xor IntKind.u32 IntKind.u32.max (crcL l 4294967295 : Int) = (sumN l : Int) := by
  have h := crcL_lt l (v := 4294967295) (by decide)
  rw [sumN]
  generalize crcL l 4294967295 = v at *
  have e1 : IntKind.u32.max = ((4294967295 : Nat) : Int) := by decide
  rw [e1, xor32 (by decide) h]
  have : 4294967295 ^^^ v = 4294967295 - v := by
    have h2 : BitVec.toNat (~~~ (BitVec.ofNat 32 v)) = 2 ^ 32 - 1 - v := by rw [BitVec.toNat_not, BitVec.toNat_ofNat, Nat.mod_eq_of_lt h]
    have h3 : (BitVec.allOnes 32 ^^^ BitVec.ofNat 32 v) = ~~~ (BitVec.ofNat 32 v) := BitVec.allOnes_xor
    rw [← h3, BitVec.toNat_xor, BitVec.toNat_allOnes, BitVec.toNat_ofNat, Nat.mod_eq_of_lt h] at h2
    exact h2
  rw [this]
set_option maxRecDepth 8000 in
set_option maxHeartbeats 8000000 in
theorem rsum_calls (w : World) (s : ByteArray) (hs : s.size ≤ 140737488355328) : Calls Tryd.prog 54 #[.string s] w fun e w' => e = .returned (.int .u32 (sumN (bs s))) ∧ w' = w := by
  go_enter Tryd.func54, Tryd.ntmps54
  go_wp2_with (fail)
  go_loopw [3, 4] (fun v3 v4 wr => ∃ k : Nat, v4 = .int .i64 k ∧ k ≤ s.size ∧ v3 = .int .u32 (crcL ((bs s).take k) 4294967295) ∧ wr = w) (fun _ v4 _ => s.size - (intOf v4).toNat)
  case atStart => exact ⟨0, rfl, Nat.zero_le _, rfl, rfl⟩
  case round =>
    obtain ⟨k, rfl, hk, rfl, hw⟩ := hrel
    obtain rfl : w = wr := hw.symm
    by_cases hlt : k < s.size
    · have hsn : crcL ((bs s).take (k + 1)) 4294967295 = crcN 8 (crcL ((bs s).take k) 4294967295 ^^^ s[k].toNat) := by
        rw [List.take_add_one, Path.bs_get hlt]; exact crcL_snoc _ _ _
      have hv := crcL_lt ((bs s).take k) (v := 4294967295) (by decide)
      generalize crcL ((bs s).take k) 4294967295 = v at *
      generalize hc : s[k] = c at *
      have hx := crcX_lt hv c
      have hxe := xor32 hv (b := c.toNat) (by have := c.toNat_lt; omega)
      have hm : ((c.toNat : Int) % 4294967296) = (c.toNat : Int) := by have := c.toNat_lt; omega
      have hxm : bits BinOp.xor IntKind.u32 (v : Int) ((s[k].toNat : Int) % 4294967296) = ((v ^^^ c.toNat : Nat) : Int) := by rw [hc, hm, hxe]
      have Hsn := Lib.hid hsn; have Hxm := Lib.hid hxm
      clear hsn hv hxe hm hc hxm
      go_wp2_with (fail)
      go_loopw [3, 5] (fun v3 v5 wr => ∃ j : Nat, v5 = .int .i64 j ∧ j ≤ 8 ∧ v3 = .int .u32 (crcN j (v ^^^ c.toNat)) ∧ wr = w) (fun _ v5 _ => 8 - (intOf v5).toNat)
      case atStart => exact ⟨0, rfl, Nat.zero_le _, by rw [Hxm.out]; rfl, rfl⟩
      case round =>
        obtain ⟨j, rfl, hj, rfl, hw⟩ := hrel
        obtain rfl : w = wr := hw.symm
        by_cases hjl : j < 8
        · have hstep : crcN (j + 1) (v ^^^ c.toNat) = crcR (crcN j (v ^^^ c.toNat)) := rfl
          have hu := crcN_lt j hx
          generalize crcN j (v ^^^ c.toNat) = u at *
          have Hst := Lib.hid hstep
          clear hstep
          by_cases ho : u % 2 = 1
          · have hr : crcR u = u / 2 ^^^ 3988292384 := if_pos ho
            have hxr : bits BinOp.xor IntKind.u32 ((u : Int) / 2) 3988292384 = ((u / 2 ^^^ 3988292384 : Nat) : Int) := xor32 (a := u / 2) (b := 3988292384) (by omega) (by decide)
            have o1 : ((u : Int) % 2 == 1) = true := by simp; omega
            go_wp2_with (fail)
            go_roundw
            case rel => exact ⟨j + 1, by go_num, by omega, by rw [Hst.out, hr], by trivial⟩
            case measure => simp [intOf]; omega
          · have hr : crcR u = u / 2 := if_neg ho
            have o1 : ((u : Int) % 2 == 1) = false := by simp; omega
            go_wp2_with (fail)
            go_roundw
            case rel => exact ⟨j + 1, by go_num, by omega, by rw [Hst.out, hr]; rfl, by trivial⟩
            case measure => simp [intOf]; omega
        · obtain rfl : j = 8 := by omega
          go_wp2_with (fail)
          go_roundw
          case rel => exact ⟨k + 1, by go_num, by omega, by rw [Hsn.out], by trivial⟩
          case measure => simp [intOf]; omega
    · obtain rfl : k = s.size := by omega
      have hend := sum_end (l := bs s)
      rw [List.take_of_length_le (by rw [Path.bs_len]; exact Nat.le_refl _)]
      go_wp2_with (fail)
      go_ret
      exact ⟨rfl, rfl⟩
/-- '[]byte(s)'. -/
theorem bytes_of (w : World) (s : ByteArray) : ∃ w2 cap, (convert 9 37 (.string s)).run Tryd.prog w = .ok (.slice (some ⟨w.heap.size, 0, none⟩) s.size cap) w2 ∧ (∀ j (h : j < s.size), w2.cell? ⟨w.heap.size, j, none⟩ = some (.int .u8 s[j].toNat)) ∧ Below w.heap.size w w2 := by
  refine ⟨_, _, run_bytes_of_string w 9 37 5 s Tryd.underlying9 Tryd.underlying37 Tryd.underlying5, fun j hj => ?_, ?_⟩
  · rw [show w.heap.size = w.drew.heap.size from rfl, World.cell?_alloc_mark]
    exact bytesRow_at s _ j hj
  · exact ((Path.below_drewN w 1).alloc (Nat.le_refl _) _)
theorem poly_eq {u : Nat} (h : u < 4294967296) : bits BinOp.xor IntKind.u32 ((u : Int) / 2) (bits BinOp.and IntKind.u32 3988292384 (-bits BinOp.and IntKind.u32 (u : Int) 1 % 4294967296)) = (crcR u : Int) := by
  rw [← wrap32, and32 h, poly32, ← crcR_eq]
  exact xor32 (a := u / 2) (by omega) (by split <;> decide)
set_option maxRecDepth 8000 in
set_option maxHeartbeats 8000000 in
theorem sum_calls (w : World) (s : ByteArray) (hs : s.size ≤ 140737488355328) : Calls Tryd.prog 29 #[.string s] w fun e w' => e = .returned (.int .u32 (sumN (bs s))) ∧ Below w.heap.size w w' := by
  obtain ⟨w2, cap, hcv, hcell, hb⟩ := bytes_of w s
  have Hcell := Lib.hid hcell; clear hcell
  go_enter Tryd.func29, Tryd.ntmps29
  go_wp2_with (fail)
  go_loopw [3, 9] (fun v3 v9 wr => ∃ k : Nat, v9 = .int .i64 k ∧ k ≤ s.size ∧ v3 = .int .u32 (crcL ((bs s).take k) 4294967295) ∧ wr = w2) (fun _ v9 _ => s.size - (intOf v9).toNat)
  case atStart => exact ⟨0, rfl, Nat.zero_le _, rfl, rfl⟩
  case round =>
    obtain ⟨k, rfl, hk, rfl, hw⟩ := hrel
    obtain rfl : w2 = wr := hw.symm
    by_cases hlt : k < s.size
    · have hsn : crcL ((bs s).take (k + 1)) 4294967295 = crcN 8 (crcL ((bs s).take k) 4294967295 ^^^ s[k].toNat) := by
        rw [List.take_add_one, Path.bs_get hlt]; exact crcL_snoc _ _ _
      have hv := crcL_lt ((bs s).take k) (v := 4294967295) (by decide)
      have c0 := Hcell.out k hlt
      generalize crcL ((bs s).take k) 4294967295 = v at *
      generalize s[k] = c at *
      have hx := crcX_lt hv c
      have hxe := xor32 hv (b := c.toNat) (by have := c.toNat_lt; omega)
      have hm : ((c.toNat : Int) % 4294967296) = (c.toNat : Int) := by have := c.toNat_lt; omega
      have hxm : bits BinOp.xor IntKind.u32 (v : Int) ((c.toNat : Int) % 4294967296) = ((v ^^^ c.toNat : Nat) : Int) := by rw [hm, hxe]
      have Hsn := Lib.hid hsn; have Hxm := Lib.hid hxm
      clear hsn hv hxe hm hxm
      go_wp2_with (fail)
      go_loopw [3, 17] (fun v3 v5 wr => ∃ j : Nat, v5 = .int .i64 j ∧ j ≤ 8 ∧ v3 = .int .u32 (crcN j (v ^^^ c.toNat)) ∧ wr = w2) (fun _ v5 _ => 8 - (intOf v5).toNat)
      case atStart => exact ⟨0, rfl, Nat.zero_le _, by rw [Hxm.out]; rfl, rfl⟩
      case round =>
        obtain ⟨j, rfl, hj, rfl, hw⟩ := hrel
        obtain rfl : w2 = wr := hw.symm
        by_cases hjl : j < 8
        · have hstep : crcN (j + 1) (v ^^^ c.toNat) = crcR (crcN j (v ^^^ c.toNat)) := rfl
          have hu := crcN_lt j hx
          generalize crcN j (v ^^^ c.toNat) = u at *
          have hp := poly_eq hu
          have Hst := Lib.hid hstep; have Hp := Lib.hid hp
          clear hstep hp
          go_wp2_with (fail)
          go_roundw
          case rel => exact ⟨j + 1, by go_num, by omega, by rw [Hst.out, ← Hp.out], by trivial⟩
          case measure => simp [intOf]; omega
        · obtain rfl : j = 8 := by omega
          go_wp2_with (fail)
          go_roundw
          case rel => exact ⟨k + 1, by go_num, by omega, by rw [Hsn.out], by trivial⟩
          case measure => simp [intOf]; omega
    · obtain rfl : k = s.size := by omega
      have hend := sum_end (l := bs s)
      rw [List.take_of_length_le (by rw [Path.bs_len]; exact Nat.le_refl _)]
      go_wp2_with (fail)
      go_ret
      exact ⟨rfl, hb⟩
end Go.Proofs.YtgpddngbccecfaaDoor.Wire
