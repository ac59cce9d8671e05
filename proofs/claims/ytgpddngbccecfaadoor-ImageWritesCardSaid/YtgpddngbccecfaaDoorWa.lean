/- The wire (chapter 1), plain: numbers as bytes. -/
import Derived.Test.YtgpddngbccecfaaDoorGa
namespace Go.Proofs.YtgpddngbccecfaaDoor.Wire
open Go.RowKit
open Path (Bs bs mk bs_mk mk_bs)
set_option linter.unusedSimpArgs false
set_option linter.unusedVariables false

def vb (z : Nat) : Bs := if z < 128 then [UInt8.ofNat z] else UInt8.ofNat (z % 128 + 128) :: vb (z / 128)
decreasing_by omega
def zig (n : Int) : Nat := if 0 ≤ n then (2 * n).toNat else (-2 * n - 1).toNat
def zag (z : Nat) : Int := if z % 2 = 0 then (z / 2 : Nat) else -((z / 2 : Nat) : Int) - 1
def numB (n : Int) : Bs := vb (zig n)
theorem zig_pos {n : Int} (h : 0 ≤ n) : zig n = (2 * n).toNat := if_pos h
theorem zig_neg {n : Int} (h : ¬ 0 ≤ n) : zig n = (-2 * n - 1).toNat := if_neg h
theorem zag_even {z : Nat} (h : z % 2 = 0) : zag z = (z / 2 : Nat) := if_pos h
theorem zag_odd {z : Nat} (h : ¬ z % 2 = 0) : zag z = -((z / 2 : Nat) : Int) - 1 := if_neg h
theorem zag_zig (n : Int) : zag (zig n) = n := by
  by_cases h : 0 ≤ n
  · rw [zig_pos h, zag_even (by omega)]; omega
  · rw [zig_neg h, zag_odd (by omega)]; omega
theorem zig_zag (z : Nat) : zig (zag z) = z := by
  by_cases h : z % 2 = 0
  · rw [zag_even h, zig_pos (by omega)]; omega
  · rw [zag_odd h, zig_neg (by omega)]; omega
theorem zig_lt {n : Int} (h : inI n) : zig n < 18446744073709551616 := by
  obtain ⟨h1, h2⟩ := h
  by_cases h : 0 ≤ n
  · rw [zig_pos h]; omega
  · rw [zig_neg h]; omega
theorem wrapU (x : Int) : IntKind.u64.wrap x = x % 18446744073709551616 := by
  simp [IntKind.wrap, IntKind.signed, IntKind.bits]
theorem xor_u64 (x y : Int) : bits BinOp.xor IntKind.u64 x y = ((BitVec.ofInt 64 x ^^^ BitVec.ofInt 64 y).toNat : Int) := by
  have h := (BitVec.ofInt 64 x ^^^ BitVec.ofInt 64 y).isLt
  show IntKind.u64.wrap ((BitVec.ofInt 64 x ^^^ BitVec.ofInt 64 y).toNat : Int) = _
  rw [wrapU]
  omega
theorem zig_eq {n : Int} (h : inI n) : bits BinOp.xor IntKind.u64 (IntKind.u64.wrap (IntKind.u64.wrap n * 2)) (IntKind.u64.wrap (n / 9223372036854775808)) = (zig n : Int) := by
  obtain ⟨h1, h2⟩ := h
  rw [xor_u64, wrapU, wrapU, wrapU]
  by_cases h0 : 0 ≤ n
  · have e1 : n / 9223372036854775808 % 18446744073709551616 = 0 := by omega
    have e2 : BitVec.ofInt 64 0 = 0#64 := by decide
    rw [e1, zig_pos h0, e2, BitVec.xor_zero, BitVec.toNat_ofInt]
    omega
  · have e1 : n / 9223372036854775808 % 18446744073709551616 = 18446744073709551615 := by omega
    have e2 : BitVec.ofInt 64 18446744073709551615 = BitVec.allOnes 64 := by decide
    rw [e1, zig_neg h0, e2, BitVec.xor_allOnes, BitVec.toNat_not, BitVec.toNat_ofInt]
    omega
end Go.Proofs.YtgpddngbccecfaaDoor.Wire
