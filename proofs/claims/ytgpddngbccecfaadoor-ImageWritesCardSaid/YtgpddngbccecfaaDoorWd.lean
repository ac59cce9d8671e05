/- The wire (chapter 1), plain: a number at the beginning of bytes. -/
import Derived.Test.YtgpddngbccecfaaDoorWc
namespace Go.Proofs.YtgpddngbccecfaaDoor.Wire
open Go.RowKit
open Path (Bs bs mk bs_mk mk_bs)
set_option linter.unusedSimpArgs false
set_option linter.unusedVariables false

/-- What digits come to, the least first. -/
def zval : Bs → Nat
  | [] => 0
  | b :: t => b.toNat % 128 + 128 * zval t
/-- Digits that go on. -/
def cont (d : Bs) : Bool := d.all fun b => decide (128 ≤ b.toNat)
theorem cont_cons (b : UInt8) (d : Bs) : cont (b :: d) = (decide (128 ≤ b.toNat) && cont d) := rfl
theorem zval_lt : ∀ d : Bs, zval d < 128 ^ d.length
  | [] => by simp [zval]
  | b :: t => by
    have h := zval_lt t
    have hb : b.toNat % 128 < 128 := Nat.mod_lt _ (by decide)
    rw [zval, List.length_cons, Nat.pow_succ]
    omega
theorem zval_snoc : ∀ (d : Bs) (b : UInt8), zval (d ++ [b]) = zval d + b.toNat % 128 * 128 ^ d.length
  | [], b => by simp [zval]
  | x :: t, b => by
    rw [List.cons_append, zval, zval_snoc t b, zval, List.length_cons, Nat.pow_succ, Nat.mul_add, Nat.add_assoc]
    congr 2
    rw [Nat.mul_comm 128, Nat.mul_assoc]
theorem zval_vb (z : Nat) : zval (vb z) = z := by
  induction z using Nat.strongRecOn with
  | _ z ih =>
    by_cases h : z < 128
    · rw [vb_last h, zval, zval, UInt8.toNat_ofNat']; omega
    · rw [vb.eq_def, if_neg h, zval, ih (z / 128) (by omega), UInt8.toNat_ofNat']; omega
/-- The form of a number's bytes: digits that go on, a last one; it is not 0, unless it is all. -/
theorem vb_form (z : Nat) : ∃ d b, vb z = d ++ [b] ∧ cont d = true ∧ b.toNat < 128 ∧ (d ≠ [] → b.toNat ≠ 0) := by
  induction z using Nat.strongRecOn with
  | _ z ih =>
    by_cases h : z < 128
    · exact ⟨[], UInt8.ofNat z, by rw [vb_last h]; rfl, rfl, by rw [UInt8.toNat_ofNat']; omega, fun h => absurd rfl h⟩
    · obtain ⟨d, b, h1, h2, h3, h4⟩ := ih (z / 128) (by omega)
      refine ⟨UInt8.ofNat (z % 128 + 128) :: d, b, by rw [vb.eq_def, if_neg h, h1]; rfl, ?_, h3, fun _ hb => ?_⟩
      · rw [cont_cons, h2, UInt8.toNat_ofNat']; simp; omega
      · by_cases hd : d = []
        · subst hd
          have := zval_vb (z / 128)
          rw [h1] at this
          simp [zval, hb] at this
          omega
        · exact h4 hd hb
theorem vb_of : ∀ (d : Bs) (b : UInt8), cont d = true → b.toNat < 128 → (d ≠ [] → b.toNat ≠ 0) → vb (zval (d ++ [b])) = d ++ [b]
  | [], b, _, hb, _ => by
    simp only [List.nil_append, zval]
    rw [vb_last (by omega)]
    congr 1
    apply UInt8.toNat_inj.1
    rw [UInt8.toNat_ofNat']; omega
  | x :: t, b, hc, hb, hn => by
    rw [cont_cons, Bool.and_eq_true, decide_eq_true_eq] at hc
    have hx : x.toNat < 256 := x.toNat_lt
    have hpos : 1 ≤ zval (t ++ [b]) := by
      rw [zval_snoc]
      have h1 : 1 ≤ b.toNat % 128 := by have := hn (by simp); omega
      have h2 : 1 ≤ 128 ^ t.length := Nat.pow_pos (by decide)
      have := Nat.mul_le_mul h1 h2
      omega
    have ih := vb_of t b hc.2 hb (fun _ => hn (by simp))
    rw [List.cons_append, zval, vb.eq_def, if_neg (by omega)]
    have e1 : (x.toNat % 128 + 128 * zval (t ++ [b])) / 128 = zval (t ++ [b]) := by omega
    have e2 : (x.toNat % 128 + 128 * zval (t ++ [b])) % 128 + 128 = x.toNat := by omega
    rw [e1, ih, e2, UInt8.ofNat_toNat]
/-- The digits at the beginning: those that go on, and the last one, if it comes. -/
def digits : Bs → Option (Bs × UInt8 × Bs)
  | [] => none
  | b :: t => if b.toNat < 128 then some ([], b, t) else match digits t with
    | none => none
    | some (d, c, r) => some (b :: d, c, r)
theorem digits_some : ∀ {s d : Bs} {c : UInt8} {r : Bs}, digits s = some (d, c, r) → s = d ++ c :: r ∧ cont d = true ∧ c.toNat < 128
  | [], _, _, _, h => by cases h
  | b :: t, d, c, r, h => by
    rw [digits] at h
    split at h
    · rename_i hb
      cases h
      exact ⟨rfl, rfl, hb⟩
    · rename_i hb
      cases hd : digits t with
      | none => rw [hd] at h; cases h
      | some x =>
        obtain ⟨d', c', r'⟩ := x
        rw [hd] at h
        cases h
        obtain ⟨h1, h2, h3⟩ := digits_some hd
        exact ⟨by rw [h1]; rfl, by rw [cont_cons, h2]; simp; omega, h3⟩
theorem digits_mk : ∀ (d : Bs) (c : UInt8) (r : Bs), cont d = true → c.toNat < 128 → digits (d ++ c :: r) = some (d, c, r)
  | [], c, r, _, hc => by rw [List.nil_append, digits, if_pos hc]
  | b :: d, c, r, h, hc => by
    rw [cont_cons, Bool.and_eq_true, decide_eq_true_eq] at h
    rw [List.cons_append, digits, if_neg (by omega), digits_mk d c r h.2 hc]
theorem digits_none : ∀ {s : Bs}, digits s = none ↔ cont s = true
  | [] => by simp [digits, cont]
  | b :: t => by
    rw [digits, cont_cons]
    split
    · rename_i hb; simp; omega
    · rename_i hb
      have ih := digits_none (s := t)
      cases hd : digits t with
      | none => rw [hd] at ih; simp only [true_iff] at ih; rw [ih]; simp; omega
      | some x =>
        rw [hd] at ih
        have : cont t = false := by cases h : cont t; rfl; · exact absurd (ih.2 h) (by simp)
        simp [this]
/-- The number at the beginning, and the rest. -/
def takeN (s : Bs) : Option (Int × Bs) := match digits s with
  | none => none
  | some (d, c, r) => if zval (d ++ [c]) < 18446744073709551616 ∧ (d ≠ [] → c.toNat ≠ 0) then some (zag (zval (d ++ [c])), r) else none
theorem take_num {n : Int} (h : inI n) (r : Bs) : takeN (numB n ++ r) = some (n, r) := by
  obtain ⟨d, c, h1, h2, h3, h4⟩ := vb_form (zig n)
  have hz : zval (d ++ [c]) = zig n := by rw [← h1, zval_vb]
  rw [takeN, numB, h1, List.append_assoc, List.singleton_append, digits_mk d c r h2 h3]
  simp only [hz]
  rw [if_pos ⟨zig_lt h, h4⟩, zag_zig]
theorem zag_in {z : Nat} (h : z < 18446744073709551616) : inI (zag z) := by
  by_cases e : z % 2 = 0
  · rw [zag_even e]; constructor <;> omega
  · rw [zag_odd e]; constructor <;> omega
theorem take_some {s r : Bs} {n : Int} (h : takeN s = some (n, r)) : inI n ∧ s = numB n ++ r := by
  rw [takeN] at h
  cases hd : digits s with
  | none => rw [hd] at h; cases h
  | some x =>
    obtain ⟨d, c, r'⟩ := x
    rw [hd] at h
    simp only [] at h
    split at h
    · rename_i hc
      obtain ⟨h1, h2, h3⟩ := digits_some hd
      cases h
      refine ⟨zag_in hc.1, ?_⟩
      rw [numB, zig_zag, vb_of d c h2 h3 hc.2, h1]; simp
    · cases h
end Go.Proofs.YtgpddngbccecfaaDoor.Wire
