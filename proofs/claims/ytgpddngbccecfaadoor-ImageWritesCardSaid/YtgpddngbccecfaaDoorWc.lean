/- The wire (chapter 1): the document's numbers. -/
import Derived.Test.YtgpddngbccecfaaDoorWb
namespace Go.Proofs.YtgpddngbccecfaaDoor.Wire
open Go.RowKit
open Path (Bs bs mk bs_mk mk_bs)
set_option linter.unusedSimpArgs false
set_option linter.unusedVariables false
theorem zig_eq2 {n : Int} (h : inI n) (h0 : n < 0) : bits BinOp.xor IntKind.u64 IntKind.u64.max (IntKind.u64.wrap (IntKind.u64.wrap n * 2)) = (zig n : Int) := by
  obtain ⟨h1, h2⟩ := h
  have e0 : IntKind.u64.max = 18446744073709551615 := by decide
  have e2 : BitVec.ofInt 64 18446744073709551615 = BitVec.allOnes 64 := by decide
  rw [xor_u64, wrapU, wrapU, e0, e2, BitVec.allOnes_xor, BitVec.toNat_not, BitVec.toNat_ofInt, zig_neg (by omega)]
  omega
theorem nine {m k z : Nat} (hl : m * 128 ^ k ≤ z) (hm0 : m = 0 → k ≤ 9) (hz : z < 18446744073709551616) : k ≤ 9 := by
  by_cases e : m = 0
  · exact hm0 e
  · exact len9 hl hz (by omega)
theorem rem_nat (m : Nat) : (m : Int) % 128 + 128 = ((UInt8.ofNat (m % 128 + 128)).toNat : Int) := by
  rw [UInt8.toNat_ofNat']; omega
set_option maxRecDepth 8000 in
set_option maxHeartbeats 4000000 in
theorem rnum_calls (w : World) (n : Int) (hn : inI n) : Calls Tryd.prog 35 #[.int .i64 n] w fun e w' => e = .returned (.string (mk (numB n))) ∧ Below w.heap.size w w' := by
  have hzl := zig_lt hn
  have hz2 := zig_eq2 hn
  have hz1 := zig_pos (n := n)
  obtain ⟨h1, h2⟩ := hn
  rw [numB]
  generalize zig n = z at *
  by_cases h0 : n < 0
  · have hz := hz2 h0
    clear hz1 hz2
    go_enter Tryd.func35, Tryd.ntmps35
    go_wp2_with (fail)
    (clear hz); (go_loopw [3, 4] (fun v4 v3 wr => ∃ (m : Nat) (q : Bs), v4 = .int .u64 m ∧ m ≤ z ∧ m * 128 ^ q.length ≤ z ∧ (m = 0 → q.length ≤ 9) ∧ q ++ vb m = vb z ∧ OwnU w wr v3 q ∧ Below w.heap.size w wr) (fun v4 _ _ => (intOf v4).toNat)); (case atStart => exact ⟨z, [], rfl, Nat.le_refl _, by simp, by simp, rfl, OwnU.nil _ _, Below.refl _ _⟩); (case round => (obtain ⟨m, q, rfl, hm, hl, hm0, hq, hO, hb⟩ := hrel); (have h9 : q.length ≤ 9 := nine hl hm0 hzl); (have Hl := Lib.hid hl); (have Hq := Lib.hid hq); (have HO := Lib.hid hO); (have HW := Lib.hid hO.own); (clear hl hq hO hm0); (generalize hk : q.length = k at *); (have Hk := Lib.hid hk); (clear hk); (by_cases hlt : 128 ≤ m); (focus ((go_wp2_with (at_builtin; (with_reducible refine etU8.wpList1 (HW.out.alloc _) (heap_alloc_new _ _) rfl (by simp [Value.oneCell']) (by omega) (by unfold maxLen; omega) rfl (.tmp 14) (.tmp 19) rfl rfl rfl ?_); intro g1 cap1 w8 hown1 hgrow hat hlt1)); (go_roundw); (case rel => (have hs := OwnU.snoc (q := q) HO.out hb.size (rem_nat m) (by rw [Hk.out]; exact hown1) hat); (refine ⟨m / 128, q ++ [UInt8.ofNat (m % 128 + 128)], by go_num, by omega, ?_, fun _ => by rw [List.length_append, Hk.out]; simp; omega, by rw [vb_step (by omega), Hq.out], by rw [Hk.out] at hs; exact hs, (hb.alloc hb.size _).grown hgrow (by have := hb.size; simp; omega) (fun g hg => HO.out.new g hg)⟩); (rw [List.length_append, Hk.out]); (exact step9 Hl.out)); (case measure => simp [intOf]; omega))); (focus ((have hm128 : m < 128 := by omega); (go_wp2_with (at_builtin; (with_reducible refine etU8.wpList1 (HW.out.alloc _) (heap_alloc_new _ _) rfl (by simp [Value.oneCell']) (by omega) (by unfold maxLen; omega) rfl (.tmp 23) (.tmp 26) rfl rfl rfl ?_); intro g1 cap1 w8 hown1 hgrow hat hlt1; have hs := OwnU.snoc (q := q) (x := UInt8.ofNat m) HO.out hb.size (last_nat hm128) (by rw [Hk.out]; exact hown1) hat; have hcv := str_of_own hs.own; rw [Hk.out] at hcv; have Hs := Lib.hid hs; clear hs hown1)); go_ret; (have hv : mk (q ++ [UInt8.ofNat m]) = mk (vb z) := by rw [← Hq.out, vb_last hm128]); (exact ⟨ret_string hv, (hb.alloc hb.size _).grown hgrow (by have := hb.size; simp; omega) (fun g hg => HO.out.new g hg)⟩))))
  · have hz : n * 2 = (z : Int) := by have := hz1 (by omega); omega
    clear hz1 hz2
    go_enter Tryd.func35, Tryd.ntmps35
    go_wp2_with (fail)
    (clear hz); (go_loopw [3, 4] (fun v4 v3 wr => ∃ (m : Nat) (q : Bs), v4 = .int .u64 m ∧ m ≤ z ∧ m * 128 ^ q.length ≤ z ∧ (m = 0 → q.length ≤ 9) ∧ q ++ vb m = vb z ∧ OwnU w wr v3 q ∧ Below w.heap.size w wr) (fun v4 _ _ => (intOf v4).toNat)); (case atStart => exact ⟨z, [], rfl, Nat.le_refl _, by simp, by simp, rfl, OwnU.nil _ _, Below.refl _ _⟩); (case round => (obtain ⟨m, q, rfl, hm, hl, hm0, hq, hO, hb⟩ := hrel); (have h9 : q.length ≤ 9 := nine hl hm0 hzl); (have Hl := Lib.hid hl); (have Hq := Lib.hid hq); (have HO := Lib.hid hO); (have HW := Lib.hid hO.own); (clear hl hq hO hm0); (generalize hk : q.length = k at *); (have Hk := Lib.hid hk); (clear hk); (by_cases hlt : 128 ≤ m); (focus ((go_wp2_with (at_builtin; (with_reducible refine etU8.wpList1 (HW.out.alloc _) (heap_alloc_new _ _) rfl (by simp [Value.oneCell']) (by omega) (by unfold maxLen; omega) rfl (.tmp 14) (.tmp 19) rfl rfl rfl ?_); intro g1 cap1 w8 hown1 hgrow hat hlt1)); (go_roundw); (case rel => (have hs := OwnU.snoc (q := q) HO.out hb.size (rem_nat m) (by rw [Hk.out]; exact hown1) hat); (refine ⟨m / 128, q ++ [UInt8.ofNat (m % 128 + 128)], by go_num, by omega, ?_, fun _ => by rw [List.length_append, Hk.out]; simp; omega, by rw [vb_step (by omega), Hq.out], by rw [Hk.out] at hs; exact hs, (hb.alloc hb.size _).grown hgrow (by have := hb.size; simp; omega) (fun g hg => HO.out.new g hg)⟩); (rw [List.length_append, Hk.out]); (exact step9 Hl.out)); (case measure => simp [intOf]; omega))); (focus ((have hm128 : m < 128 := by omega); (go_wp2_with (at_builtin; (with_reducible refine etU8.wpList1 (HW.out.alloc _) (heap_alloc_new _ _) rfl (by simp [Value.oneCell']) (by omega) (by unfold maxLen; omega) rfl (.tmp 23) (.tmp 26) rfl rfl rfl ?_); intro g1 cap1 w8 hown1 hgrow hat hlt1; have hs := OwnU.snoc (q := q) (x := UInt8.ofNat m) HO.out hb.size (last_nat hm128) (by rw [Hk.out]; exact hown1) hat; have hcv := str_of_own hs.own; rw [Hk.out] at hcv; have Hs := Lib.hid hs; clear hs hown1)); go_ret; (have hv : mk (q ++ [UInt8.ofNat m]) = mk (vb z) := by rw [← Hq.out, vb_last hm128]); (exact ⟨ret_string hv, (hb.alloc hb.size _).grown hgrow (by have := hb.size; simp; omega) (fun g hg => HO.out.new g hg)⟩))))
end Go.Proofs.YtgpddngbccecfaaDoor.Wire
