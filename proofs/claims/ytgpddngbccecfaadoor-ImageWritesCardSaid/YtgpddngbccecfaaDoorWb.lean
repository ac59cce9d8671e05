/- The wire (chapter 1): numbers, walked. -/
import Derived.Test.YtgpddngbccecfaaDoorWa
import Derived.Laws.BytesString
namespace Go.Proofs.YtgpddngbccecfaaDoor.Wire
open Go.RowKit
open Path (Bs bs mk bs_mk mk_bs)
set_option linter.unusedSimpArgs false
set_option linter.unusedVariables false
theorem infoU8 : (Tryd.prog.info? 5).map (fun i => (i.zero, i.size, i.bytes)) = some (some (.int .u8 0), 1, 1) := by kernel_rfl
theorem etU8 : ET Tryd.prog 37 5 1 1 := ET.of Tryd.underlying37 infoU8 rfl (by decide) (by simp [Value.cells, Value.oneCell'])
def encU (b : UInt8) : List Value := [.int .u8 b.toNat]
theorem encU_len (b : UInt8) : (encU b).length = 1 := rfl
def flatU (l : Bs) : List Value := l.flatMap encU
theorem flatU_len (l : Bs) : (flatU l).length = l.length := by rw [flatU, flat_length encU 1 encU_len, Nat.mul_one]
theorem flatU_snoc (l : Bs) (x : UInt8) : flatU (l ++ [x]) = flatU l ++ [.int .u8 x.toNat] := by simp [flatU, encU]
theorem flatU_map (l : Bs) : flatU l = (l.map fun b => (b.toNat : Int)).map (Value.int .u8) := by
  induction l with
  | nil => rfl
  | cons x t ih =>
    simp only [flatU, List.flatMap_cons, encU, List.map_cons] at ih ⊢
    rw [ih]; rfl
/-- Bytes of the call's own. -/
structure OwnU (w w' : World) (v : Value) (q : Bs) : Prop where
  own : w'.ownsRow 0 5 1 v q.length (flatU q)
  new : ∀ g, v.ownBlock = some g → w.heap.size ≤ g
theorem OwnU.nil (w w' : World) : OwnU w w' (.slice none 0 0) [] := ⟨World.ownsRow_nil _ _ _ _, fun g h => by simp [Value.ownBlock] at h⟩
theorem fold_push : ∀ (q : Bs) (s : ByteArray), (q.map fun b => (b.toNat : Int)).foldl (fun r n => r.push (UInt8.ofNat n.toNat)) s = ⟨(s.data.toList ++ q).toArray⟩
  | [], s => by simp
  | x :: t, s => by
    rw [List.map_cons, List.foldl_cons, fold_push t]
    simp [ByteArray.push]
/-- string(b). -/
theorem str_of_own {w : World} {v : Value} {q : Bs} (h : w.ownsRow 0 5 1 v q.length (flatU q)) : (convert 37 9 v).run Tryd.prog w = .ok (.string (mk q)) w := by
  rcases h.2 with ⟨rfl, hq⟩ | ⟨g, cap, cur, rfl, _, hg, hn, _, hcs, ht⟩
  · have : q = [] := by cases q with | nil => rfl | cons x t => cases hq
    subst this
    rw [run_convert_bytes_string w _ _ 5 none 0 0 Tryd.underlying37 Tryd.underlying5 Tryd.underlying9]
    rfl
  · rw [run_convert_bytes_string w _ _ 5 _ _ _ Tryd.underlying37 Tryd.underlying5 Tryd.underlying9]
    have hl := run_loadCells_list (P := Tryd.prog) (w := w) (⟨g, 0, none⟩ : Addr) (flatU q) (fun j u hu => by
      rw [Addr.add_lit, Nat.zero_add, cell_of_blk hg, ← Array.getElem?_toList]
      have hj := (List.getElem?_eq_some_iff.1 hu).1
      rw [flatU_len] at hj
      have h2 : (cur.toList.take (q.length * 1))[j]? = some u := by rw [ht]; exact hu
      rw [List.getElem?_take, if_pos (by omega)] at h2
      exact h2)
    rw [flatU_len] at hl
    rw [run_bytesToString w ⟨g, 0, none⟩ q.length cap (q.map fun b => (b.toNat : Int)) (by rw [hl, flatU_map]), fold_push]
    rfl
theorem or_u8 (m : Nat) : bits BinOp.or IntKind.u8 (IntKind.u8.wrap (m : Int)) 128 = ((UInt8.ofNat (m % 128 + 128)).toNat : Int) := by
  have key : ∀ x : Fin 256, (BitVec.ofNat 8 x.val ||| 128#8).toNat = x.val % 128 + 128 := by decide +kernel
  have h1 : IntKind.u8.wrap (m : Int) = ((m % 256 : Nat) : Int) := by simp [IntKind.wrap, IntKind.signed, IntKind.bits]
  have h2 : (BitVec.ofInt 8 ((m % 256 : Nat) : Int) ||| BitVec.ofInt 8 128).toNat = m % 256 % 128 + 128 := by
    have := key ⟨m % 256, Nat.mod_lt _ (by decide)⟩
    rw [← this]
    have e1 : BitVec.ofInt 8 ((m % 256 : Nat) : Int) = BitVec.ofNat 8 (m % 256) := by apply BitVec.eq_of_toNat_eq; simp; omega
    have e2 : BitVec.ofInt 8 128 = 128#8 := by decide
    rw [e1, e2]
  show IntKind.u8.wrap ((BitVec.ofInt 8 (IntKind.u8.wrap (m : Int)) ||| BitVec.ofInt 8 128).toNat : Int) = _
  rw [h1, h2]
  have h3 : (UInt8.ofNat (m % 128 + 128)).toNat = m % 128 + 128 := by
    rw [UInt8.toNat_ofNat']
    omega
  rw [h3]
  simp only [IntKind.wrap, IntKind.signed, IntKind.bits]
  simp
  try omega
theorem or_u8' (m : Nat) : bits BinOp.or IntKind.u8 ((m : Int) % 256) 128 = ((UInt8.ofNat (m % 128 + 128)).toNat : Int) := by
  rw [← or_u8 m]
  congr 1
theorem OwnU.snoc {w w' w8 : World} {v : Value} {q : Bs} {x : UInt8} {y : Int} {g cap : Nat} {o : Obj} (hO : OwnU w w' v q) (hs : w.heap.size ≤ w'.heap.size) (hy : y = (x.toNat : Int))
    (own : w8.ownsRow 0 5 1 (.slice (some ⟨g, 0, none⟩) (q.length + 1) cap) (q.length + 1) (flatU q ++ [.int .u8 y])) (hat : v.ownBlock = some g ∨ g = (w'.alloc o).heap.size) : OwnU w w8 (.slice (some ⟨g, 0, none⟩) (q.length + 1) cap) (q ++ [x]) := by
  subst hy
  refine ⟨by rw [List.length_append, flatU_snoc]; exact own, fun k hk => ?_⟩
  have : g = k := by simpa [Value.ownBlock] using hk
  subst this
  rcases hat with h | h
  · exact hO.new _ h
  · simp at h; omega
theorem last_nat {m : Nat} (h : m < 128) : (m : Int) = ((UInt8.ofNat m).toNat : Int) := by
  rw [UInt8.toNat_ofNat']; omega
theorem last_u8 {m : Nat} (h : m < 128) : IntKind.u8.wrap (m : Int) = ((UInt8.ofNat m).toNat : Int) := by
  rw [UInt8.toNat_ofNat']
  simp [IntKind.wrap, IntKind.signed, IntKind.bits]
theorem len9 {m k z : Nat} (h : m * 128 ^ k ≤ z) (hz : z < 18446744073709551616) (hm : 1 ≤ m) : k ≤ 9 := by
  by_cases hk : k ≤ 9
  · exact hk
  · have h1 : 128 ^ 10 ≤ 128 ^ k := Nat.pow_le_pow_right (by decide) (by omega)
    have h2 : 1 * 128 ^ k ≤ m * 128 ^ k := Nat.mul_le_mul_right _ hm
    have h3 : (128 : Nat) ^ 10 = 1180591620717411303424 := by decide
    omega
theorem step9 {m k z : Nat} (h : m * 128 ^ k ≤ z) : m / 128 * 128 ^ (k + 1) ≤ z := by
  have h1 : m / 128 * 128 ≤ m := Nat.div_mul_le_self m 128
  have h2 : m / 128 * 128 ^ (k + 1) = m / 128 * 128 * 128 ^ k := by rw [Nat.pow_succ, Nat.mul_comm (128 ^ k) 128, Nat.mul_assoc]
  rw [h2]
  exact Nat.le_trans (Nat.mul_le_mul_right _ h1) h
theorem vb_step {m : Nat} (h : ¬ m < 128) (q : Bs) : (q ++ [UInt8.ofNat (m % 128 + 128)]) ++ vb (m / 128) = q ++ vb m := by
  rw [vb.eq_def m, if_neg h]; simp
theorem vb_last {m : Nat} (h : m < 128) : vb m = [UInt8.ofNat m] := by rw [vb, if_pos h]
set_option maxRecDepth 8000 in
set_option maxHeartbeats 4000000 in
theorem num_calls (w : World) (n : Int) (hn : inI n) : Calls Tryd.prog 12 #[.int .i64 n] w fun e w' => e = .returned (.string (mk (numB n))) ∧ Below w.heap.size w w' := by
  have hz := zig_eq hn
  have hzl := zig_lt hn
  obtain ⟨h1, h2⟩ := hn
  rw [numB]
  generalize zig n = z at *
  go_enter Tryd.func12, Tryd.ntmps12
  go_wp2_with (fail)
  clear hz
  go_loopw [3, 4] (fun v3 v4 wr => ∃ (m : Nat) (q : Bs), v4 = .int .u64 m ∧ m ≤ z ∧ m * 128 ^ q.length ≤ z ∧ (m = 0 → q.length ≤ 9) ∧ q ++ vb m = vb z ∧ OwnU w wr v3 q ∧ Below w.heap.size w wr) (fun _ v4 _ => (intOf v4).toNat)
  case atStart => exact ⟨z, [], rfl, Nat.le_refl _, by simp, by simp, rfl, OwnU.nil _ _, Below.refl _ _⟩
  case round =>
    obtain ⟨m, q, rfl, hm, hl, hm0, hq, hO, hb⟩ := hrel
    have h9 : q.length ≤ 9 := by
      by_cases e : m = 0
      · exact hm0 e
      · exact len9 hl hzl (by omega)
    have Hl := Lib.hid hl; have Hq := Lib.hid hq; have HO := Lib.hid hO
    have HW := Lib.hid hO.own
    clear hl hq hO hm0
    generalize hk : q.length = k at *
    have Hk := Lib.hid hk
    clear hk
    by_cases hlt : 128 ≤ m
    · go_wp2_with (at_builtin; (with_reducible refine etU8.wpList1 (HW.out.alloc _) (heap_alloc_new _ _) rfl (by simp [Value.oneCell']) (by omega) (by unfold maxLen; omega) rfl (.tmp 16) (.tmp 20) rfl rfl rfl ?_); intro g1 cap1 w8 hown1 hgrow hat hlt1)
      go_roundw
      case rel =>
        have hs := OwnU.snoc (q := q) HO.out hb.size (or_u8' m) (by rw [Hk.out]; exact hown1) hat
        refine ⟨m / 128, q ++ [UInt8.ofNat (m % 128 + 128)], by go_num, by omega, ?_, fun _ => by rw [List.length_append, Hk.out]; simp; omega, by rw [vb_step (by omega), Hq.out], by rw [Hk.out] at hs; exact hs, (hb.alloc hb.size _).grown hgrow (by have := hb.size; simp; omega) (fun g hg => HO.out.new g hg)⟩
        rw [List.length_append, Hk.out]
        exact step9 Hl.out
      case measure => simp [intOf]; omega
    · have hm128 : m < 128 := by omega
      go_wp2_with (at_builtin; (with_reducible refine etU8.wpList1 (HW.out.alloc _) (heap_alloc_new _ _) rfl (by simp [Value.oneCell']) (by omega) (by unfold maxLen; omega) rfl (.tmp 22) (.tmp 25) rfl rfl rfl ?_); intro g1 cap1 w8 hown1 hgrow hat hlt1; have hs := OwnU.snoc (q := q) (x := UInt8.ofNat m) HO.out hb.size (last_nat hm128) (by rw [Hk.out]; exact hown1) hat; have hcv := str_of_own hs.own; rw [Hk.out] at hcv; have Hs := Lib.hid hs; clear hs hown1)
      go_ret
      have hv : mk (q ++ [UInt8.ofNat m]) = mk (vb z) := by rw [← Hq.out, vb_last hm128]
      exact ⟨ret_string hv, (hb.alloc hb.size _).grown hgrow (by have := hb.size; simp; omega) (fun g hg => HO.out.new g hg)⟩
end Go.Proofs.YtgpddngbccecfaaDoor.Wire
