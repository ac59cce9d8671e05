/- The statements' own helpers: pick, of, messages. -/
import Derived.Test.YtdkebkalcelgpaaMg
namespace Go.Proofs.Ytdkebkalcelgpaa.Mail
open Go.RowKit

/-- Which of n things a raw number speaks of. -/
def pickI (c n : Int) : Int := (if c < 0 then -(c + 1) else c) % n
theorem pickI_bd (c n : Int) (hn : 0 < n) : 0 ≤ pickI c n ∧ pickI c n < n := ⟨Int.emod_nonneg _ (by omega), Int.emod_lt_of_pos _ hn⟩

theorem pick_calls (w : World) (c n : Int) (h0 : -9223372036854775808 ≤ c) (h1 : c ≤ 9223372036854775807) (hn : 1 ≤ n) (hn1 : n ≤ 1000) :
    Calls Try.prog 13 #[.int .i64 c, .int .i64 n] w fun e w' => e = .returned (.int .i64 (pickI c n)) ∧ w = w' := by
  by_cases h : c < 0
  · go_enter Try.func13, Try.ntmps13
    go_wp2
    go_ret
    exact ⟨ret_int (by rw [← Int.neg_tmod, Int.tmod_eq_emod_of_nonneg (by omega), pickI, if_pos h]), rfl⟩
  · go_enter Try.func13, Try.ntmps13
    go_wp2
    go_ret
    exact ⟨ret_int (by rw [pickI, if_neg (by omega)]), rfl⟩

theorem of_calls (w : World) (d : ByteArray) : Calls Try.prog 38 #[.string d] w fun e w' => e = .returned (.agg #[.int .i64 0, .string d]) ∧ Below w.heap.size w w' := by
  go_enter Try.func38, Try.ntmps38
  go_wp2
  refine bodyPost_ret (results_cell_row rfl _ _ w.heap.size _ _ _ _ rfl (heap_alloc_new w _) Try.underlying32 rfl (by kernel_rfl)) rfl ⟨rfl, (Below.refl _ _).alloc (Nat.le_refl _) _⟩

theorem row_cells {w : World} {v : Value} {l : List Ms} (h : RowAt w 2 v l.length (flatM l)) : ∃ ao cap, v = .slice ao l.length cap ∧ ∀ k x, l[k]? = some x → ∃ b off, ao = some ⟨b, off, none⟩ ∧ w.cell? ⟨b, off + k * 2, none⟩ = some (.int .i64 x.to) ∧ w.cell? ⟨b, off + k * 2 + 1, none⟩ = some (.string x.data) := by
  obtain ⟨_, ao, cap, hv, hc, hcell⟩ := h
  refine ⟨ao, cap, hv, fun k x hx => ?_⟩
  have hk := (List.getElem?_eq_some_iff.1 hx).1
  obtain ⟨b, off, hb, _, hcl⟩ := hcell (by omega)
  refine ⟨b, off, hb, ?_, ?_⟩
  · have := hcl (k * 2) (by omega)
    rw [this]; exact flat_get encM 2 encM_len l k 0 x hx (by decide)
  · have := hcl (k * 2 + 1) (by omega)
    rw [Nat.add_assoc, this]; exact flat_get encM 2 encM_len l k 1 x hx (by decide)

/-- The two hold the same. -/
def msEq (x y : Ms) : Bool := x.to == y.to && x.data.toList == y.data.toList
theorem toList_inj {s t : ByteArray} (h : s.toList = t.toList) : s = t := by
  rw [ByteArray.toList_eq, ByteArray.toList_eq] at h
  cases s; cases t
  congr 1
  exact Array.toList_inj.1 h
theorem msEq_true {x y : Ms} (h : msEq x y = true) : x = y := by
  cases x; cases y
  simp only [msEq, Bool.and_eq_true, beq_iff_eq] at h
  obtain ⟨rfl, h2⟩ := h
  rw [toList_inj h2]
theorem msEq_false {x y : Ms} (h : msEq x y = false) : x ≠ y := by
  rintro rfl
  simp [msEq] at h

theorem eqMs (w : World) (x y : Ms) : (Op.equalIn 10000 32 (.agg #[.int .i64 x.to, .string x.data]) (.agg #[.int .i64 y.to, .string y.data])).run Try.prog w = .ok (msEq x y) w := by
  have hS : Try.prog.underlying 32 = some (.struct (Try.prog.fieldsOf 32)) := by kernel_rfl
  have hp : Try.prog.stoodInHeld 32 = false := by kernel_rfl
  rw [show (10000 : Nat) = 9999 + 1 from rfl, run_equalIn_agg w 9999 32 _ _ hS hp]
  simp only [Program.fieldsOf, Try.underlying32]
  go_simp
  by_cases h1 : x.to = y.to <;> by_cases h2 : x.data.toList = y.data.toList <;> simp [h1, h2, msEq]

def sameM (a b : List Ms) : Bool := decide (a = b)

theorem messages_calls (w : World) (u v : Value) (a b : List Ms) (ha : RowAt w 2 u a.length (flatM a)) (hb : RowAt w 2 v b.length (flatM b)) (hn : a.length ≤ 1000000) :
    Calls Try.prog 23 #[u, v] w fun e w' => e = .returned (.bool (sameM a b)) ∧ ∃ n, w' = w.drewN n := by
  obtain ⟨ao, ca, rfl, hca⟩ := row_cells ha
  obtain ⟨bo, cb, rfl, hcb⟩ := row_cells hb
  clear ha hb
  by_cases hl : a.length = b.length
  · have hll : ((a.length : Int) != (b.length : Int)) = false := by simp [hl]
    have hlb : ((b.length : Int)) = (a.length : Int) := by omega
    have Hl := Lib.hid hl
    clear hl
    go_enter Try.func23, Try.ntmps23
    go_wp2
    go_loopw [5] (fun vk wr => ∃ k : Nat, k ≤ a.length ∧ vk = .int .i64 k ∧ (∃ n, wr = w.drewN n) ∧ a.take k = b.take k) (fun vk _ => a.length - (intOf vk).toNat)
    case atStart => exact ⟨0, Nat.zero_le _, rfl, ⟨0, rfl⟩, rfl⟩
    case round =>
      obtain ⟨k, hk, rfl, ⟨n, rfl⟩, heq⟩ := hrel
      have Heq := Lib.hid heq; clear heq
      by_cases hlt : k < a.length
      · have hltb : k < b.length := by have := Hl.out; omega
        obtain ⟨x, hx⟩ : ∃ x, a[k]? = some x := ⟨a[k], by simp [hlt]⟩
        obtain ⟨y, hy⟩ : ∃ y, b[k]? = some y := ⟨b[k], by simp [hltb]⟩
        obtain ⟨bx, ox, rfl, c0, c1⟩ := hca k x hx
        obtain ⟨by', oy, rfl, d0, d1⟩ := hcb k y hy
        have Hx := Lib.hid hx; clear hx
        have Hy := Lib.hid hy; clear hy
        clear hca hcb
        have g1 : Try.prog.eqGuardType Try.prog.depth 32 = false := by kernel_rfl
        have g2 := fun W => eqMs W x y
        go_wp2
        go_quiet (fail)
        clear g1 g2
        go_wp2
        · have hxy' : msEq x y = false := by have h : (!msEq x y) = true := by assumption
                                             simpa using h
          go_ret
          refine ⟨ret_bool ?_, _, World.drewN_drewN _ _ _⟩
          refine (decide_eq_false fun h => msEq_false hxy' ?_).symm
          subst h
          have := Hx.out.symm.trans Hy.out
          simpa using this
        · have hxy : msEq x y = true := by have h : (!msEq x y) = false := by assumption
                                           simpa using h
          go_roundw
          case rel => exact ⟨k + 1, by omega, by go_num, ⟨_, rfl⟩, by rw [List.take_add_one, List.take_add_one, Heq.out, Hx.out, Hy.out, msEq_true hxy]⟩
          case measure => simp [intOf]; omega
      · go_wp2
        go_ret
        refine ⟨ret_bool (decide_eq_true ?_).symm, n, rfl⟩
        have h := Heq.out
        rw [List.take_of_length_le (by omega), List.take_of_length_le (by have := Hl.out; omega)] at h
        exact h
  · go_enter Try.func23, Try.ntmps23
    have hll : ((a.length : Int) != (b.length : Int)) = true := by simp; omega
    go_wp2
    go_ret
    exact ⟨ret_bool (decide_eq_false fun h => hl (by rw [h])).symm, 0, rfl⟩
end Go.Proofs.Ytdkebkalcelgpaa.Mail
