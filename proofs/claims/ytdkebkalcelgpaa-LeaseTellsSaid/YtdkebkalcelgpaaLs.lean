/- LeaseTells: the walk of the law. -/
import Derived.Test.YtdkebkalcelgpaaLq
namespace Go.Proofs.Ytdkebkalcelgpaa.Lease
open Go.RowKit
set_option linter.unusedSimpArgs false

set_option maxHeartbeats 4000000 in
theorem law_tells (v : Value) (l : List Le) (c now : Int) (w : World) (hw : Rd w 2 encL v l ∧ (∀ a ∈ l, OkL a) ∧ l.length * 16 ≤ 140737488351232) (_ : inI c) (_ : inI now) :
    Calls Try.prog 8 #[v, .int .i64 c, .int .i64 now] w fun e w' => e = .returned (.bool true) ∧ Below w.heap.size w w' := by
  have h := hw.1
  have hn : l.length ≤ 8796093022208 := by have := hw.2.2; omega
  have hex := ex_calls w
  have hun := fun W (hW : Below w.heap.size w W) => until_calls W v l c (h.below hW (Nat.le_refl _)) hn
  have hru := fun W (hW : Below w.heap.size w W) => runtil_calls W v l c (h.below hW (Nat.le_refl _)) hn
  have hla := fun W (hW : Below w.heap.size w W) => late_calls W v l now (h.below hW (Nat.le_refl _)) hn
  have hrl := fun W (hW : Below w.heap.size w W) => rlate_calls W v l now (h.below hW (Nat.le_refl _)) hn
  have hri := fun W (hW : Below w.heap.size w W) => right_calls W v l (h.below hW (Nat.le_refl _)) hn
  have hrr := fun W (hW : Below w.heap.size w W) => rright_calls W v l (h.below hW (Nat.le_refl _)) hn
  have hll : (lateR now l).length ≤ 17592186044416 := by
    have := late_len now l
    rw [lateR]; split <;> simp <;> omega
  obtain ⟨ao, cap, rfl, _, _, _⟩ := rd_cells h
  clear hw h
  generalize untilU c l = U at *
  generalize untilB c l = ub at *
  generalize lateR now l = q at *
  have hub : (ub == ub) = true := by simp
  have e0 : (if false = true then (0 : Int) else 1) = 1 := rfl
  have e1 : (if true = true then (0 : Int) else 1) = 0 := rfl
  cases hR : rightB l
  all_goals
    rw [hR] at hla hrl hri hrr
    try rw [e0] at hla
    try rw [e1] at hla
    clear e0 e1 hR
    have Hun := Lib.hid hun; have Hru := Lib.hid hru; have Hla := Lib.hid hla; have Hrl := Lib.hid hrl; have Hri := Lib.hid hri; have Hrr := Lib.hid hrr; clear hun hru hla hrl hri hrr
    go_enter Try.func8, Try.ntmps8
    go_wp2_with (fail)
    refine hex.mono ?_
    rintro e w1 ⟨rfl, hB1⟩
    go_wp2_with (fail)
    refine (Hun.out _ hB1).mono ?_
    rintro e w2 ⟨rfl, hb2⟩
    have hB2 := hB1.trans (hb2.mono hB1.size)
    go_wp2_with (fail)
    refine (Hru.out _ hB2).mono ?_
    rintro e w3 ⟨rfl, hb3⟩
    have hB3 := hB2.trans (hb3.mono hB2.size)
    go_wp2_with (fail)
    refine (Hla.out _ hB3).mono ?_
    rintro e w4 ⟨v4, rfl, hO4, hb4⟩
    have hB4 := hB3.trans (hb4.mono hB3.size)
    go_wp2_with (fail)
    refine (Hrl.out _ hB4).mono ?_
    rintro e w5 ⟨v5, rfl, hO5, hb5⟩
    have hB5 := hB4.trans (hb5.mono hB4.size)
    go_wp2_with (fail)
    refine (numbers_calls w5 v4 v5 q q ((Rd.of_own encI_len hO4.own).below hb5 (Nat.le_refl _)) (Rd.of_own encI_len hO5.own) hll).mono ?_
    rw [show sameI q q = true by simp [sameI]]
    rintro e w6 ⟨rfl, n6, rfl⟩
    have hB6 := hB5.trans ((below_drewN w5 n6).mono hB5.size)
    generalize w5.drewN n6 = w6 at *
    clear hO4 hO5
    go_wp2_with (fail)
    refine (Hri.out _ hB6).mono ?_
    rintro e w7 ⟨rfl, hb7⟩
    have hB7 := hB6.trans (hb7.mono hB6.size)
    go_wp2_with (fail)
    refine (Hrr.out _ hB7).mono ?_
    rintro e w8 ⟨rfl, hb8⟩
    have hB8 := hB7.trans (hb8.mono hB7.size)
    go_wp2_with (fail)
    go_ret
    exact ⟨rfl, hB8⟩
end Go.Proofs.Ytdkebkalcelgpaa.Lease
