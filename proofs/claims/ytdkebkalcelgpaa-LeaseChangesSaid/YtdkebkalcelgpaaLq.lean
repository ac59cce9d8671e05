/- Leases: the chapter's examples; how leases come in. -/
import Derived.Test.YtdkebkalcelgpaaLp
import Derived.Test.YtdkebkalcelgpaaO
import Derived.Deep.Strs
namespace Go.Proofs.Ytdkebkalcelgpaa.Lease
open Go.RowKit Go.ChangeShapes Go.WideShapes Go.ChangeAt
set_option linter.unusedSimpArgs false

structure OkL (x : Le) : Prop where
  c : inI x.c
  u : inI x.u
theorem open_leases {H : Type} {enc : TypeId × Value → H} {W : World} {base : Nat} {v : Value} {d : DataW H} {p : List MemPlace} (hv : Value.okWide Try.prog W .any base 50 v) (h : DataW.Trod enc Try.prog W 0 (fun _ => true) true 50 v d p)
    (hs : ∀ e, Try.prog.underlying 50 = some (.slice e) → ∀ el sp, d = .slice el sp → (el.length + sp.length) * Try.prog.bytesOf e ≤ reachBytes) :
    ∃ l : List Le, Rd W 2 encL v l ∧ (∀ a ∈ l, OkL a) ∧ l.length * 16 ≤ 140737488351232 := by
  refine open_rows 2 16 encL OkL Try.underlying50 (by kernel_rfl) (by decide) (by kernel_rfl) (fun n cs x hl hx => ?_) (okWide_slice Try.underlying50 hv) h (hs _ Try.underlying50)
  obtain ⟨y0, y1, n1, _, _, h0, h1⟩ := trod_struct2 Try.underlying55 hx
  obtain ⟨z0, e0, _, hz0⟩ := DataW.trod_int Try.underlying3 h0
  obtain ⟨z1, e1, _, hz1⟩ := DataW.trod_int Try.underlying3 h1
  refine ⟨⟨z0, z1⟩, ?_, inI_of hz0, inI_of hz1⟩
  have hC : Try.prog.cellsOf 3 = 1 := by kernel_rfl
  match cs, hl with
  | [c0, c1], _ =>
    simp [hC] at e0 e1
    subst e0 e1
    rfl

theorem rd_nil (w : World) (c : Nat) (hc : c ≤ maxLen) : Rd w 2 encL (.slice none 0 c) ([] : List Le) := ⟨none, c, rfl, Nat.zero_le _, hc, fun i x hx => by simp at hx⟩
theorem rd_one (w : World) (x : Le) : Rd (w.alloc (.cells #[.int .i64 x.c, .int .i64 x.u] 55)) 2 encL (.slice (some ⟨w.heap.size, 0, none⟩) 1 1) [x] :=
  Rd.of_own (base := 0) (e := 55) encL_len ⟨rfl, .inr ⟨w.heap.size, 1, #[.int .i64 x.c, .int .i64 x.u], rfl, Nat.zero_le _, heap_alloc_new w _, Nat.le_refl _, by decide, rfl, rfl⟩⟩
theorem ex_ren : renOk 2 5 [] = true ∧ renR 2 5 [] = [⟨2, 15⟩] := by decide +kernel
theorem ex_late : lateR 15 [⟨2, 15⟩] = [] ∧ lateR 16 [⟨2, 15⟩] = [2] ∧ rightB [⟨2, 15⟩] = true ∧ sameLe [⟨2, 15⟩] [⟨2, 15⟩] = true := by decide +kernel

set_option maxHeartbeats 2000000 in
theorem ex_calls (w : World) : Calls Try.prog 25 #[] w fun e w' => e = .returned (.bool true) ∧ Below w.heap.size w w' := by
  have hren := renew_calls w (.slice none 0 0) [] 2 5 (rd_nil w 0 (by decide)) (by simp)
  rw [if_pos ex_ren.1, ex_ren.2] at hren
  have Hl := Lib.hid ex_late
  go_enter Try.func25, Try.ntmps25
  go_wp2_with (fail)
  refine hren.mono ?_; rintro e w1 ⟨v1, rfl, hO1, hb1⟩
  have hR1 := Rd.of_own encL_len hO1.own
  go_wp2_with (fail)
  refine (late_calls w1 v1 _ 15 hR1 (by simp)).mono ?_
  rw [Hl.out.1]
  rintro e w2 ⟨v2, rfl, hO2, hb2⟩
  obtain ⟨a2, c2, rfl, _, _⟩ := rd_cellsI (Rd.of_own encI_len hO2.own)
  have hR2 := hR1.below hb2 (Nat.le_refl _)
  go_wp2_with (fail)
  refine (late_calls w2 v1 _ 16 hR2 (by simp)).mono ?_
  rw [Hl.out.2.1]
  rintro e w3 ⟨v3, rfl, hO3, hb3⟩
  obtain ⟨a3, c3, rfl, _, _⟩ := rd_cellsI (Rd.of_own encI_len hO3.own)
  have hR3 := hR2.below hb3 (Nat.le_refl _)
  go_wp2_with (fail)
  have hrd := rd_one w3 ⟨2, 15⟩
  have hb4 : Below w3.heap.size w3 (w3.alloc (.cells #[.int .i64 2, .int .i64 15] 55)) := (Below.refl _ _).alloc (Nat.le_refl _) _
  refine (leases_calls _ v1 _ _ [⟨2, 15⟩] (hR3.below hb4 (Nat.le_refl _)) hrd (by simp)).mono ?_
  rw [Hl.out.2.2.2]
  rintro e w5 ⟨rfl, n5, rfl⟩
  have hb5 := hb4.trans (below_drewN (w3.alloc (.cells #[.int .i64 2, .int .i64 15] 55)) n5 |>.mono hb4.size)
  generalize (w3.alloc (.cells #[.int .i64 2, .int .i64 15] 55)).drewN n5 = w6 at *
  have hR6 := hR3.below hb5 (Nat.le_refl _)
  go_wp2_with (fail)
  refine (right_calls w6 v1 _ hR6 (by simp)).mono ?_
  rw [Hl.out.2.2.1]
  rintro e w7 ⟨rfl, hb7⟩
  go_wp2_with (fail)
  go_ret
  have hB2 := hb1.trans (hb2.mono hb1.size)
  have hB3 := hB2.trans (hb3.mono hB2.size)
  have hB6 := hB3.trans (hb5.mono hB3.size)
  exact ⟨rfl, hB6.trans (hb7.mono hB6.size)⟩
end Go.Proofs.Ytdkebkalcelgpaa.Lease
