/- Leases: lease.Drop. -/
import Derived.Test.YtdkebkalcelgpaaLk
namespace Go.Proofs.Ytdkebkalcelgpaa.Lease
open Go.RowKit

theorem filter_isNot (c : Int) (l : List Le) : l.filter (isNot c) = others c l := by
  unfold others
  congr 1

theorem drop_calls (w : World) (v : Value) (l : List Le) (c : Int) (h : Rd w 2 encL v l) (hn : l.length ≤ 8796093022208) :
    Calls Try.prog 36 #[v, .int .i64 c] w fun e w' => ∃ v', e = .returned (.tuple #[v', .int .i64 (if rightB l = true then 0 else 1)]) ∧ OwnL w w' v' (dropR c l) ∧ Below w.heap.size w w' := by
  have hb0 : Below w.heap.size w (w.alloc (.cells #[.int .i64 c] 3)) := (Below.refl _ _).alloc (Nat.le_refl _) _
  have hz0 : (w.alloc (.cells #[.int .i64 c] 3)).heap.size = w.heap.size + 1 := by simp
  have hr := right_calls _ v l (h.below hb0 (Nat.le_refl _)) hn
  by_cases hR : rightB l = true
  · have hlen := right_len hR
    have hcl := fun W (hW : Below w.heap.size w W) => clone_calls W v l (h.below hW (Nat.le_refl _)) (by omega)
    have e : dropR c l = others c l := if_pos hR
    rw [e]
    rw [if_pos hR]
    obtain ⟨ao, cap, rfl, _, _, _⟩ := rd_cells h
    rw [hR] at hr
    clear hR e h
    have Hcl := Lib.hid hcl; clear hcl
    have hbt := heap_alloc_new w (.cells #[.int .i64 c] 3)
    have Hbt := Lib.hid hbt; clear hbt
    obtain ⟨w0, hw0⟩ : ∃ W, W = w.alloc (.cells #[.int .i64 c] 3) := ⟨_, rfl⟩
    rw [← hw0] at hr Hbt hb0 hz0
    have Hw0 := Lib.hid hw0; clear hw0
    go_enter Try.func36, Try.ntmps36
    go_wp2_with (first
      | (go_at_call 27; (rw [← Hw0.out]); refine hr.mono ?_; rintro e w1 ⟨rfl, hb1⟩; have hB1 := hb0.trans (hb1.mono hb0.size))
      | (go_at_call 45; refine (Hcl.out _ hB1).mono ?_; rintro e w2 ⟨v2, rfl, hO, hb2⟩; have hB2 := hB1.trans (hb2.mono hB1.size); have hbt2 : Hid (w2.heap[w.heap.size]? = some (.cells #[.int .i64 c] 3 (0, 0))) := (hb2.block _ (by have := hb1.size; omega)).trans ((hb1.block _ (by omega)).trans Hbt.out))
      | (go_at_call 48; refine (delete_calls _ _ c hbt2.out l v2 hO.own (by omega)).mono ?_; rintro e w3 ⟨v3, rfl, hown3, hv3, hU3⟩))
    go_ret2
    rw [filter_isNot] at hown3
    refine ⟨v3, rfl, ⟨hown3, fun g hg => ?_⟩, hB2.trans (hU3.toBelow (fun k hk => Nat.le_trans hB1.size (hO.new k hk)) hB2.size)⟩
    rw [hv3] at hg
    exact Nat.le_trans hB1.size (hO.new g hg)
  · have e : dropR c l = [] := if_neg hR
    rw [e, if_neg hR]
    rw [Bool.not_eq_true] at hR
    rw [hR] at hr
    obtain ⟨ao, cap, rfl, _, _, _⟩ := rd_cells h
    clear hR e h
    go_enter Try.func36, Try.ntmps36
    go_wp2_with (go_at_call 27; refine hr.mono ?_; rintro e w1 ⟨rfl, hb1⟩)
    go_ret2
    exact ⟨_, rfl, ⟨World.ownsRow_nil _ _ _ _, fun g h => by simp [Value.ownBlock] at h⟩, hb0.trans (hb1.mono hb0.size)⟩
end Go.Proofs.Ytdkebkalcelgpaa.Lease
