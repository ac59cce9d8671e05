/- The document's mail: Twin and Take. -/
import Derived.Test.YtdkebkalcelgpaaMm
namespace Go.Proofs.Ytdkebkalcelgpaa.Mail
open Go.RowKit
set_option linter.unusedSimpArgs false

theorem RefX.rowL {w : World} {b : Nat} {v u : Value} {l : List Ag} {a : List Int} {F : Nat → Prop} (h : RefX w b v u (l.map msOf) a F) {i : Nat} {x : Ag} (hx : l[i]? = some x) :
    ∃ g cap, v = .slice (some ⟨g, 0, none⟩) l.length cap ∧ g < w.heap.size ∧ l.length ≤ cap ∧ cap ≤ maxLen ∧ w.cell? ⟨g, i * 2, none⟩ = some (.int .i64 x.to) ∧ w.cell? ⟨g, i * 2 + 1, none⟩ = some (.string x.data) := by
  have hi := (List.getElem?_eq_some_iff.1 hx).1
  have ho := h.ownL
  rcases ho.2 with ⟨_, h0⟩ | ⟨g, cap, cur, rfl, _, hg, hnc, hcm, _⟩
  · simp at h0; subst h0; simp at hi
  · have hm : (l.map msOf)[i]? = some (msOf x) := by simp [hx]
    refine ⟨g, cap, by simp, lt_of_block hg, by simpa using hnc, hcm, ?_, ?_⟩
    · rw [ho.cellAt _ (by simp; omega)]; exact flat_get encM 2 encM_len _ i 0 _ hm (by decide)
    · rw [ho.cellAt _ (by simp; omega)]; exact flat_get encM 2 encM_len _ i 1 _ hm (by decide)

theorem rtwin_out (w : World) (b : Nat) (l : List Ag) (F : Nat → Prop) (i : Int) (hR : RefR w b l F) (hn : l.length ≤ 1000000) (hi : i < 0 ∨ l.length ≤ i) :
    Calls Try.prog 19 #[.pointer (some ⟨b, 0, none⟩), .int .i64 i] w fun e w' => e = .returned (.int .i64 5) ∧ RLeft w w' b l F := by
  have hend := RLeft.refl hR
  obtain ⟨v, u, hX⟩ := hR
  obtain ⟨ao, cap, rfl, hcap⟩ := own_slice hX.ownL
  have hc0 := cell_of_blk (j := 0) hX.blk
  simp only [List.length_map] at hc0 hcap
  clear hX
  rcases hi with hi | hi
  · go_enter Try.func19, Try.ntmps19
    go_wp2
    go_ret
    exact ⟨rfl, hend⟩
  · have hi0 : ¬ i < 0 := by omega
    go_enter Try.func19, Try.ntmps19
    go_wp2
    go_ret
    exact ⟨rfl, hend⟩

theorem rtwin_in (w : World) (b : Nat) (l : List Ag) (F : Nat → Prop) (i : Nat) (x : Ag) (hR : RefR w b l F) (hn : l.length ≤ 1000000) (hx : l[i]? = some x) (hd : x.data.size ≤ maxLen) :
    Calls Try.prog 19 #[.pointer (some ⟨b, 0, none⟩), .int .i64 (i : Int)] w fun e w' => e = .returned (.int .i64 (sendE l x.data)) ∧ RLeft w w' b (sendL l x.to x.data) F := by
  have hi := (List.getElem?_eq_some_iff.1 hx).1
  have hs := rsend_calls _ b l F x.to x.data hR hn hd
  obtain ⟨v, u, hX⟩ := hR
  obtain ⟨g, cap, rfl, hgl, hnc, hcm, c0, c1⟩ := hX.rowL hx
  unfold maxLen at hcm
  have hc0 := cell_of_blk (j := 0) hX.blk
  have Hx := Lib.hid hx
  clear hx hX
  go_enter Try.func19, Try.ntmps19
  go_wp2_with (go_at_call 15; refine hs.mono ?_; rintro e w1 ⟨rfl, hL⟩)
  go_ret
  exact ⟨rfl, hL⟩

theorem rtake_out (w : World) (b : Nat) (l : List Ag) (F : Nat → Prop) (i : Int) (hR : RefR w b l F) (hn : l.length ≤ 1000000) (hi : i < 0 ∨ l.length ≤ i) :
    Calls Try.prog 17 #[.pointer (some ⟨b, 0, none⟩), .int .i64 i] w fun e w' => e = .returned (.tuple #[.agg #[.int .i64 0, .string ByteArray.empty], .bool false]) ∧ RLeft w w' b l F := by
  have hA : Upd F w (w.alloc (.cells #[.int .i64 0, .string ByteArray.empty] 32)) := (Upd.refl F w).alloc _
  have hend : RLeft w (w.alloc (.cells #[.int .i64 0, .string ByteArray.empty] 32)) b l F := RLeft.pre hA (RLeft.refl (hR.pre ((Below.refl _ _).alloc (Nat.le_refl _) _)))
  have hbl := hR.bound
  obtain ⟨v, u, hX⟩ := hR
  have hbl := hX.lt b hX.Fb
  obtain ⟨ao, cap, rfl, hcap⟩ := own_slice hX.ownL
  have hc0 := cell_of_blk (j := 0) hX.blk
  simp only [List.length_map] at hc0 hcap
  clear hX
  rcases hi with hi | hi
  · go_enter Try.func17, Try.ntmps17
    go_wp2
    refine bodyPost_ret (results_cell_tmp rfl _ _ w.heap.size _ _ _ rfl (heap_alloc_new w _) Try.underlying32 rfl (by kernel_rfl)) rfl ⟨rfl, hend⟩
  · have hi0 : ¬ i < 0 := by omega
    go_enter Try.func17, Try.ntmps17
    go_wp2
    refine bodyPost_ret (results_cell_tmp rfl _ _ w.heap.size _ _ _ rfl (heap_alloc_new w _) Try.underlying32 rfl (by kernel_rfl)) rfl ⟨rfl, hend⟩
end Go.Proofs.Ytdkebkalcelgpaa.Mail
