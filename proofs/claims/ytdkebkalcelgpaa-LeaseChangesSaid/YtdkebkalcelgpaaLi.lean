/- Leases: slices.Insert of one, where there is room. -/
import Derived.Test.YtdkebkalcelgpaaLh
namespace Go.Proofs.Ytdkebkalcelgpaa.Lease
open Go.RowKit
set_option linter.unusedSimpArgs false

theorem over_run (w : World) (B g off lb cb : Nat) (cs cur : Array Value) (hB : w.heap[B]? = some (.cells cs 55 (0, 0))) (hg : w.heap[g]? = some (.cells cur 55 (0, 0))) (hne : B ≠ g) (hc : cur.size ≠ 0) :
    (callFunc 55 #[.slice (some ⟨B, 0, none⟩) 1 1, .slice (some ⟨g, off, none⟩) lb cb]).run Try.prog w = .ok (.value (.bool false)) w := by
  obtain ⟨i, z, hi, hz0, hz1, hz2, hz3, hone⟩ := etLe.inf
  rw [run_callFunc_extern Try.func55 (by kernel_rfl) (by kernel_rfl) (by kernel_rfl) (e := Extern.SlicesOverlaps.overlaps #[50, 50] #[4]) (by kernel_rfl),
    Lib.run_overlaps_apart w 50 4 55 Try.underlying50 2 (fun w => by simp [Go.sizeOf, typeInfo, hi, hz1]) ⟨B, 0, none⟩ ⟨g, off, none⟩ 1 1 lb cb hne 55 55 cs.size cur.size (by simp [World.shape?, hB]) (by simp [World.shape?, hg]) hc (free_of_blk hB) (free_of_blk hB)]
  rfl

theorem ins_row2 {l : List Le} (x : Le) {i cap : Nat} {cur : List Value} (hi : i ≤ l.length) (hcap : l.length + 1 ≤ cap) (hsz : cur.length = cap * 2) (ht : cur.take (i * 2) = (flatL l).take (i * 2)) :
    (splice (splice cur ((i + 1) * 2) ((flatL l).drop (i * 2))) (i * 2) (encL x)).length = cap * 2 ∧ (splice (splice cur ((i + 1) * 2) ((flatL l).drop (i * 2))) (i * 2) (encL x)).take ((l.length + 1) * 2) = flatL (l.insertIdx i x) := by
  have hle := encL_len x
  have hfl := flatL_len l
  have hd : ((flatL l).drop (i * 2)).length = l.length * 2 - i * 2 := by rw [List.length_drop, hfl]
  have h1 : (splice cur ((i + 1) * 2) ((flatL l).drop (i * 2))).length = cap * 2 := by rw [length_splice _ _ _ (by omega), hsz]
  have h2 : (splice cur ((i + 1) * 2) ((flatL l).drop (i * 2))).take (i * 2) = cur.take (i * 2) := by
    rw [splice, List.take_append_of_le_length (by rw [List.length_take]; omega), List.take_take]
    congr 1; omega
  have h3 : (splice cur ((i + 1) * 2) ((flatL l).drop (i * 2))).drop (i * 2 + (encL x).length) = (flatL l).drop (i * 2) ++ cur.drop ((i + 1) * 2 + ((flatL l).drop (i * 2)).length) := by
    rw [splice, hle, show i * 2 + 2 = (i + 1) * 2 by omega]
    exact List.drop_left' (by rw [List.length_take]; omega)
  refine ⟨by rw [length_splice _ _ _ (by omega), h1], ?_⟩
  rw [splice, h2, h3, ← List.append_assoc, ← List.append_assoc, List.take_left' (by simp only [List.length_append, List.length_take]; omega), ht, flatL_take, flatL_drop, flatL_insert x hi, List.append_assoc]

set_option maxHeartbeats 4000000 in
theorem ins_shift (w : World) (g cap : Nat) (l : List Le) (x : Le) (B i : Nat) (hi : i < l.length) (hown : w.ownsRow 0 55 2 (.slice (some ⟨g, 0, none⟩) l.length cap) l.length (flatL l)) (hB : w.heap[B]? = some (.cells #[.int .i64 x.c, .int .i64 x.u] 55 (0, 0))) (hne : B ≠ g) (hn : l.length ≤ 1000000) (hroom : l.length + 1 ≤ cap) :
    Calls Try.prog 46 #[.slice (some ⟨g, 0, none⟩) l.length cap, .int .i64 (i : Int), .slice (some ⟨B, 0, none⟩) 1 1] w (InsPost w (.slice (some ⟨g, 0, none⟩) l.length cap) (l.insertIdx i x)) := by
  obtain ⟨g', cap', cur, hv, _, hg, hnc, hcm, hcs, htk⟩ := hown.2.resolve_left (fun h => by simp at h)
  simp only [Value.slice.injEq, Option.some.injEq, Addr.mk.injEq, and_true, true_and] at hv
  obtain ⟨rfl, rfl⟩ := hv
  unfold maxLen at hcm
  have hov := fun lb cb => over_run w B g ((i + 1) * 2) lb cb _ _ hB hg hne (by omega)
  have hni : ((i : Int) == (l.length : Int)) = false := by simp; omega
  have hgt : ¬ ((cap : Int) < (l.length : Int) + 1) := by omega
  have hli : ¬ (cap = i) := by omega
  have hli1 : ¬ (cap = i + 1) := by omega
  have hin : (i : Int) ≤ (l.length : Int) := by omega
  have j0 : IntKind.i64.wrap ((i : Int) + 1) = (i : Int) + 1 := by rw [IntKind.wrap_i64]; omega
  have j1 : (0 : Int) ≤ (i : Int) + 1 := by omega
  have j2 : ((i : Int) + 1).toNat = i + 1 := by omega
  have j3 : (i : Int) + 1 ≤ (l.length : Int) := by omega
  have j5 : ((l.length : Int) + 1).toNat = l.length + 1 := by omega
  have j6 : (l.length : Int) + 1 ≤ (cap : Int) := by omega
  have j7 : (0 : Int) ≤ (l.length : Int) + 1 := by omega
  have j8 : (i : Int) ≤ (l.length : Int) + 1 := by omega
  have Hg := Lib.hid hg; have Hcs := Lib.hid hcs; have Htk := Lib.hid htk; clear hg hcs htk
  go_enter Try.func46, Try.ntmps46
  go_wp2_with (simp only [hov])
  have HS := Lib.hid fun (W : World) (hW : Below w.heap.size w W) => own_part (k := i) (c := l.length * 2) hown (ys := (flatL l).drop (i * 2)) (by rw [List.take_of_length_le (by rw [List.length_drop, flatL_len]; omega)]) (show g < w.heap.size from (hown.lt g rfl).2) hW
  have Q1 : Hid (l.length - i = Nat.min (l.length + 1 - i) (l.length - i)) := by
    show l.length - i = Nat.min (l.length + 1 - i) (l.length - i)
    simp only [Nat.min_def]; split <;> omega
  have Q2 : Hid (((flatL l).drop (i * 2)).length = (l.length - i) * 2) := by
    show ((flatL l).drop (i * 2)).length = (l.length - i) * 2
    rw [List.length_drop, flatL_len]; omega
  have Q3 : Hid ((i + 1) * 2 + ((flatL l).drop (i * 2)).length ≤ cur.size) := by
    have := Hcs.out; have := Q2.out
    show (i + 1) * 2 + ((flatL l).drop (i * 2)).length ≤ cur.size
    omega
  have Q4 : Hid (∀ (j : Nat) (v : Value), ((flatL l).drop (i * 2))[j]? = some v → w.drew.cell? ((⟨g, i * 2, none⟩ : Addr).add j) = some v) := fun j v hj => by rw [Addr.add_lit]; exact HS.out w (Below.refl _ _) j v hj
  go_region_law (refine etLe.step_copy (g := g) (off := (i + 1) * 2) (cur := cur) (dp := some ⟨g, (i + 1) * 2, none⟩) (sp := some ⟨g, i * 2, none⟩) (dLen := l.length - i) (sLen := l.length + 1 - i) (dCap := cap - (i + 1)) (sCap := cap - i) (m := l.length - i) (cs := (flatL l).drop (i * 2)) Hg.out Q1.out Q2.out (fun _ => ⟨rfl, _, rfl, Q4.out⟩) Q3.out (fun v hv => flatL_one l v (List.mem_of_mem_drop hv)) rfl (.tmp 73) (.tmp 76) rfl (by simp [Act.eval, Act.put]) (by simp [Act.eval, Act.put]) ?_; intro w3 Hg3 hgr3)
  all_goals
    have hBl := lt_of_block hB
    have HB3 : Hid (w3.heap[B]? = some (.cells #[.int .i64 x.c, .int .i64 x.u] 55 (0, 0))) := (hgr3.block B hBl (fun e => hne (by simp only [Option.some.injEq] at e; first | exact e | exact e.symm))).trans hB
    have S1 : Hid ((splice cur.toList ((i + 1) * 2) ((flatL l).drop (i * 2))).toArray.size = cap * 2) := by
      have := Hcs.out; have := Q3.out; have := Array.length_toList (xs := cur)
      show (splice cur.toList ((i + 1) * 2) ((flatL l).drop (i * 2))).toArray.size = cap * 2
      rw [List.size_toArray, length_splice _ _ _ (by omega)]; omega
    obtain ⟨cur3, hcur3⟩ : ∃ cur3, cur3 = (splice cur.toList ((i + 1) * 2) ((flatL l).drop (i * 2))).toArray := ⟨_, rfl⟩
    rw [← hcur3] at Hg3 S1
    have Hc3 := Lib.hid hcur3; clear hcur3 hov hB
    go_wp2_with ((with_reducible refine etLe.wpList_copy (g := g) (off := i * 2) (cur := cur3) (m := 1) (cs := [.int .i64 x.c, .int .i64 x.u]) Hg3.out (by simp only [Nat.min_def]; split <;> omega) (by simp) (fun _ => ⟨rfl, _, rfl, src_of HB3.out⟩) (by have := S1.out; simp; omega) (by simp [Value.oneCell']) rfl (.tmp 80) (.tmp 81) rfl rfl rfl ?_); intro w4 Hg4 hgr4)
    go_ret
    obtain ⟨r1, r2⟩ := ins_row2 x (Nat.le_of_lt hi) (cap := cap) (cur := cur.toList) (by omega) (by rw [Array.length_toList, Hcs.out]) (by rw [← Htk.out, List.take_take]; congr 1; omega)
    have hlen : (l.insertIdx i x).length = l.length + 1 := by rw [List.length_insertIdx, if_pos (Nat.le_of_lt hi)]
    have H4 := Hg4.out
    rw [Hc3.out] at H4
    refine ⟨.slice (some ⟨g, 0, none⟩) (l.length + 1) cap, rfl, ?_, fun q hq => .inl hq, (((Upd.refl _ w).drew.grown hgr3 fun q hq => .inl (by simpa [Value.ownBlock] using hq)).grown hgr4 fun q hq => .inl (by simpa [Value.ownBlock] using hq))⟩
    rw [hlen]
    refine ⟨by rw [flatL_len, hlen], .inr ⟨g, cap, _, rfl, Nat.zero_le _, H4, hroom, by unfold maxLen; omega, ?_, ?_⟩⟩
    · simpa [encL] using r1
    · simpa [encL] using r2

/-- slices.Insert of one lease into a row of the call's own. -/
theorem ins_calls (w : World) (v : Value) (l : List Le) (x : Le) (B i : Nat) (hi : i ≤ l.length) (hown : w.ownsRow 0 55 2 v l.length (flatL l)) (hB : w.heap[B]? = some (.cells #[.int .i64 x.c, .int .i64 x.u] 55 (0, 0))) (hne : v.ownBlock ≠ some B) (hn : l.length ≤ 1000000) :
    Calls Try.prog 46 #[v, .int .i64 (i : Int), .slice (some ⟨B, 0, none⟩) 1 1] w (InsPost w v (l.insertIdx i x)) := by
  by_cases he : i = l.length
  · have := ins_end w v l x B i he hown hB hn
    rw [insertIdx_parts x l i hi, he, List.take_length, List.drop_length]
    exact he ▸ this
  · obtain ⟨g, cap, rfl, _, _⟩ := hown.form (by omega)
    have hBg : B ≠ g := fun e => hne (by rw [e]; rfl)
    by_cases hc : l.length + 1 ≤ cap
    · exact ins_shift w g cap l x B i (by omega) hown hB hBg hn hc
    · obtain ⟨_, _, h, hcap⟩ := own_slice hown
      simp only [Value.slice.injEq, true_and] at h
      obtain ⟨_, rfl⟩ := h
      obtain rfl : cap = l.length := by omega
      exact ins_grow w g l x B i (by omega) hown hB hn
end Go.Proofs.Ytdkebkalcelgpaa.Lease
