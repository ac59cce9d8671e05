/- Leases: slices.Insert of one. -/
import Derived.Test.YtdkebkalcelgpaaLg
namespace Go.Proofs.Ytdkebkalcelgpaa.Lease
open Go.RowKit
set_option linter.unusedSimpArgs false

/-- What Insert leaves. -/
def InsPost (w : World) (v : Value) (q : List Le) (e : Ending) (w' : World) : Prop :=
  ∃ v', e = .returned v' ∧ w'.ownsRow 0 55 2 v' q.length (flatL q) ∧ (∀ g, v'.ownBlock = some g → v.ownBlock = some g ∨ w.heap.size ≤ g) ∧ Upd (fun k => v.ownBlock = some k) w w'

theorem src_of {W : World} {B : Nat} {cs : Array Value} {t : TypeId} (h : W.heap[B]? = some (.cells cs t (0, 0))) : ∀ (j : Nat) (v : Value), cs.toList[j]? = some v → W.cell? ((⟨B, 0, none⟩ : Addr).add j) = some v := fun j v hj => by
  rw [Addr.add_lit, Nat.zero_add, cell_of_blk h]
  simpa using hj
theorem ins_end (w : World) (v : Value) (l : List Le) (x : Le) (B i : Nat) (hi : i = l.length) (hown : w.ownsRow 0 55 2 v l.length (flatL l)) (hB : w.heap[B]? = some (.cells #[.int .i64 x.c, .int .i64 x.u] 55 (0, 0))) (hn : l.length ≤ 1000000) :
    Calls Try.prog 46 #[v, .int .i64 (i : Int), .slice (some ⟨B, 0, none⟩) 1 1] w (InsPost w v (l ++ [x])) := by
  subst hi
  obtain ⟨ao, cap, rfl, hcap⟩ := own_slice hown
  have hcm : cap ≤ 9223372036854775807 := by
    rcases hown.2 with ⟨h, _⟩ | ⟨g, c, cur, h, _, _, _, h2, _⟩
    · simp at h; omega
    · simp at h; unfold maxLen at h2; omega
  by_cases hci : cap = l.length
  · subst hci
    go_enter Try.func46, Try.ntmps46
    go_wp2_with (at_builtin; (with_reducible refine etLe.wpList1 hown hB rfl (by simp [Value.oneCell']) (by omega) (by unfold maxLen; omega) rfl (.tmp 23) (.tmp 24) rfl rfl rfl ?_); intro g1 cap1 w1 hown1 hgrow hat hlt1)
    go_ret
    refine ⟨.slice (some ⟨g1, 0, none⟩) (l.length + 1) cap1, rfl, by rw [List.length_append, flatL_snoc]; exact hown1, fun g hg => ?_, (Upd.refl _ w).grown hgrow fun k hk => .inl hk⟩
    simp only [Value.ownBlock, Option.some.injEq] at hg
    subst hg
    exact hat.imp id fun h => by omega
  · go_enter Try.func46, Try.ntmps46
    go_wp2_with (at_builtin; (with_reducible refine etLe.wpList1 hown hB rfl (by simp [Value.oneCell']) (by omega) (by unfold maxLen; omega) rfl (.tmp 23) (.tmp 24) rfl rfl rfl ?_); intro g1 cap1 w1 hown1 hgrow hat hlt1)
    go_ret
    refine ⟨.slice (some ⟨g1, 0, none⟩) (l.length + 1) cap1, rfl, by rw [List.length_append, flatL_snoc]; exact hown1, fun g hg => ?_, (Upd.refl _ w).grown hgrow fun k hk => .inl hk⟩
    simp only [Value.ownBlock, Option.some.injEq] at hg
    subst hg
    exact hat.imp id fun h => by omega

theorem flatL_insert {l : List Le} {i : Nat} (x : Le) (hi : i ≤ l.length) : flatL (l.insertIdx i x) = flatL (l.take i) ++ (encL x ++ flatL (l.drop i)) := by
  rw [insertIdx_parts x l i hi, flatL_append]
  simp [flatL]
theorem ins_row {l : List Le} (x : Le) {i cap : Nat} {cur : List Value} (hi : i ≤ l.length) (hcap : l.length + 1 ≤ cap) (hsz : cur.length = cap * 2) (ht : cur.take (i * 2) = (flatL l).take (i * 2)) :
    (splice (splice cur (i * 2) (encL x)) ((i + 1) * 2) ((flatL l).drop (i * 2))).length = cap * 2 ∧ (splice (splice cur (i * 2) (encL x)) ((i + 1) * 2) ((flatL l).drop (i * 2))).take ((l.length + 1) * 2) = flatL (l.insertIdx i x) := by
  have hle := encL_len x
  have hfl := flatL_len l
  have hd : ((flatL l).drop (i * 2)).length = l.length * 2 - i * 2 := by rw [List.length_drop, hfl]
  have h1 : (splice cur (i * 2) (encL x)).length = cap * 2 := by rw [length_splice _ _ _ (by omega), hsz]
  have h2 : (splice cur (i * 2) (encL x)).take ((i + 1) * 2) = cur.take (i * 2) ++ encL x := by
    rw [splice, ← List.append_assoc]
    exact List.take_left' (by simp only [List.length_append, List.length_take]; omega)
  refine ⟨by rw [length_splice _ _ _ (by omega), h1], ?_⟩
  rw [splice, h2, ← List.append_assoc, List.take_left' (by simp only [List.length_append, List.length_take]; omega), ht, flatL_take, flatL_drop, flatL_insert x hi, List.append_assoc]

set_option maxHeartbeats 4000000 in
theorem ins_grow (w : World) (g : Nat) (l : List Le) (x : Le) (B i : Nat) (hi : i < l.length) (hown : w.ownsRow 0 55 2 (.slice (some ⟨g, 0, none⟩) l.length l.length) l.length (flatL l)) (hB : w.heap[B]? = some (.cells #[.int .i64 x.c, .int .i64 x.u] 55 (0, 0))) (hn : l.length ≤ 1000000) :
    Calls Try.prog 46 #[.slice (some ⟨g, 0, none⟩) l.length l.length, .int .i64 (i : Int), .slice (some ⟨B, 0, none⟩) 1 1] w (InsPost w (.slice (some ⟨g, 0, none⟩) l.length l.length) (l.insertIdx i x)) := by
  obtain ⟨k, hk⟩ : ∃ k, l.length = i + k := ⟨l.length - i, by omega⟩
  have hk1 : (l.length : Int) + 1 - (i : Int) = (k : Int) + 1 := by omega
  have hni : ((i : Int) == (l.length : Int)) = false := by simp; omega
  have hgt : (l.length : Int) < (l.length : Int) + 1 := by omega
  have hli : ¬ (l.length = i) := by omega
  obtain ⟨N, hN⟩ : ∃ N, N = l.length + 1 := ⟨_, rfl⟩
  have hN1 : i < N := by omega
  have hN2 : i + 1 < N := by omega
  have hN3 : N ≤ 1000001 := by omega
  have HN := Lib.hid hN; clear hN
  have Hk := Lib.hid hk; clear hk
  go_enter Try.func46, Try.ntmps46
  go_wp2_with (first
    | (at_builtin; (with_reducible refine etLe.wpList_zeros Try.underlying3 hown (i := i) (k := k + 1) (N := N) (by have := Hk.out; have := HN.out; omega) (by omega) (by omega) (by have := Hk.out; omega) (by have := Hk.out; omega) (by have := Hk.out; unfold maxLen; omega) rfl (.tmp 34) (.tmp 39) rfl rfl rfl (by omega) ?_); intro w1 cap1 cur1 hg1 hs1 hc1 hm1 ht1 hb1 hl1; have Hg1 := Lib.hid hg1; have Ht1 := Lib.hid ht1; have Hs1 := Lib.hid hs1; clear hg1 ht1 hs1 hk1; have n1 : ¬ (cap1 = i) := (by omega); have n3 : (i : Int) ≤ (N : Int) := (by omega); have n4 : (i : Int) + 1 ≤ (N : Int) := (by omega); have n2 : ¬ (cap1 = i + 1) := (by omega); unfold maxLen at hm1; have hB1 := (hb1.block B (lt_of_block hB)).trans hB; have HB1 := Lib.hid hB1; clear hB1)
    | ((with_reducible refine etLe.wpList_copy (g := w.heap.size) (off := i * 2) (cur := cur1) (m := 1) (cs := [.int .i64 x.c, .int .i64 x.u]) Hg1.out (by simp only [Nat.min_def]; split <;> omega) (by simp) (fun _ => ⟨rfl, _, rfl, src_of HB1.out⟩) (by have := Hs1.out; simp; omega) (by simp [Value.oneCell']) rfl (.tmp 43) (.tmp 44) rfl rfl rfl ?_); intro w2 Hg2 hgr2))
  have hb2 : Below w.heap.size w w2 := hb1.grown hgr2 hb1.size (fun q hq => by simp at hq; omega)
  have HS := Lib.hid fun (W : World) (hW : Below w.heap.size w W) => own_part (k := i) (c := l.length * 2) hown (ys := (flatL l).drop (i * 2)) (by rw [List.take_of_length_le (by rw [List.length_drop, flatL_len]; omega)]) (show g < w.heap.size from (hown.lt g rfl).2) hW
  have hz2 := hb2.size
  have j0 : IntKind.i64.wrap ((i : Int) + 1) = (i : Int) + 1 := by rw [IntKind.wrap_i64]; omega
  have j1 : (0 : Int) ≤ (i : Int) + 1 := by omega
  have j2 : ((i : Int) + 1).toNat = i + 1 := by omega
  have j3 : (i : Int) + 1 ≤ (cap1 : Int) := by omega
  have j4 : (i : Int) ≤ (l.length : Int) := by omega
  have Q1 : Hid (k = Nat.min (l.length - i) (N - (i + 1))) := by
    have := Hk.out; have := HN.out
    show k = Nat.min (l.length - i) (N - (i + 1))
    simp only [Nat.min_def]; split <;> omega
  have Q2 : Hid (((flatL l).drop (i * 2)).length = k * 2) := by
    have := Hk.out
    show ((flatL l).drop (i * 2)).length = k * 2
    rw [List.length_drop, flatL_len]; omega
  have Q3 : Hid ((i + 1) * 2 + ((flatL l).drop (i * 2)).length ≤ (splice cur1.toList (i * 2) [.int .i64 x.c, .int .i64 x.u]).toArray.size) := by
    have := Hk.out; have := HN.out; have := Hs1.out; have := Q2.out
    show (i + 1) * 2 + ((flatL l).drop (i * 2)).length ≤ (splice cur1.toList (i * 2) [.int .i64 x.c, .int .i64 x.u]).toArray.size
    rw [List.size_toArray, length_splice _ _ _ (by have := Array.length_toList (xs := cur1); simp only [List.length_cons, List.length_nil]; omega), Array.length_toList (xs := cur1)]; omega
  have Q4 : Hid (∀ (j : Nat) (v : Value), ((flatL l).drop (i * 2))[j]? = some v → w2.drew.cell? ((⟨g, i * 2, none⟩ : Addr).add j) = some v) := fun j v hj => by rw [Addr.add_lit]; exact HS.out w2 hb2 j v hj
  go_region_law (refine etLe.step_copy (g := w.heap.size) (off := (i + 1) * 2) (cur := (splice cur1.toList (i * 2) [.int .i64 x.c, .int .i64 x.u]).toArray) (dp := some ⟨w.heap.size, (i + 1) * 2, none⟩) (sp := some ⟨g, i * 2, none⟩) (dLen := N - (i + 1)) (sLen := l.length - i) (dCap := cap1 - (i + 1)) (sCap := l.length - i) (m := k) (cs := (flatL l).drop (i * 2)) Hg2.out Q1.out Q2.out (fun _ => ⟨rfl, _, rfl, Q4.out⟩) Q3.out (fun v hv => flatL_one l v (List.mem_of_mem_drop hv)) rfl (.tmp 50) (.tmp 53) rfl (by simp [Act.eval, Act.put]) (by simp [Act.eval, Act.put]) ?_; intro w3 Hg3 hgr3)
  all_goals
    go_wp2_with (fail)
    go_ret
    obtain ⟨r1, r2⟩ := ins_row x (Nat.le_of_lt hi) (cap := cap1) (cur := cur1.toList) (by have := HN.out; omega) (by rw [Array.length_toList, Hs1.out]) Ht1.out
    have hlen : (l.insertIdx i x).length = l.length + 1 := by rw [List.length_insertIdx, if_pos (Nat.le_of_lt hi)]
    refine ⟨.slice (some ⟨w.heap.size, 0, none⟩) N cap1, rfl, ?_, fun q hq => ?_, Upd.of_below ((hb2.drew.grown hgr3 hb2.size (fun q hq => by simp at hq; omega))) _⟩
    · rw [hlen, ← HN.out]
      refine ⟨by rw [flatL_len, hlen, HN.out], .inr ⟨w.heap.size, cap1, _, rfl, Nat.zero_le _, Hg3.out, hc1, by unfold maxLen; omega, ?_, ?_⟩⟩
      · simpa [encL] using r1
      · rw [HN.out]; simpa [encL] using r2
    · simp only [Value.ownBlock, Option.some.injEq] at hq
      exact .inr (by omega)
end Go.Proofs.Ytdkebkalcelgpaa.Lease
