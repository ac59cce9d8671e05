/- copy and append(s[:i], make(..)...) at rows of elements of any size. -/
import Derived.Test.YtpghaghmejgjbaaGreatDoorK
namespace Go.Proofs.YtpghaghmejgjbaaGreatDoor
open Go.RowKit

section
variable {P : Program} {t e : TypeId} {size bytes : Nat} {w : World} {o : Oper} {a : Act} {ops : Array Oper} {rest : List Oper} {Q : Exit → Act → World → Prop} {K : Act → World → Prop} {E : Prop}

theorem ET.run_copy (T : ET P t e size bytes) {g off : Nat} {cur : Array Value} (hg : w.heap[g]? = some (.cells cur e (0, 0))) {dp sp : Option Addr} {dLen dCap sLen sCap m : Nat} (hm : m = Nat.min sLen dLen) {cs : List Value} (hl : cs.length = m * size)
    (hpos : 0 < m → dp = some ⟨g, off, none⟩ ∧ ∃ ad, sp = some ad ∧ ∀ j v, cs[j]? = some v → w.cell? (ad.add j) = some v) (hfit : off + cs.length ≤ cur.size) (h1 : ∀ v ∈ cs, v.oneCell' = true) (ty : TypeId) :
    ∃ w', (Builtin.copy_ #[t, t] ty #[.slice dp dLen dCap, .slice sp sLen sCap]).run P w = .ok (goInt m) w' ∧ w'.heap[g]? = some (.cells (splice cur.toList off cs).toArray e (0, 0)) ∧ w.grownBy w' (some g) := by
  obtain ⟨i, z, hi, hz0, hz1, hz2, hz3, hone⟩ := T.inf
  by_cases h0 : m = 0
  · subst h0
    obtain rfl : cs = [] := List.eq_nil_of_length_eq_zero (by omega)
    refine ⟨w, ?_, by simpa [splice] using hg, World.grownBy.refl w _⟩
    cases dp <;> cases sp <;> simp [Builtin.copy_, run_underlying T.und, sizeOf, typeInfo, hi, Builtin.lenOf, Builtin.firstCells, ← hm, storeCells, loadCells, loadCellsFrom]
  · obtain ⟨rfl, ad, rfl, hsrc⟩ := hpos (by omega)
    have hst := run_storeCells_at P g off e cs 0 cur w hg (by omega) h1
    have hld := run_firstCells_some (P := P) (w := w) size m ad sLen sCap cs hl hsrc
    refine ⟨w.setRow g (cur.toList.take (off + 0) ++ cs ++ cur.toList.drop (off + 0 + cs.length)).toArray, ?_, ?_, ⟨rfl, rfl, rfl, by simp, fun k _ hk => setRow_other w g k _ (fun e => hk (by simp [e]))⟩⟩
    · simp only [Builtin.copy_, Builtin.lenOf]
      simp [run_underlying T.und, sizeOf, typeInfo, hi, hz1, ← hm]
      rw [hld]
      simp [hst]
    · rw [setRow_heap w g cur _ e _ hg]
      simp [splice]

theorem ET.wp_copy (T : ET P t e size bytes) {g off : Nat} {cur : Array Value} (hg : w.heap[g]? = some (.cells cur e (0, 0))) {dp sp : Option Addr} {dLen dCap sLen sCap m : Nat} (hm : m = Nat.min sLen dLen) {cs : List Value} (hl : cs.length = m * size)
    (hpos : 0 < m → dp = some ⟨g, off, none⟩ ∧ ∃ ad, sp = some ad ∧ ∀ j v, cs[j]? = some v → w.cell? (ad.add j) = some v) (hfit : off + cs.length ≤ cur.size) (h1 : ∀ v ∈ cs, v.oneCell' = true)
    (d s : Operand) (ho : o.op = .call { callee := .builtin .copy, args := #[d, s], argTypes := #[t, t] }) (hd : a.eval d = .slice dp dLen dCap) (hs : a.eval s = .slice sp sLen sCap)
    (h : ∀ w', Hid (w'.heap[g]? = some (.cells (splice cur.toList off cs).toArray e (0, 0))) → w.grownBy w' (some g) → K (a.put o.dst (goInt m)) w') : o.wp P a w K Q := by
  obtain ⟨w', hrun, h2, h3⟩ := T.run_copy hg (dCap := dCap) (sCap := sCap) hm hl hpos hfit h1 o.type
  unfold Oper.wp
  simp [execOp, ho, resolve, invoke, builtin, hd, hs, hrun, Result.andThen]
  exact h w' (Lib.hid h2) h3
theorem ET.wpList_copy (T : ET P t e size bytes) {g off : Nat} {cur : Array Value} (hg : w.heap[g]? = some (.cells cur e (0, 0))) {dp sp : Option Addr} {dLen dCap sLen sCap m : Nat} (hm : m = Nat.min sLen dLen) {cs : List Value} (hl : cs.length = m * size)
    (hpos : 0 < m → dp = some ⟨g, off, none⟩ ∧ ∃ ad, sp = some ad ∧ ∀ j v, cs[j]? = some v → w.cell? (ad.add j) = some v) (hfit : off + cs.length ≤ cur.size) (h1 : ∀ v ∈ cs, v.oneCell' = true)
    (hgd : o.guard = none) (d s : Operand) (ho : o.op = .call { callee := .builtin .copy, args := #[d, s], argTypes := #[t, t] }) (hd : a.eval d = .slice dp dLen dCap) (hs : a.eval s = .slice sp sLen sCap)
    (h : ∀ w', Hid (w'.heap[g]? = some (.cells (splice cur.toList off cs).toArray e (0, 0))) → w.grownBy w' (some g) → wpList P ops Q rest (a.put o.dst (goInt m)) w') : wpList P ops Q (o :: rest) a w :=
  wpList_plain hgd fun _ hK => T.wp_copy hg hm hl hpos hfit h1 d s ho hd hs fun w' h1 h2 => hK _ _ (h w' h1 h2)
theorem ET.step_copy (T : ET P t e size bytes) {g off : Nat} {cur : Array Value} (hg : w.heap[g]? = some (.cells cur e (0, 0))) {dp sp : Option Addr} {dLen dCap sLen sCap m : Nat} (hm : m = Nat.min sLen dLen) {cs : List Value} (hl : cs.length = m * size)
    (hpos : 0 < m → dp = some ⟨g, off, none⟩ ∧ ∃ ad, sp = some ad ∧ ∀ j v, cs[j]? = some v → w.cell? (ad.add j) = some v) (hfit : off + cs.length ≤ cur.size) (h1 : ∀ v ∈ cs, v.oneCell' = true)
    (hgd : o.guard = none) (d s : Operand) (ho : o.op = .call { callee := .builtin .copy, args := #[d, s], argTypes := #[t, t] }) (hd : a.eval d = .slice dp dLen dCap) (hs : a.eval s = .slice sp sLen sCap)
    (h : ∀ w', Hid (w'.heap[g]? = some (.cells (splice cur.toList off cs).toArray e (0, 0))) → w.grownBy w' (some g) → K (a.put o.dst (goInt m)) w') :
    if Region.wanted o (yielded ops a.tmps) = true then Oper.wp P o a w K Q else E := by
  rw [if_pos (by simp [Region.wanted, hgd])]
  exact T.wp_copy hg hm hl hpos hfit h1 d s ho hd hs h
/-- append(s[:i], make([]T, k)...), where there is no room for k more: a new row; what lay ahead of i lies in it. -/
theorem ET.run_zeros (T : ET P t e size bytes) {tn : TypeId} (htn : P.underlying tn = some (.int .i64)) {g n cap : Nat} {xs : List Value} (hown : w.ownsRow 0 e size (.slice (some ⟨g, 0, none⟩) n cap) n xs) {i k : Nat} (hi : i ≤ n) (hk : 0 < k) (hcap : cap < i + k)
    (hb : (i + k) * bytes ≤ 140737488355328) (h63 : i + k ≤ maxLen) (ty : TypeId) :
    ∃ w' cap' cur, (Builtin.append_ #[t, tn] ty #[.slice (some ⟨g, 0, none⟩) i cap, .int .i64 (k : Int)]).run P w = .ok (.slice (some ⟨w.heap.size, 0, none⟩) (i + k) cap') w' ∧
      w'.heap[w.heap.size]? = some (.cells cur e (0, 0)) ∧ cur.size = cap' * size ∧ i + k ≤ cap' ∧ cap' ≤ maxLen ∧ cur.toList.take (i * size) = xs.take (i * size) ∧ Below w.heap.size w w' ∧ w.heap.size < w'.heap.size := by
  obtain ⟨inf, z, hi0, hz0, hz1, hz2, hz3, hone⟩ := T.inf
  have hp := T.pos
  have ht := own_take hown hi
  have hle : (xs.take (i * size)).length = i * size := ht.1
  have hcells : ∀ j u, (xs.take (i * size))[j]? = some u → w.cell? ((⟨g, 0, none⟩ : Addr).add j) = some u := ht.cells (g := g) rfl
  have hfo := run_firstCells_some (P := P) (w := w.drew) size i ⟨g, 0, none⟩ i cap (xs.take (i * size)) hle hcells
  have hge := grownCap_ge w (i + k) cap e
  have hcm := grownCap_le_maxLen w (i + k) cap e h63
  have h63' := h63
  unfold maxLen at h63'
  have hw : IntKind.i64.wrap (k : Int) = k := by rw [IntKind.wrap_i64]; omega
  have hneg : ¬ ((k : Int) < 0) := by omega
  have hkb : k * bytes ≤ 140737488355328 := Nat.le_trans (Nat.mul_le_mul_right _ (by omega)) hb
  have h48i : ¬ (281474976710656 < (k : Int) * (bytes : Int)) := by rw [← Int.natCast_mul]; omega
  have hns : ¬ (k * size = 0) := Nat.mul_ne_zero (by omega) (by omega)
  have hroom : ¬ (i + k ≤ cap) := by omega
  have hmx : ¬ (9223372036854775807 < (i : Int) + (k : Int)) := by omega
  have h48 : ¬ (281474976710656 < Builtin.nextslicecap (i + k) cap * bytes) := by
    have := growslice_fits (need := i + k) (old := cap) (by omega) hb
    omega
  refine ⟨w.drew.alloc (.cells ((xs.take (i * size)).toArray ++ Builtin.zeroCells z.cells k ++ Builtin.zeroCells z.cells (grownCap w (i + k) cap e - (i + k))) e), grownCap w (i + k) cap e, _, ?_, heap_alloc_new w.drew _, ?_, hge, hcm, ?_, (Below.refl _ w).drew.alloc (Nat.le_refl _) _, by simp⟩
  · subst hz2
    simp [Builtin.append_, run_underlying T.und, run_underlying htn, sizeOf, typeInfo, zeroValue, hi0, hz0, hz1, asInt, asIntOf, hw, hneg, hns, hmx, h48, h48i, hroom, Question.forced, hfo, newRow, grownCap]
  · simp only [Array.size_append, List.size_toArray, size_zeroCells, hz3, hle, ← Nat.add_mul]
    congr 1; omega
  · simp only [Array.toList_append, List.append_assoc]
    rw [List.take_left' hle]

theorem ET.wpList_zeros (T : ET P t e size bytes) {tn : TypeId} (htn : P.underlying tn = some (.int .i64)) {g n cap : Nat} {xs : List Value} (hown : w.ownsRow 0 e size (.slice (some ⟨g, 0, none⟩) n cap) n xs) {i k N : Nat} (hN : N = i + k) (hi : i ≤ n) (hk : 0 < k) (hcap : cap < i + k)
    (hb : (i + k) * bytes ≤ 140737488355328) (h63 : i + k ≤ maxLen)
    (hgd : o.guard = none) (s x : Operand) (ho : o.op = .call { callee := .builtin .append, args := #[s, x], argTypes := #[t, tn] }) (hs : a.eval s = .slice (some ⟨g, 0, none⟩) i cap) {kI : Int} (hx : a.eval x = .int .i64 kI) (hkI : kI = (k : Int))
    (h : ∀ w' cap' cur, w'.heap[w.heap.size]? = some (.cells cur e (0, 0)) → cur.size = cap' * size → N ≤ cap' → cap' ≤ maxLen → cur.toList.take (i * size) = xs.take (i * size) → Below w.heap.size w w' → w.heap.size < w'.heap.size → wpList P ops Q rest (a.put o.dst (.slice (some ⟨w.heap.size, 0, none⟩) N cap')) w') : wpList P ops Q (o :: rest) a w := by
  subst hkI
  subst hN
  refine wpList_plain hgd fun K hK => ?_
  obtain ⟨w', cap', cur, hrun, h1, h2, h3, h4, h5, h6, h7⟩ := T.run_zeros htn hown hi hk hcap hb h63 o.type
  unfold Oper.wp execOp
  simp only [ho, resolve, invoke, builtin, Sem.run_bind, Sem.run_pure, Result.andThen_ok, List.map_toArray, List.map_cons, List.map_nil, hs, hx, hrun]
  exact hK _ _ (h w' cap' cur h1 h2 h3 h4 h5 h6 h7)
end
/-- The cells of a part of an owned row. -/
theorem own_part {w : World} {base e size n g cap k c : Nat} {xs ys : List Value} (h : w.ownsRow base e size (.slice (some ⟨g, 0, none⟩) n cap) n xs) (hy : ys = (xs.drop (k * size)).take c) {B : Nat} (hB : g < B) {W : World} (hW : Below B w W) :
    ∀ j z, ys[j]? = some z → W.cell? ⟨g, k * size + j, none⟩ = some z := fun j z hz => by
  subst hy
  have h1 : j < c ∧ xs[k * size + j]? = some z := by
    rw [List.getElem?_take] at hz
    split at hz
    · rename_i hj; rw [List.getElem?_drop] at hz; exact ⟨hj, hz⟩
    · simp at hz
  have h2 := (List.getElem?_eq_some_iff.1 h1.2).1
  rw [hW.cell (p := ⟨g, k * size + j, none⟩) hB, h.cellAt _ (by rw [← h.1]; exact h2)]
  exact h1.2

theorem insertIdx_parts {α : Type} (x : α) : ∀ (l : List α) (i : Nat), i ≤ l.length → l.insertIdx i x = l.take i ++ x :: l.drop i
  | l, 0, _ => by simp
  | [], i + 1, h => by simp at h
  | a :: l, i + 1, h => by simp [List.insertIdx_succ_cons, insertIdx_parts x l i (by simpa using h)]
end Go.Proofs.YtpghaghmejgjbaaGreatDoor
