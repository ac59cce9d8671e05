/- Parts of the proof, one behind the other: K, Kb, O, Ob, Pa, Pb, Pc, Pd, Pe, Pf, Pg, Ph, Pi, Pl, Pm, Pn, Pq, Pt, Pv. -/
import Derived.Test.YtdfckkadmgmcaaaGreatDoorProg
import Derived.WalkKit
import Derived.Deep.LoopGhost
import Derived.Deep.AppendLies
import Derived.Maps.AppendAt
import Derived.Deep.RegionLaw
import Derived.Deep.QuietTactic
import Derived.BigQuiet
import Derived.Laws.CopyOwn
import Derived.OneCell
import Derived.KernelRfl
import Derived.Lib.Hide
import Derived.ProofKit
import Derived.OpenShut
import Derived.SizedLaws
import Derived.Deep.Slices
import Derived.Test.YtdfckkadmgmcaaaGreatDoorRows
import Derived.Lib.SplitLaws
import Derived.Lib.Join
import Derived.Lib.ConvBytes
import Derived.Test.YtdfckkadmgmcaaaGreatDoorSh
import Derived.WalkMore
/- Words on worlds, rows and appends that the walks of this seat use. -/
namespace Go.Proofs.YtdfckkadmgmcaaaGreatDoor
open Go.RowKit

/-- Only blocks of F, and new ones, have changed. -/
structure Upd (F : Nat → Prop) (w w' : World) : Prop where
  os : w'.os = w.os
  tape : w'.tape = w.tape
  output : w'.output = w.output
  size : w.heap.size ≤ w'.heap.size
  block : ∀ k, k < w.heap.size → ¬ F k → w'.heap[k]? = w.heap[k]?

section
variable {F G : Nat → Prop} {w w1 w2 : World}
theorem Upd.refl (F : Nat → Prop) (w : World) : Upd F w w := ⟨rfl, rfl, rfl, Nat.le_refl _, fun _ _ _ => rfl⟩
theorem Upd.trans' (h : Upd F w w1) (k : Upd G w1 w2) (hG : ∀ b, G b → F b ∨ w.heap.size ≤ b) : Upd F w w2 :=
  ⟨k.os.trans h.os, k.tape.trans h.tape, k.output.trans h.output, Nat.le_trans h.size k.size, fun b hb hF =>
    (k.block b (Nat.lt_of_lt_of_le hb h.size) (fun hg => (hG b hg).elim hF (fun hle => absurd hb (Nat.not_lt.2 hle)))).trans (h.block b hb hF)⟩
theorem Upd.trans (h : Upd F w w1) (k : Upd F w1 w2) : Upd F w w2 := h.trans' k fun _ h => .inl h
theorem Upd.mono (h : Upd F w w1) (hG : ∀ b, b < w.heap.size → F b → G b) : Upd G w w1 :=
  ⟨h.os, h.tape, h.output, h.size, fun b hb hg => h.block b hb (fun hf => hg (hG b hb hf))⟩
theorem Upd.of_below (h : Below w.heap.size w w1) (F : Nat → Prop) : Upd F w w1 := ⟨h.os, h.tape, h.output, h.size, fun b hb _ => h.block b hb⟩
theorem Upd.below {B : Nat} (h : Upd F w w1) (hF : ∀ b, b < B → b < w.heap.size → ¬ F b) (hB : B ≤ w.heap.size) : Below B w w1 :=
  ⟨h.os, h.tape, h.output, h.size, fun b hb => h.block b (Nat.lt_of_lt_of_le hb hB) (hF b hb (Nat.lt_of_lt_of_le hb hB))⟩
theorem Upd.drew (h : Upd F w w1) : Upd F w w1.drew := ⟨h.os, h.tape, h.output, h.size, h.block⟩
theorem Upd.drewN (h : Upd F w w1) (n : Nat) : Upd F w (w1.drewN n) := ⟨h.os, h.tape, h.output, h.size, h.block⟩
theorem Upd.alloc (h : Upd F w w1) (o : Obj) : Upd F w (w1.alloc o) :=
  h.trans ⟨rfl, rfl, rfl, by simp, fun k hk _ => Below.heap_alloc _ _ _ (by omega)⟩
theorem Upd.setCell (h : Upd F w w1) {p : Addr} (hp : F p.block ∨ w.heap.size ≤ p.block) (u : Value) : Upd F w (w1.setCell p u) :=
  h.trans' (G := fun k => k = p.block) ⟨rfl, rfl, rfl, by simp [World.setCell], fun k _ hk => Below.heap_setCell _ _ _ _ hk⟩ fun b hb => by subst hb; exact hp
theorem Upd.grown {row : Option Nat} (h : Upd F w w1) (hg : w1.grownBy w2 row) (hr : ∀ k, row = some k → F k ∨ w.heap.size ≤ k) : Upd F w w2 :=
  h.trans' (G := fun k => row = some k) ⟨hg.os, hg.tape, hg.output, hg.size, fun k hk hne => hg.block k hk (fun e => hne e.symm)⟩ hr
theorem Upd.cells (h : Upd F w w1) : (∀ k o, k < w.heap.size → ¬ F k → w1.cell? ⟨k, o, none⟩ = w.cell? ⟨k, o, none⟩) ∧ (∀ k o, k < w.heap.size → ¬ F k → w1.frozen? ⟨k, o, none⟩ = w.frozen? ⟨k, o, none⟩) :=
  ⟨fun k o hk hF => World.cell?_of_block (a := ⟨k, o, none⟩) (h.block k hk hF), fun k o hk hF => World.frozen?_of_block (a := ⟨k, o, none⟩) (h.block k hk hF)⟩
theorem Upd.toBelow {B : Nat} (h : Upd F w w1) (hF : ∀ k, F k → B ≤ k) (hB : B ≤ w.heap.size) : Below B w w1 := h.below (fun k hk _ hf => by have := hF k hf; omega) hB
theorem Upd.block_eq (h : Upd F w w1) {b : Nat} {o : Obj} (hb : w.heap[b]? = some o) (hF : ¬ F b) : w1.heap[b]? = some o :=
  (h.block b (lt_of_block hb) hF).trans hb
theorem Upd.ownsRow (h : Upd F w w1) {base e size n : Nat} {v : Value} {xs : List Value} (ho : w.ownsRow base e size v n xs) (hF : ∀ g, v.ownBlock = some g → ¬ F g) : w1.ownsRow base e size v n xs := by
  refine ⟨ho.1, ?_⟩
  rcases ho.2 with hn | ⟨g, cap, cur, rfl, hb, hgg, rest⟩
  · exact .inl hn
  · exact .inr ⟨g, cap, cur, rfl, hb, h.block_eq hgg (hF g rfl), rest⟩
end

theorem below_ownsRow {B : Nat} {w w1 : World} (h : Below B w w1) {base e size n : Nat} {v : Value} {xs : List Value} (ho : w.ownsRow base e size v n xs) (hB : ∀ g, v.ownBlock = some g → g < B) : w1.ownsRow base e size v n xs := by
  refine ⟨ho.1, ?_⟩
  rcases ho.2 with hn | ⟨g, cap, cur, rfl, hb, hgg, rest⟩
  · exact .inl hn
  · exact .inr ⟨g, cap, cur, rfl, hb, (h.block g (hB g rfl)).trans hgg, rest⟩

theorem cell_of_blk {w : World} {b j : Nat} {cs : Array Value} {t : TypeId} (h : w.heap[b]? = some (.cells cs t (0, 0))) : w.cell? ⟨b, j, none⟩ = cs[j]? := cell_of_row w b j cs t (0, 0) h
theorem free_of_blk {w : World} {b j : Nat} {cs : Array Value} {t : TypeId} (h : w.heap[b]? = some (.cells cs t (0, 0))) : w.frozen? ⟨b, j, none⟩ = false := frozen_of_row w b j cs t h

/-- The facts on an element type that append asks. -/
structure ET (P : Program) (t e : TypeId) (size bytes : Nat) : Prop where
  und : P.underlying t = some (.slice e)
  inf : ∃ i z, P.info? e = some i ∧ i.zero = some z ∧ i.size = size ∧ i.bytes = bytes ∧ z.cells.size = size ∧ ∀ u ∈ z.cells.toList, u.oneCell' = true
  pos : 0 < size

theorem ET.of {P : Program} {t e : TypeId} {z : Value} {size bytes : Nat} (hu : P.underlying t = some (.slice e)) (h : (P.info? e).map (fun i => (i.zero, i.size, i.bytes)) = some (some z, size, bytes)) (hz : z.cells.size = size) (hp : 0 < size) (hone : ∀ u ∈ z.cells.toList, u.oneCell' = true) : ET P t e size bytes := by
  obtain ⟨i, h1, h2, h3, h4⟩ := info_parts h
  exact ⟨hu, ⟨i, z, h1, h2, h3, h4, hz, hone⟩, hp⟩

section
variable {P : Program} {t e : TypeId} {size bytes : Nat} {w : World} {o : Oper} {a : Act} {ops : Array Oper} {rest : List Oper} {Q : Exit → Act → World → Prop} {K : Act → World → Prop} {E : Prop}

/-- append of one element that was laid in a block of its own: at a plain region. -/
theorem ET.wpList1 (T : ET P t e size bytes) {v : Value} {n : Nat} {xs : List Value} (hown : w.ownsRow 0 e size v n xs) {B : Nat} {cs : Array Value} (hB : w.heap[B]? = some (.cells cs e (0, 0))) (hcs : cs.size = size) (h1 : ∀ u ∈ cs.toList, u.oneCell' = true) (hb : (n + 1) * bytes ≤ 140737488355328) (h63 : n + 1 ≤ maxLen)
    (hgd : o.guard = none) (s x : Operand) (ho : o.op = .call { callee := .builtin .append, args := #[s, x], argTypes := #[t, t] }) (hs : a.eval s = v) (hx : a.eval x = .slice (some ⟨B, 0, none⟩) 1 1)
    (h : ∀ g cap w', w'.ownsRow 0 e size (.slice (some ⟨g, 0, none⟩) (n + 1) cap) (n + 1) (xs ++ cs.toList) → w.grownBy w' v.ownBlock → (v.ownBlock = some g ∨ g = w.heap.size) → g < w'.heap.size → wpList P ops Q rest (a.put o.dst (.slice (some ⟨g, 0, none⟩) (n + 1) cap)) w') : wpList P ops Q (o :: rest) a w := by
  obtain ⟨i, z, hi, hz0, hz1, hz2, hz3, _⟩ := T.inf
  exact wpList_append_lies w hgd s x t ho 0 e i z size bytes T.und hi hz0 hz1 hz2 hz3 T.pos v n xs hs hown ⟨B, 0, none⟩ 1 1 cs.toList hx (by simpa using hcs) (World.news_of_block hB) h1 (by decide) h63 hb (Nat.zero_le _) _ rfl h

/-- .. at a step of a region that draws. -/
theorem ET.step1 (T : ET P t e size bytes) {v : Value} {n : Nat} {xs : List Value} (hown : w.ownsRow 0 e size v n xs) {B : Nat} {cs : Array Value} (hB : w.heap[B]? = some (.cells cs e (0, 0))) (hcs : cs.size = size) (h1 : ∀ u ∈ cs.toList, u.oneCell' = true) (hb : (n + 1) * bytes ≤ 140737488355328) (h63 : n + 1 ≤ maxLen)
    (hgd : o.guard = none) (s x : Operand) (ho : o.op = .call { callee := .builtin .append, args := #[s, x], argTypes := #[t, t] }) (hs : a.eval s = v) (hx : a.eval x = .slice (some ⟨B, 0, none⟩) 1 1)
    (h : ∀ g cap w', w'.ownsRow 0 e size (.slice (some ⟨g, 0, none⟩) (n + 1) cap) (n + 1) (xs ++ cs.toList) → w.grownBy w' v.ownBlock → (v.ownBlock = some g ∨ g = w.heap.size) → g < w'.heap.size → K (a.put o.dst (.slice (some ⟨g, 0, none⟩) (n + 1) cap)) w') :
    if Region.wanted o (yielded ops a.tmps) = true then Oper.wp P o a w K Q else E := by
  obtain ⟨i, z, hi, hz0, hz1, hz2, hz3, _⟩ := T.inf
  exact step_append_lies w hgd s x t ho 0 e i z size bytes T.und hi hz0 hz1 hz2 hz3 T.pos v n xs hs hown ⟨B, 0, none⟩ 1 1 cs.toList hx (by simpa using hcs) (World.news_of_block hB) h1 (by decide) h63 hb (Nat.zero_le _) _ rfl h
end

section
variable {P : Program} {t e : TypeId} {size bytes : Nat} {w : World} {o : Oper} {a : Act} {ops : Array Oper} {rest : List Oper} {Q : Exit → Act → World → Prop} {K : Act → World → Prop} {E : Prop}

theorem zeroCells_len (z : Array Value) (n : Nat) : (Builtin.zeroCells z n).size = n * z.size := by simp [Builtin.zeroCells]
theorem zeroCells_one {z : Array Value} (hz : ∀ u ∈ z.toList, u.oneCell' = true) (hp : 0 < z.size) (n : Nat) : ∀ u ∈ (Builtin.zeroCells z n).toList, u.oneCell' = true := by
  intro u hu
  simp only [Builtin.zeroCells, Array.toList_map, List.mem_map] at hu
  obtain ⟨i, _, rfl⟩ := hu
  have hlt : i % z.size < z.size := Nat.mod_lt _ hp
  rw [getElem!_pos z (i % z.size) hlt]
  exact hz _ (by simp)

/-- clear over a part of a row that is known whole: what lies ahead of it stays. -/
theorem ET.run_clear (T : ET P t e size bytes) {g off m c : Nat} {ao : Option Addr} {cur : Array Value} (hg : w.heap[g]? = some (.cells cur e (0, 0))) (hao : 0 < m → ao = some ⟨g, off, none⟩) (hfit : off + m * size ≤ cur.size) (ty : TypeId) :
    ∃ w', (Builtin.clear_ #[t] ty #[.slice ao m c]).run P w = .ok (.tuple #[]) w' ∧ (∃ cur', w'.heap[g]? = some (.cells cur' e (0, 0)) ∧ cur'.size = cur.size ∧ cur'.toList.take off = cur.toList.take off) ∧ w.grownBy w' (some g) := by
  obtain ⟨i, z, hi, hz0, hz1, hz2, hz3, hone⟩ := T.inf
  by_cases hm : m = 0
  · subst hm
    exact ⟨w, by cases ao <;> simp [Builtin.clear_, run_underlying T.und], ⟨cur, hg, rfl, rfl⟩, World.grownBy.refl w _⟩
  · rw [hao (by omega)]
    have hl : (Builtin.zeroCells z.cells m).toList.length = m * size := by rw [Array.length_toList, zeroCells_len, hz3]
    have hst := run_storeCells_at P g off e (Builtin.zeroCells z.cells m).toList 0 cur w hg (by omega) (zeroCells_one hone (by rw [hz3]; exact T.pos) m)
    obtain ⟨m', rfl⟩ : ∃ m', m = m' + 1 := ⟨m - 1, by omega⟩
    refine ⟨_, by simp [Builtin.clear_, run_underlying T.und, zeroValue, typeInfo, hi, hz0, hst]; rfl, ⟨_, setRow_heap w g cur _ e _ hg, ?_, ?_⟩, ⟨rfl, rfl, rfl, by simp, fun k _ hk => setRow_other w g k _ (fun e => hk (by simp [e]))⟩⟩
    · rw [Array.length_toList] at hl
      simp only [List.size_toArray, List.length_append, List.length_take, List.length_drop, Array.length_toList]; omega
    · rw [List.take_append_of_le_length (by simp; omega), List.take_take, Nat.min_self]

theorem ET.wpList_clear (T : ET P t e size bytes) {g off m c : Nat} {ao : Option Addr} {cur : Array Value} (hg : w.heap[g]? = some (.cells cur e (0, 0))) (hao : 0 < m → ao = some ⟨g, off, none⟩) (hfit : off + m * size ≤ cur.size)
    (hgd : o.guard = none) (x : Operand) (ho : o.op = .call { callee := .builtin .clear, args := #[x], argTypes := #[t] }) (hx : a.eval x = .slice ao m c)
    (h : ∀ w' cur', w'.heap[g]? = some (.cells cur' e (0, 0)) → cur'.size = cur.size → cur'.toList.take off = cur.toList.take off → w.grownBy w' (some g) → wpList P ops Q rest (a.put o.dst (.tuple #[])) w') : wpList P ops Q (o :: rest) a w := by
  refine wpList_plain hgd fun K hK => ?_
  obtain ⟨w', hrun, ⟨cur', h1, h2, h3⟩, h4⟩ := T.run_clear (c := c) hg hao hfit o.type
  unfold Oper.wp
  simp [execOp, ho, resolve, invoke, builtin, hx, hrun, Result.andThen]
  exact hK _ _ (h w' cur' h1 h2 h3 h4)
end

section
variable {P : Program} {t e : TypeId} {size bytes : Nat} {w : World} {o : Oper} {a : Act} {ops : Array Oper} {rest : List Oper} {Q : Exit → Act → World → Prop} {K : Act → World → Prop} {E : Prop}

/-- append of a row of cells, wherever they lie, within the capacity of a row of the call's own. -/
theorem ET.run_fits (T : ET P t e size bytes) {g k cap : Nat} {xs : List Value} (hown : w.ownsRow 0 e size (.slice (some ⟨g, 0, none⟩) k cap) k xs) {ao : Option Addr} {m c : Nat} {news : List Value} (hn : news.length = m * size)
    (hao : 0 < m → ∃ ad, ao = some ad ∧ ∀ j u, news[j]? = some u → w.cell? (ad.add j) = some u) (hone : ∀ u ∈ news, u.oneCell' = true) (hroom : k + m ≤ cap) (ty : TypeId) :
    ∃ w', (Builtin.append_ #[t, t] ty #[.slice (some ⟨g, 0, none⟩) k cap, .slice ao m c]).run P w = .ok (.slice (some ⟨g, 0, none⟩) (k + m) cap) w' ∧ w'.ownsRow 0 e size (.slice (some ⟨g, 0, none⟩) (k + m) cap) (k + m) (xs ++ news) ∧ w.grownBy w' (some g) := by
  obtain ⟨i, z, hi, hz0, hz1, hz2, hz3, _⟩ := T.inf
  by_cases hm : m = 0
  · subst hm
    obtain rfl : news = [] := List.eq_nil_of_length_eq_zero (by omega)
    cases ao with
    | none =>
      have hk : k ≤ cap := by omega
      exact ⟨w, by simp [Builtin.append_, run_underlying T.und, sizeOf, typeInfo, hi, Builtin.lenOf, Builtin.firstCells, hk, storeCells], by simpa using hown, World.grownBy.refl w _⟩
    | some ad => exact run_append_fits w 0 t ty e i size T.und hi hz1 g k cap xs hown ad 0 c [] (by simp) (by simp) (by simp) hroom
  · obtain ⟨ad, rfl, hc⟩ := hao (by omega)
    exact run_append_fits w 0 t ty e i size T.und hi hz1 g k cap xs hown ad m c news hn hc hone hroom

theorem ET.wp_fits (T : ET P t e size bytes) {g k cap : Nat} {xs : List Value} (hown : w.ownsRow 0 e size (.slice (some ⟨g, 0, none⟩) k cap) k xs) {ao : Option Addr} {m c : Nat} {news : List Value} (hn : news.length = m * size)
    (hao : 0 < m → ∃ ad, ao = some ad ∧ ∀ j u, news[j]? = some u → w.cell? (ad.add j) = some u) (hone : ∀ u ∈ news, u.oneCell' = true) (hroom : k + m ≤ cap)
    (s x : Operand) (ho : o.op = .call { callee := .builtin .append, args := #[s, x], argTypes := #[t, t] }) (hs : a.eval s = .slice (some ⟨g, 0, none⟩) k cap) (hx : a.eval x = .slice ao m c)
    (h : ∀ w', w'.ownsRow 0 e size (.slice (some ⟨g, 0, none⟩) (k + m) cap) (k + m) (xs ++ news) → w.grownBy w' (some g) → K (a.put o.dst (.slice (some ⟨g, 0, none⟩) (k + m) cap)) w') : o.wp P a w K Q := by
  obtain ⟨w', hrun, h1, h2⟩ := T.run_fits hown (c := c) hn hao hone hroom o.type
  unfold Oper.wp
  simp [execOp, ho, resolve, invoke, builtin, hs, hx, hrun, Result.andThen]
  exact h w' h1 h2

theorem ET.step_fits (T : ET P t e size bytes) {g k cap : Nat} {xs : List Value} (hown : w.ownsRow 0 e size (.slice (some ⟨g, 0, none⟩) k cap) k xs) {ao : Option Addr} {m c : Nat} {news : List Value} (hn : news.length = m * size)
    (hao : 0 < m → ∃ ad, ao = some ad ∧ ∀ j u, news[j]? = some u → w.cell? (ad.add j) = some u) (hone : ∀ u ∈ news, u.oneCell' = true) (hroom : k + m ≤ cap)
    (hgd : o.guard = none) (s x : Operand) (ho : o.op = .call { callee := .builtin .append, args := #[s, x], argTypes := #[t, t] }) (hs : a.eval s = .slice (some ⟨g, 0, none⟩) k cap) (hx : a.eval x = .slice ao m c)
    (h : ∀ w', w'.ownsRow 0 e size (.slice (some ⟨g, 0, none⟩) (k + m) cap) (k + m) (xs ++ news) → w.grownBy w' (some g) → K (a.put o.dst (.slice (some ⟨g, 0, none⟩) (k + m) cap)) w') :
    if Region.wanted o (yielded ops a.tmps) = true then Oper.wp P o a w K Q else E := by
  rw [if_pos (by simp [Region.wanted, hgd])]
  exact T.wp_fits hown hn hao hone hroom s x ho hs hx h

theorem ET.wpList_fits (T : ET P t e size bytes) {g k cap : Nat} {xs : List Value} (hown : w.ownsRow 0 e size (.slice (some ⟨g, 0, none⟩) k cap) k xs) {ao : Option Addr} {m c : Nat} {news : List Value} (hn : news.length = m * size)
    (hao : 0 < m → ∃ ad, ao = some ad ∧ ∀ j u, news[j]? = some u → w.cell? (ad.add j) = some u) (hone : ∀ u ∈ news, u.oneCell' = true) (hroom : k + m ≤ cap)
    (hgd : o.guard = none) (s x : Operand) (ho : o.op = .call { callee := .builtin .append, args := #[s, x], argTypes := #[t, t] }) (hs : a.eval s = .slice (some ⟨g, 0, none⟩) k cap) (hx : a.eval x = .slice ao m c)
    (h : ∀ w', w'.ownsRow 0 e size (.slice (some ⟨g, 0, none⟩) (k + m) cap) (k + m) (xs ++ news) → w.grownBy w' (some g) → wpList P ops Q rest (a.put o.dst (.slice (some ⟨g, 0, none⟩) (k + m) cap)) w') : wpList P ops Q (o :: rest) a w :=
  wpList_plain hgd fun _ hK => T.wp_fits hown hn hao hone hroom s x ho hs hx fun w' h1 h2 => hK _ _ (h w' h1 h2)

/-- append of a row of cells, wherever they lie, to a row of the call's own: it may grow. -/
theorem ET.wp_app (T : ET P t e size bytes) {v : Value} {n : Nat} {xs : List Value} (hown : w.ownsRow 0 e size v n xs) {ao : Option Addr} {m c : Nat} {news : List Value} (hn : news.length = m * size)
    (hnil : ao = none → m = 0 ∧ c = 0) (hao : ∀ ad, ao = some ad → ∀ j u, news[j]? = some u → w.cell? (ad.add j) = some u) (hone : ∀ u ∈ news, u.oneCell' = true) (hb : (n + m) * bytes ≤ 140737488355328) (h63 : n + m ≤ maxLen)
    (s x : Operand) (ho : o.op = .call { callee := .builtin .append, args := #[s, x], argTypes := #[t, t] }) (hs : a.eval s = v) (hx : a.eval x = .slice ao m c)
    (h : ∀ v' w', w'.ownsRow 0 e size v' (n + m) (xs ++ news) → w.grownBy w' v.ownBlock → (v'.ownBlock = v.ownBlock ∨ v'.ownBlock = some w.heap.size) → (v' = .slice none 0 0 ↔ v = .slice none 0 0 ∧ m = 0) → K (a.put o.dst v') w') : o.wp P a w K Q := by
  obtain ⟨i, z, hi, hz0, hz1, hz2, hz3, _⟩ := T.inf
  cases ao with
  | none =>
    obtain ⟨rfl, rfl⟩ := hnil rfl
    obtain rfl : news = [] := List.eq_nil_of_length_eq_zero (by omega)
    have hrun := run_append_owned_none (P := P) w 0 t o.type e i size T.und hi v n xs hown
    unfold Oper.wp
    simp [execOp, ho, resolve, invoke, builtin, hs, hx, hrun, Result.andThen]
    exact h v w (by simpa using hown) (World.grownBy.refl w _) (.inl rfl) (by simp)
  | some ad =>
    obtain ⟨v', w', hrun, h2, h3, h4, h5⟩ := run_append_own_at (P := P) w 0 t o.type e i z size bytes T.und hi hz0 hz1 hz2 hz3 T.pos v n xs hown ad m c news hn (hao ad rfl) hone h63 hb (Nat.zero_le _)
    unfold Oper.wp
    simp [execOp, ho, resolve, invoke, builtin, hs, hx, hrun, Result.andThen]
    exact h v' w' h2 h3 h5 h4
theorem ET.wpList_app (T : ET P t e size bytes) {v : Value} {n : Nat} {xs : List Value} (hown : w.ownsRow 0 e size v n xs) {ao : Option Addr} {m c : Nat} {news : List Value} (hn : news.length = m * size)
    (hnil : ao = none → m = 0 ∧ c = 0) (hao : ∀ ad, ao = some ad → ∀ j u, news[j]? = some u → w.cell? (ad.add j) = some u) (hone : ∀ u ∈ news, u.oneCell' = true) (hb : (n + m) * bytes ≤ 140737488355328) (h63 : n + m ≤ maxLen)
    (hgd : o.guard = none) (s x : Operand) (ho : o.op = .call { callee := .builtin .append, args := #[s, x], argTypes := #[t, t] }) (hs : a.eval s = v) (hx : a.eval x = .slice ao m c)
    (h : ∀ v' w', w'.ownsRow 0 e size v' (n + m) (xs ++ news) → w.grownBy w' v.ownBlock → (v'.ownBlock = v.ownBlock ∨ v'.ownBlock = some w.heap.size) → (v' = .slice none 0 0 ↔ v = .slice none 0 0 ∧ m = 0) → wpList P ops Q rest (a.put o.dst v') w') : wpList P ops Q (o :: rest) a w :=
  wpList_plain hgd fun _ hK => T.wp_app hown hn hnil hao hone hb h63 s x ho hs hx fun v' w' h1 h2 h3 h4 => hK _ _ (h v' w' h1 h2 h3 h4)
theorem ET.step_app (T : ET P t e size bytes) {v : Value} {n : Nat} {xs : List Value} (hown : w.ownsRow 0 e size v n xs) {ao : Option Addr} {m c : Nat} {news : List Value} (hn : news.length = m * size)
    (hnil : ao = none → m = 0 ∧ c = 0) (hao : ∀ ad, ao = some ad → ∀ j u, news[j]? = some u → w.cell? (ad.add j) = some u) (hone : ∀ u ∈ news, u.oneCell' = true) (hb : (n + m) * bytes ≤ 140737488355328) (h63 : n + m ≤ maxLen)
    (hgd : o.guard = none) (s x : Operand) (ho : o.op = .call { callee := .builtin .append, args := #[s, x], argTypes := #[t, t] }) (hs : a.eval s = v) (hx : a.eval x = .slice ao m c)
    (h : ∀ v' w', w'.ownsRow 0 e size v' (n + m) (xs ++ news) → w.grownBy w' v.ownBlock → (v'.ownBlock = v.ownBlock ∨ v'.ownBlock = some w.heap.size) → (v' = .slice none 0 0 ↔ v = .slice none 0 0 ∧ m = 0) → K (a.put o.dst v') w') :
    if Region.wanted o (yielded ops a.tmps) = true then Oper.wp P o a w K Q else E := by
  rw [if_pos (by simp [Region.wanted, hgd])]
  exact T.wp_app hown hn hnil hao hone hb h63 s x ho hs hx h
end

theorem madeCells_one (z : Value) (n : Nat) : madeCells #[z] n = Array.replicate n z := by
  apply Array.ext'
  rw [toList_madeCells_one, Array.toList_replicate]
/-- make([]T, n), an element one cell. -/
theorem wpList_make1 {P : Program} {t e : TypeId} {z : Value} {bytes : Nat} {w : World} {o : Oper} {a : Act} {ops : Array Oper} {rest : List Oper} {Q : Exit → Act → World → Prop}
    (hu : P.underlying t = some (.slice e)) (hi : (P.info? e).map (fun i => (i.zero, i.size, i.bytes)) = some (some z, 1, bytes)) (hz : z.cells = #[z])
    (hgd : o.guard = none) (l c : Operand) (ho : o.op = Op.makeSlice t l c) (n : Nat) (kl kc : IntKind) (hl : a.eval l = .int kl (n : Int)) (hc : a.eval c = .int kc (n : Int)) (b2 : bytes * n ≤ 281474976710656) (b3 : n ≤ maxLen)
    (h : wpList P ops Q rest (a.put o.dst (.slice (some ⟨w.heap.size, 0, none⟩) n n)) (w.alloc (.cells (Array.replicate n z) e))) : wpList P ops Q (o :: rest) a w := by
  refine wpList_plain hgd fun K hK => ?_
  obtain ⟨i, hi1, hi2, hi3, hi4⟩ := info_parts hi
  have hb2 : (bytes : Int) * (n : Int) ≤ 281474976710656 := by
    have h : ((bytes * n : Nat) : Int) ≤ 281474976710656 := by omega
    rwa [Int.natCast_mul] at h
  have hrun := run_make (P := P) w t e i z hu hi1 hi2 kl kc (n : Int) (n : Int) (by omega) (Int.le_refl _) (by rw [hi4]; exact hb2) (by simp [maxLen] at b3; omega)
  rw [hi3, hz, Nat.mul_one, Int.toNat_natCast, madeCells_one] at hrun
  unfold Oper.wp
  simp [execOp, ho, hl, hc, hrun, Result.andThen]
  exact hK _ _ h

/-- The first k elements of an owned row are owned by the slice cut to them. -/
theorem own_take {w : World} {base e size g n cap k : Nat} {xs : List Value} (h : w.ownsRow base e size (.slice (some ⟨g, 0, none⟩) n cap) n xs) (hk : k ≤ n) : w.ownsRow base e size (.slice (some ⟨g, 0, none⟩) k cap) k (xs.take (k * size)) := by
  have hle : k * size ≤ n * size := Nat.mul_le_mul_right _ hk
  refine ⟨by rw [List.length_take, h.1]; omega, ?_⟩
  rcases h.2 with ⟨h', _⟩ | ⟨g', cap', cur, h', hb, hg, hnc, hcm, hcs, htake⟩
  · simp at h'
  · simp only [Value.slice.injEq, Option.some.injEq, Addr.mk.injEq, and_true, true_and] at h'
    obtain ⟨rfl, rfl⟩ := h'
    exact .inr ⟨g, cap, cur, rfl, hb, hg, by omega, hcm, hcs, by rw [← htake, List.take_take]; congr 1; omega⟩

theorem own_slice {w : World} {base e size n : Nat} {v : Value} {xs : List Value} (h : w.ownsRow base e size v n xs) : ∃ ao cap, v = .slice ao n cap ∧ n ≤ cap := by
  rcases h.2 with ⟨rfl, rfl⟩ | ⟨g, cap, cur, rfl, _, _, h2, _⟩
  · exact ⟨none, 0, rfl, Nat.le_refl _⟩
  · exact ⟨_, cap, rfl, h2⟩

/-- What is owned stays owned. -/
theorem own_alloc {w : World} {base e size n : Nat} {v : Value} {xs : List Value} (h : w.ownsRow base e size v n xs) (o : Obj) : (w.alloc o).ownsRow base e size v n xs := h.alloc o
theorem own_drew {w : World} {base e size n : Nat} {v : Value} {xs : List Value} (h : w.ownsRow base e size v n xs) : w.drew.ownsRow base e size v n xs := h

/-- An element of a row whose elements are made by 'enc', cell by cell. -/
theorem flat_get {α : Type} (enc : α → List Value) (k : Nat) (hk : ∀ x, (enc x).length = k) : ∀ (l : List α) (i j : Nat) (x : α), l[i]? = some x → j < k → (l.flatMap enc)[i * k + j]? = (enc x)[j]?
  | [], i, j, x, h, _ => by simp at h
  | y :: l, 0, j, x, h, hj => by
    simp at h; subst h
    simp only [List.flatMap_cons, Nat.zero_mul, Nat.zero_add]
    rw [List.getElem?_append_left (by rw [hk]; exact hj)]
  | y :: l, i + 1, j, x, h, hj => by
    simp only [List.flatMap_cons]
    rw [List.getElem?_append_right (by rw [hk, Nat.add_mul]; omega), hk]
    have e : (i + 1) * k + j - k = i * k + j := by rw [Nat.add_mul]; omega
    rw [e]
    exact flat_get enc k hk l i j x (by simpa using h) hj

theorem flat_length {α : Type} (enc : α → List Value) (k : Nat) (hk : ∀ x, (enc x).length = k) (l : List α) : (l.flatMap enc).length = l.length * k := by
  induction l with
  | nil => simp
  | cons y l ih => simp [List.flatMap_cons, ih, hk, Nat.add_mul]; omega

/-- A list of cells is a row of elements, if cell by cell it reads so. -/
theorem flat_ext {α : Type} (enc : α → List Value) (k : Nat) (hk : ∀ x, (enc x).length = k) (hp : 0 < k) (l : List α) (xs : List Value) (hl : xs.length = l.length * k)
    (h : ∀ i j x, l[i]? = some x → j < k → xs[i * k + j]? = (enc x)[j]?) : xs = l.flatMap enc := by
  apply List.ext_getElem?
  intro q
  by_cases hq : q < l.length * k
  · have hi : q / k < l.length := Nat.div_lt_of_lt_mul (by rw [Nat.mul_comm]; exact hq)
    have hj : q % k < k := Nat.mod_lt _ hp
    have e : q = q / k * k + q % k := by have := Nat.div_add_mod q k; rw [Nat.mul_comm] at this; exact this.symm
    have hx : l[q / k]? = some l[q / k] := by simp [hi]
    rw [e, h _ _ _ hx hj, flat_get enc k hk l _ _ _ hx hj]
  · rw [List.getElem?_eq_none (by omega), List.getElem?_eq_none (by rw [flat_length enc k hk]; omega)]

/-- A slice value that can be read as a row of cells: 'n' elements of 'size' cells. -/
def RowAt (w : World) (size : Nat) (v : Value) (n : Nat) (xs : List Value) : Prop :=
  xs.length = n * size ∧ ∃ ao cap, v = .slice ao n cap ∧ n ≤ cap ∧ (0 < n → ∃ b off, ao = some ⟨b, off, none⟩ ∧ b < w.heap.size ∧ ∀ j, j < n * size → w.cell? ⟨b, off + j, none⟩ = xs[j]?)

/-- A slice value that reads as a list. -/
def Rd {α : Type} (w : World) (size : Nat) (encE : α → List Value) (v : Value) (l : List α) : Prop :=
  ∃ ao cap, v = .slice ao l.length cap ∧ l.length ≤ cap ∧ cap ≤ maxLen ∧ ∀ i x, l[i]? = some x → ∃ b off, ao = some ⟨b, off, none⟩ ∧ b < w.heap.size ∧ ∀ j u, (encE x)[j]? = some u → w.cell? ⟨b, off + i * size + j, none⟩ = some u
theorem Rd.below {α : Type} {B : Nat} {w w1 : World} {size : Nat} {encE : α → List Value} {v : Value} {l : List α} (h : Rd w size encE v l) (hb : Below B w w1) (hB : w.heap.size ≤ B) : Rd w1 size encE v l := by
  obtain ⟨ao, cap, h1, h2, h2', h3⟩ := h
  refine ⟨ao, cap, h1, h2, h2', fun i x hx => ?_⟩
  obtain ⟨b, off, e, hlt, hc⟩ := h3 i x hx
  exact ⟨b, off, e, Nat.lt_of_lt_of_le hlt hb.size, fun j u hu => (hb.cell (p := ⟨b, off + i * size + j, none⟩) (show b < B by omega)).trans (hc j u hu)⟩
theorem Rd.of_own {α : Type} {w : World} {base e size : Nat} {encE : α → List Value} (hk : ∀ x, (encE x).length = size) {v : Value} {l : List α} (h : w.ownsRow base e size v l.length (l.flatMap encE)) : Rd w size encE v l := by
  have h' := h
  rcases h.2 with ⟨rfl, h0⟩ | ⟨g, cap, cur, rfl, _, hg, hc, hcm, _⟩
  · refine ⟨none, 0, by rw [h0], by omega, by decide, fun i x hx => ?_⟩
    have := (List.getElem?_eq_some_iff.1 hx).1
    omega
  · refine ⟨_, cap, rfl, hc, hcm, fun i x hx => ⟨g, 0, rfl, lt_of_block hg, fun j u hu => ?_⟩⟩
    have hi := (List.getElem?_eq_some_iff.1 hx).1
    have hj := (List.getElem?_eq_some_iff.1 hu).1
    rw [hk] at hj
    have hlt : i * size + j < l.length * size := by
      have : (i + 1) * size ≤ l.length * size := Nat.mul_le_mul_right _ hi
      rw [Nat.add_mul] at this; omega
    rw [Nat.zero_add, h'.cellAt _ hlt, flat_get encE size hk l i j x hx hj]
    exact hu
theorem RowAt.of_own {w : World} {base e size n : Nat} {v : Value} {xs : List Value} (h : w.ownsRow base e size v n xs) : RowAt w size v n xs := by
  refine ⟨h.1, ?_⟩
  have h' := h
  rcases h.2 with ⟨rfl, rfl⟩ | ⟨g, cap, cur, rfl, _, hg, hc, _⟩
  · exact ⟨none, 0, rfl, Nat.le_refl _, fun h => by omega⟩
  · exact ⟨_, cap, rfl, hc, fun _ => ⟨g, 0, rfl, lt_of_block hg, fun j hj => by rw [Nat.zero_add]; exact h'.cellAt j hj⟩⟩

theorem RowAt.below {B : Nat} {w w1 : World} {size n : Nat} {v : Value} {xs : List Value} (h : RowAt w size v n xs) (hb : Below B w w1) (hB : w.heap.size ≤ B) : RowAt w1 size v n xs := by
  obtain ⟨h1, ao, cap, h2, h3, h4⟩ := h
  refine ⟨h1, ao, cap, h2, h3, fun hn => ?_⟩
  obtain ⟨b, off, e, hlt, hc⟩ := h4 hn
  exact ⟨b, off, e, Nat.lt_of_lt_of_le hlt hb.size, fun j hj => (hb.cell (p := ⟨b, off + j, none⟩) (show b < B by omega)).trans (hc j hj)⟩

/-- Two results, the first of them a struct that lies in a block known whole. -/
theorem results_cell_tmp {P : Program} {fn : Func} {p q : Tmp} {ty : TypeId} (h : fn.results = #[.cell p ty, .tmp q]) (tmps : Array Value) (w : World) (g : Nat) (t : TypeId) (cs : Array Value) (d : TypeDesc)
    (hp : tmps.getD p undef = .pointer (some ⟨g, 0, none⟩)) (hg : w.heap[g]? = some (.cells cs t (0, 0)))
    (hu : P.underlying ty = some d) (hd : (match d with | .struct _ | .array _ _ => true | _ => false) = true) (hi : (P.info? ty).map (·.size) = some cs.size) :
    (results fn tmps).run P w = .ok (.tuple #[.agg cs, tmps.getD q undef]) w := by
  have hp' : tmps[p]?.getD undef = .pointer (some ⟨g, 0, none⟩) := by simpa using hp
  simp [results, h, hp', asAddr, run_loadVar_row w g t ty cs (0, 0) d hg hu hd hi]
/-- What a slot holds, in a frame that is written out: 'evT rfl'. -/
theorem evT {l : List Value} {ds : List Deferred} {k : Nat} {v : Value} (h : l[k]? = some v) : (Act.mk l.toArray ds).eval (.tmp k) = v := by
  simp [Act.eval, h]
theorem bcell {W w1 : World} (hb : Below W.heap.size W w1) : (∀ b o, b < W.heap.size → w1.cell? ⟨b, o, none⟩ = W.cell? ⟨b, o, none⟩) ∧ (∀ b o, b < W.heap.size → w1.frozen? ⟨b, o, none⟩ = W.frozen? ⟨b, o, none⟩) :=
  ⟨fun b o h => hb.cell (p := ⟨b, o, none⟩) h, fun b o h => hb.frozen (p := ⟨b, o, none⟩) h⟩
theorem ret_int {k : IntKind} {a b : Int} (h : a = b) : Ending.returned (.int k a) = .returned (.int k b) := by rw [h]
theorem ret_bool {a b : Bool} (h : a = b) : Ending.returned (.bool a) = .returned (.bool b) := by rw [h]
theorem ret_string {a b : ByteArray} (h : a = b) : Ending.returned (.string a) = .returned (.string b) := by rw [h]

end Go.Proofs.YtdfckkadmgmcaaaGreatDoor

/- copy and append(s[:i], make(..)...) at rows of elements of any size. -/
namespace Go.Proofs.YtdfckkadmgmcaaaGreatDoor
open Go.RowKit

section
variable {P : Program} {t e : TypeId} {size bytes : Nat} {w : World} {o : Oper} {a : Act} {ops : Array Oper} {rest : List Oper} {Q : Exit → Act → World → Prop} {K : Act → World → Prop} {E : Prop}

theorem ET.run_copy (T : ET P t e size bytes) {g off : Nat} {cur : Array Value} (hg : w.heap[g]? = some (.cells cur e (0, 0))) {dp sp : Option Addr} {dLen dCap sLen sCap m : Nat} (hm : m = Nat.min sLen dLen) {cs : List Value} (hl : cs.length = m * size)
    (hpos : 0 < m → dp = some ⟨g, off, none⟩ ∧ ∃ ad, sp = some ad ∧ ∀ j v, cs[j]? = some v → w.cell? (ad.add j) = some v) (hfit : off + cs.length ≤ cur.size) (h1 : ∀ v ∈ cs, v.oneCell' = true) (ty : TypeId) :
    ∃ w', (Builtin.copy_ #[t, t] ty #[.slice dp dLen dCap, .slice sp sLen sCap]).run P w = .ok (goInt m) w' ∧ w'.heap[g]? = some (.cells (splice cur.toList off cs).toArray e (0, 0)) ∧ w.grownBy w' (some g) := by
  obtain ⟨i, z, hi, hz0, hz1, hz2, hz3, hone⟩ := T.inf
  by_cases h0 : m = 0
  · subst h0
    obtain rfl : cs = [] := List.eq_nil_of_length_eq_zero (by omega)
    refine ⟨w, ?_, by simpa [splice] using hg, World.grownBy.refl w _⟩
    cases dp <;> cases sp <;> simp [Builtin.copy_, run_underlying T.und, sizeOf, typeInfo, hi, Builtin.lenOf, Builtin.firstCells, ← hm, storeCells, loadCells, loadCellsFrom]
  · obtain ⟨rfl, ad, rfl, hsrc⟩ := hpos (by omega)
    have hst := run_storeCells_at P g off e cs 0 cur w hg (by omega) h1
    have hld := run_firstCells_some (P := P) (w := w) size m ad sLen sCap cs hl hsrc
    refine ⟨w.setRow g (cur.toList.take (off + 0) ++ cs ++ cur.toList.drop (off + 0 + cs.length)).toArray, ?_, ?_, ⟨rfl, rfl, rfl, by simp, fun k _ hk => setRow_other w g k _ (fun e => hk (by simp [e]))⟩⟩
    · simp only [Builtin.copy_, Builtin.lenOf]
      simp [run_underlying T.und, sizeOf, typeInfo, hi, hz1, ← hm]
      rw [hld]
      simp [hst]
    · rw [setRow_heap w g cur _ e _ hg]
      simp [splice]

theorem ET.wp_copy (T : ET P t e size bytes) {g off : Nat} {cur : Array Value} (hg : w.heap[g]? = some (.cells cur e (0, 0))) {dp sp : Option Addr} {dLen dCap sLen sCap m : Nat} (hm : m = Nat.min sLen dLen) {cs : List Value} (hl : cs.length = m * size)
    (hpos : 0 < m → dp = some ⟨g, off, none⟩ ∧ ∃ ad, sp = some ad ∧ ∀ j v, cs[j]? = some v → w.cell? (ad.add j) = some v) (hfit : off + cs.length ≤ cur.size) (h1 : ∀ v ∈ cs, v.oneCell' = true)
    (d s : Operand) (ho : o.op = .call { callee := .builtin .copy, args := #[d, s], argTypes := #[t, t] }) (hd : a.eval d = .slice dp dLen dCap) (hs : a.eval s = .slice sp sLen sCap)
    (h : ∀ w', Hid (w'.heap[g]? = some (.cells (splice cur.toList off cs).toArray e (0, 0))) → w.grownBy w' (some g) → K (a.put o.dst (goInt m)) w') : o.wp P a w K Q := by
  obtain ⟨w', hrun, h2, h3⟩ := T.run_copy hg (dCap := dCap) (sCap := sCap) hm hl hpos hfit h1 o.type
  unfold Oper.wp
  simp [execOp, ho, resolve, invoke, builtin, hd, hs, hrun, Result.andThen]
  exact h w' (Lib.hid h2) h3
theorem ET.wpList_copy (T : ET P t e size bytes) {g off : Nat} {cur : Array Value} (hg : w.heap[g]? = some (.cells cur e (0, 0))) {dp sp : Option Addr} {dLen dCap sLen sCap m : Nat} (hm : m = Nat.min sLen dLen) {cs : List Value} (hl : cs.length = m * size)
    (hpos : 0 < m → dp = some ⟨g, off, none⟩ ∧ ∃ ad, sp = some ad ∧ ∀ j v, cs[j]? = some v → w.cell? (ad.add j) = some v) (hfit : off + cs.length ≤ cur.size) (h1 : ∀ v ∈ cs, v.oneCell' = true)
    (hgd : o.guard = none) (d s : Operand) (ho : o.op = .call { callee := .builtin .copy, args := #[d, s], argTypes := #[t, t] }) (hd : a.eval d = .slice dp dLen dCap) (hs : a.eval s = .slice sp sLen sCap)
    (h : ∀ w', Hid (w'.heap[g]? = some (.cells (splice cur.toList off cs).toArray e (0, 0))) → w.grownBy w' (some g) → wpList P ops Q rest (a.put o.dst (goInt m)) w') : wpList P ops Q (o :: rest) a w :=
  wpList_plain hgd fun _ hK => T.wp_copy hg hm hl hpos hfit h1 d s ho hd hs fun w' h1 h2 => hK _ _ (h w' h1 h2)
theorem ET.step_copy (T : ET P t e size bytes) {g off : Nat} {cur : Array Value} (hg : w.heap[g]? = some (.cells cur e (0, 0))) {dp sp : Option Addr} {dLen dCap sLen sCap m : Nat} (hm : m = Nat.min sLen dLen) {cs : List Value} (hl : cs.length = m * size)
    (hpos : 0 < m → dp = some ⟨g, off, none⟩ ∧ ∃ ad, sp = some ad ∧ ∀ j v, cs[j]? = some v → w.cell? (ad.add j) = some v) (hfit : off + cs.length ≤ cur.size) (h1 : ∀ v ∈ cs, v.oneCell' = true)
    (hgd : o.guard = none) (d s : Operand) (ho : o.op = .call { callee := .builtin .copy, args := #[d, s], argTypes := #[t, t] }) (hd : a.eval d = .slice dp dLen dCap) (hs : a.eval s = .slice sp sLen sCap)
    (h : ∀ w', Hid (w'.heap[g]? = some (.cells (splice cur.toList off cs).toArray e (0, 0))) → w.grownBy w' (some g) → K (a.put o.dst (goInt m)) w') :
    if Region.wanted o (yielded ops a.tmps) = true then Oper.wp P o a w K Q else E := by
  rw [if_pos (by simp [Region.wanted, hgd])]
  exact T.wp_copy hg hm hl hpos hfit h1 d s ho hd hs h
/-- append(s[:i], make([]T, k)...), where there is no room for k more: a new row; what lay ahead of i lies in it. -/
theorem ET.run_zeros (T : ET P t e size bytes) {tn : TypeId} (htn : P.underlying tn = some (.int .i64)) {g n cap : Nat} {xs : List Value} (hown : w.ownsRow 0 e size (.slice (some ⟨g, 0, none⟩) n cap) n xs) {i k : Nat} (hi : i ≤ n) (hk : 0 < k) (hcap : cap < i + k)
    (hb : (i + k) * bytes ≤ 140737488355328) (h63 : i + k ≤ maxLen) (ty : TypeId) :
    ∃ w' cap' cur, (Builtin.append_ #[t, tn] ty #[.slice (some ⟨g, 0, none⟩) i cap, .int .i64 (k : Int)]).run P w = .ok (.slice (some ⟨w.heap.size, 0, none⟩) (i + k) cap') w' ∧
      w'.heap[w.heap.size]? = some (.cells cur e (0, 0)) ∧ cur.size = cap' * size ∧ i + k ≤ cap' ∧ cap' ≤ maxLen ∧ cur.toList.take (i * size) = xs.take (i * size) ∧ Below w.heap.size w w' ∧ w.heap.size < w'.heap.size := by
  obtain ⟨inf, z, hi0, hz0, hz1, hz2, hz3, hone⟩ := T.inf
  have hp := T.pos
  have ht := own_take hown hi
  have hle : (xs.take (i * size)).length = i * size := ht.1
  have hcells : ∀ j u, (xs.take (i * size))[j]? = some u → w.cell? ((⟨g, 0, none⟩ : Addr).add j) = some u := ht.cells (g := g) rfl
  have hfo := run_firstCells_some (P := P) (w := w.drew) size i ⟨g, 0, none⟩ i cap (xs.take (i * size)) hle hcells
  have hge := grownCap_ge w (i + k) cap e
  have hcm := grownCap_le_maxLen w (i + k) cap e h63
  have h63' := h63
  unfold maxLen at h63'
  have hw : IntKind.i64.wrap (k : Int) = k := by rw [IntKind.wrap_i64]; omega
  have hneg : ¬ ((k : Int) < 0) := by omega
  have hkb : k * bytes ≤ 140737488355328 := Nat.le_trans (Nat.mul_le_mul_right _ (by omega)) hb
  have h48i : ¬ (281474976710656 < (k : Int) * (bytes : Int)) := by rw [← Int.natCast_mul]; omega
  have hns : ¬ (k * size = 0) := Nat.mul_ne_zero (by omega) (by omega)
  have hroom : ¬ (i + k ≤ cap) := by omega
  have hmx : ¬ (9223372036854775807 < (i : Int) + (k : Int)) := by omega
  have h48 : ¬ (281474976710656 < Builtin.nextslicecap (i + k) cap * bytes) := by
    have := growslice_fits (need := i + k) (old := cap) (by omega) hb
    omega
  refine ⟨w.drew.alloc (.cells ((xs.take (i * size)).toArray ++ Builtin.zeroCells z.cells k ++ Builtin.zeroCells z.cells (grownCap w (i + k) cap e - (i + k))) e), grownCap w (i + k) cap e, _, ?_, heap_alloc_new w.drew _, ?_, hge, hcm, ?_, (Below.refl _ w).drew.alloc (Nat.le_refl _) _, by simp⟩
  · subst hz2
    simp [Builtin.append_, run_underlying T.und, run_underlying htn, sizeOf, typeInfo, zeroValue, hi0, hz0, hz1, asInt, asIntOf, hw, hneg, hns, hmx, h48, h48i, hroom, Question.forced, hfo, newRow, grownCap]
  · simp only [Array.size_append, List.size_toArray, size_zeroCells, hz3, hle, ← Nat.add_mul]
    congr 1; omega
  · simp only [Array.toList_append, List.append_assoc]
    rw [List.take_left' hle]

theorem ET.wpList_zeros (T : ET P t e size bytes) {tn : TypeId} (htn : P.underlying tn = some (.int .i64)) {g n cap : Nat} {xs : List Value} (hown : w.ownsRow 0 e size (.slice (some ⟨g, 0, none⟩) n cap) n xs) {i k N : Nat} (hN : N = i + k) (hi : i ≤ n) (hk : 0 < k) (hcap : cap < i + k)
    (hb : (i + k) * bytes ≤ 140737488355328) (h63 : i + k ≤ maxLen)
    (hgd : o.guard = none) (s x : Operand) (ho : o.op = .call { callee := .builtin .append, args := #[s, x], argTypes := #[t, tn] }) (hs : a.eval s = .slice (some ⟨g, 0, none⟩) i cap) {kI : Int} (hx : a.eval x = .int .i64 kI) (hkI : kI = (k : Int))
    (h : ∀ w' cap' cur, w'.heap[w.heap.size]? = some (.cells cur e (0, 0)) → cur.size = cap' * size → N ≤ cap' → cap' ≤ maxLen → cur.toList.take (i * size) = xs.take (i * size) → Below w.heap.size w w' → w.heap.size < w'.heap.size → wpList P ops Q rest (a.put o.dst (.slice (some ⟨w.heap.size, 0, none⟩) N cap')) w') : wpList P ops Q (o :: rest) a w := by
  subst hkI
  subst hN
  refine wpList_plain hgd fun K hK => ?_
  obtain ⟨w', cap', cur, hrun, h1, h2, h3, h4, h5, h6, h7⟩ := T.run_zeros htn hown hi hk hcap hb h63 o.type
  unfold Oper.wp execOp
  simp only [ho, resolve, invoke, builtin, Sem.run_bind, Sem.run_pure, Result.andThen_ok, List.map_toArray, List.map_cons, List.map_nil, hs, hx, hrun]
  exact hK _ _ (h w' cap' cur h1 h2 h3 h4 h5 h6 h7)
end
/-- The cells of a part of an owned row. -/
theorem own_part {w : World} {base e size n g cap k c : Nat} {xs ys : List Value} (h : w.ownsRow base e size (.slice (some ⟨g, 0, none⟩) n cap) n xs) (hy : ys = (xs.drop (k * size)).take c) {B : Nat} (hB : g < B) {W : World} (hW : Below B w W) :
    ∀ j z, ys[j]? = some z → W.cell? ⟨g, k * size + j, none⟩ = some z := fun j z hz => by
  subst hy
  have h1 : j < c ∧ xs[k * size + j]? = some z := by
    rw [List.getElem?_take] at hz
    split at hz
    · rename_i hj; rw [List.getElem?_drop] at hz; exact ⟨hj, hz⟩
    · simp at hz
  have h2 := (List.getElem?_eq_some_iff.1 h1.2).1
  rw [hW.cell (p := ⟨g, k * size + j, none⟩) hB, h.cellAt _ (by rw [← h.1]; exact h2)]
  exact h1.2

theorem insertIdx_parts {α : Type} (x : α) : ∀ (l : List α) (i : Nat), i ≤ l.length → l.insertIdx i x = l.take i ++ x :: l.drop i
  | l, 0, _ => by simp
  | [], i + 1, h => by simp at h
  | a :: l, i + 1, h => by simp [List.insertIdx_succ_cons, insertIdx_parts x l i (by simpa using h)]
end Go.Proofs.YtdfckkadmgmcaaaGreatDoor

/- How the slices among a statement's arguments are opened. -/
namespace Go.Proofs.YtdfckkadmgmcaaaGreatDoor
open Go.RowKit Go.ChangeShapes Go.WideShapes Go.ChangeAt

/-- A slice that came in, its elements of whatever kind: it reads as a list. -/
theorem open_rows {α H : Type} {enc : TypeId × Value → H} {P : Program} {W : World} {t e : TypeId} (size bytes : Nat) (encE : α → List Value) (ok : α → Prop) (ht : P.underlying t = some (.slice e)) (hc : P.cellsOf e = size) (hp : 0 < size) (hby : P.bytesOf e = bytes)
    (hel : ∀ n cs x, cs.length = size → DataW.trod enc P W 0 (fun _ => true) true n e cs = some x → ∃ a, cs = encE a ∧ ok a)
    {v : Value} {d : DataW H} {p : List MemPlace} (hv : ∃ a l c, v = .slice a l c) (h : DataW.Trod enc P W 0 (fun _ => true) true t v d p)
    (hsz : ∀ el sp, d = .slice el sp → (el.length + sp.length) * P.bytesOf e ≤ reachBytes) :
    ∃ l : List α, Rd W size encE v l ∧ (∀ a ∈ l, ok a) ∧ l.length * bytes ≤ 140737488351232 := by
  obtain ⟨a0, len0, cap0, rfl⟩ := hv
  obtain ⟨fuel, hf⟩ := h
  simp only [Value.cells] at hf
  rcases Deep.open_slice ht hf with ⟨hcs, _⟩ | ⟨a, len, cap, m, n, D, Pl, hcs, _, hl, hm, hmm, hx, hall⟩
  · simp at hcs
    obtain ⟨rfl, rfl, rfl⟩ := hcs
    exact ⟨[], ⟨none, 0, rfl, Nat.le_refl _, by decide, fun i x hx => (by simp at hx)⟩, fun a ha => (by cases ha), by simp⟩
  · simp at hcs
    obtain ⟨rfl, rfl, rfl⟩ := hcs
    simp only [if_true] at hmm
    subst hmm
    rw [hc] at hall
    have hall' : ∀ i, i < len0 → ∃ z : α, W.cells? 0 (a.add (i * size)) size = some (encE z) ∧ ok z := fun i hi => by
      obtain ⟨cs', h1, h2⟩ := hall i (by omega)
      obtain ⟨_, hlen, _⟩ := World.cells?_some h1
      obtain ⟨z, rfl, hz⟩ := hel _ _ _ hlen h2
      exact ⟨z, h1, hz⟩
    classical
    refine ⟨(List.range len0).pmap (fun i hi => Classical.choose (hall' i hi)) (fun i hi => List.mem_range.1 hi), ⟨some a, m, by simp, by simpa using hl, hm, fun i x hx' => ?_⟩, fun z hz => ?_, ?_⟩
    · have hi : i < len0 := by have := (List.getElem?_eq_some_iff.1 hx').1; simpa using this
      rw [List.getElem?_pmap] at hx'
      simp only [List.getElem?_range hi, Option.pmap_some, Option.some.injEq] at hx'
      have hs := Classical.choose_spec (hall' i hi)
      rw [hx'] at hs
      obtain ⟨hcs, hok⟩ := hs
      obtain ⟨hb, hlen, hcell⟩ := World.cells?_some hcs
      have hspot : a = ⟨a.block, a.off, none⟩ := by
        obtain ⟨z0, hz0, _⟩ := hall' 0 (by omega)
        rw [Nat.zero_mul, show a.add 0 = a from rfl] at hz0
        obtain ⟨_, hl0, hc0⟩ := World.cells?_some hz0
        have h00 := hc0 0 hp
        rw [List.getElem?_eq_getElem (by omega)] at h00
        rw [show a.add 0 = a from rfl] at h00
        cases a with
        | mk b o s =>
          cases s with
          | none => rfl
          | some s => simp [World.cell?] at h00; split at h00 <;> simp at h00
      refine ⟨a.block, a.off, by rw [← hspot], ?_, fun j u hu => ?_⟩
      · have h00 := hcell 0 hp
        rw [List.getElem?_eq_getElem (by omega)] at h00
        have := World.block_lt_of_cell? W _ h00
        rw [hspot] at this
        simpa [Addr.add_lit] using this
      · have := (hcell j (by have := (List.getElem?_eq_some_iff.1 hu).1; omega)).trans hu
        rw [hspot] at this
        simpa [Addr.add_lit] using this
    · obtain ⟨i, hi, rfl⟩ := List.mem_pmap.1 hz
      exact (Classical.choose_spec (hall' i (List.mem_range.1 hi))).2
    · have := hsz _ _ (congrArg Prod.fst hx)
      rw [hby] at this
      simp only [List.length_map, List.length_range, reachBytes] at this
      simp only [List.length_pmap, List.length_range]
      exact Nat.le_trans (Nat.mul_le_mul_right _ (by omega)) this

theorem sized_any {H : Type} {P : Program} {ts : List TypeId} {ds : List (DataW H)} (h : (DataW.weightsEach P ts ds).all (· ≤ reachBytes) = true) {j : Nat} {t : TypeId} {d : DataW H} (ht : ts[j]? = some t) (hd : ds[j]? = some d) :
    ∀ e, P.underlying t = some (.slice e) → ∀ el sp, d = .slice el sp → (el.length + sp.length) * P.bytesOf e ≤ reachBytes := fun e hu el sp hds => by
  subst hds
  exact sized_slice h ht hd hu

def inI (a : Int) : Prop := -9223372036854775808 ≤ a ∧ a ≤ 9223372036854775807
theorem inI_of {a : Int} (h : (Lit.int .i64 a).wf = true) : inI a := by
  simpa [inI, Lit.wf, IntKind.min, IntKind.max, IntKind.signed, IntKind.bits] using h

def encI (x : Int) : List Value := [.int .i64 x]
set_option maxRecDepth 100000 in
theorem open_intsL {H : Type} {enc : TypeId × Value → H} {W : World} {base : Nat} {v : Value} {d : DataW H} {p : List MemPlace} (hv : Value.okWide Tryz.prog W .any base 40 v) (h : DataW.Trod enc Tryz.prog W 0 (fun _ => true) true 40 v d p)
    (hs : ∀ e, Tryz.prog.underlying 40 = some (.slice e) → ∀ el sp, d = .slice el sp → (el.length + sp.length) * Tryz.prog.bytesOf e ≤ reachBytes) :
    ∃ l : List Int, Rd W 1 encI v l ∧ (∀ a ∈ l, inI a) ∧ l.length * 8 ≤ 140737488351232 := by
  refine open_rows 1 8 encI inI Tryz.underlying40 (by kernel_rfl) (by decide) (by kernel_rfl) (fun n cs x _ hx => ?_) (okWide_slice Tryz.underlying40 hv) h (hs _ Tryz.underlying40)
  obtain ⟨z, rfl, _, hz⟩ := DataW.trod_int Tryz.underlying3 hx
  exact ⟨z, rfl, inI_of hz⟩
end Go.Proofs.YtdfckkadmgmcaaaGreatDoor

/- How the slices among a statement's arguments are opened: whatever their size; the second form's bound. -/
namespace Go.Proofs.YtdfckkadmgmcaaaGreatDoor
open Go.RowKit Go.ChangeShapes Go.WideShapes Go.ChangeAt
set_option linter.unusedSimpArgs false

/-- A slice that came in, its elements of whatever kind: it reads as a list. -/
theorem open_rowsN {α H : Type} {enc : TypeId × Value → H} {P : Program} {W : World} {t e : TypeId} (size bytes : Nat) (encE : α → List Value) (ok : α → Prop) (ht : P.underlying t = some (.slice e)) (hc : P.cellsOf e = size) (hp : 0 < size) (hby : P.bytesOf e = bytes)
    (hel : ∀ n cs x, cs.length = size → DataW.trod enc P W 0 (fun _ => true) true n e cs = some x → ∃ a, cs = encE a ∧ ok a)
    {v : Value} {d : DataW H} {p : List MemPlace} (hv : ∃ a l c, v = .slice a l c) (h : DataW.Trod enc P W 0 (fun _ => true) true t v d p)
    (N : Nat) (hsz : ∀ el sp, d = .slice el sp → (el.length + sp.length) * P.bytesOf e ≤ N) :
    ∃ l : List α, Rd W size encE v l ∧ (∀ a ∈ l, ok a) ∧ l.length * bytes ≤ N := by
  obtain ⟨a0, len0, cap0, rfl⟩ := hv
  obtain ⟨fuel, hf⟩ := h
  simp only [Value.cells] at hf
  rcases Deep.open_slice ht hf with ⟨hcs, _⟩ | ⟨a, len, cap, m, n, D, Pl, hcs, _, hl, hm, hmm, hx, hall⟩
  · simp at hcs
    obtain ⟨rfl, rfl, rfl⟩ := hcs
    exact ⟨[], ⟨none, 0, rfl, Nat.le_refl _, by decide, fun i x hx => (by simp at hx)⟩, fun a ha => (by cases ha), by simp⟩
  · simp at hcs
    obtain ⟨rfl, rfl, rfl⟩ := hcs
    simp only [if_true] at hmm
    subst hmm
    rw [hc] at hall
    have hall' : ∀ i, i < len0 → ∃ z : α, W.cells? 0 (a.add (i * size)) size = some (encE z) ∧ ok z := fun i hi => by
      obtain ⟨cs', h1, h2⟩ := hall i (by omega)
      obtain ⟨_, hlen, _⟩ := World.cells?_some h1
      obtain ⟨z, rfl, hz⟩ := hel _ _ _ hlen h2
      exact ⟨z, h1, hz⟩
    classical
    refine ⟨(List.range len0).pmap (fun i hi => Classical.choose (hall' i hi)) (fun i hi => List.mem_range.1 hi), ⟨some a, m, by simp, by simpa using hl, hm, fun i x hx' => ?_⟩, fun z hz => ?_, ?_⟩
    · have hi : i < len0 := by have := (List.getElem?_eq_some_iff.1 hx').1; simpa using this
      rw [List.getElem?_pmap] at hx'
      simp only [List.getElem?_range hi, Option.pmap_some, Option.some.injEq] at hx'
      have hs := Classical.choose_spec (hall' i hi)
      rw [hx'] at hs
      obtain ⟨hcs, hok⟩ := hs
      obtain ⟨hb, hlen, hcell⟩ := World.cells?_some hcs
      have hspot : a = ⟨a.block, a.off, none⟩ := by
        obtain ⟨z0, hz0, _⟩ := hall' 0 (by omega)
        rw [Nat.zero_mul, show a.add 0 = a from rfl] at hz0
        obtain ⟨_, hl0, hc0⟩ := World.cells?_some hz0
        have h00 := hc0 0 hp
        rw [List.getElem?_eq_getElem (by omega)] at h00
        rw [show a.add 0 = a from rfl] at h00
        cases a with
        | mk b o s =>
          cases s with
          | none => rfl
          | some s => simp [World.cell?] at h00; split at h00 <;> simp at h00
      refine ⟨a.block, a.off, by rw [← hspot], ?_, fun j u hu => ?_⟩
      · have h00 := hcell 0 hp
        rw [List.getElem?_eq_getElem (by omega)] at h00
        have := World.block_lt_of_cell? W _ h00
        rw [hspot] at this
        simpa [Addr.add_lit] using this
      · have := (hcell j (by have := (List.getElem?_eq_some_iff.1 hu).1; omega)).trans hu
        rw [hspot] at this
        simpa [Addr.add_lit] using this
    · obtain ⟨i, hi, rfl⟩ := List.mem_pmap.1 hz
      exact (Classical.choose_spec (hall' i (List.mem_range.1 hi))).2
    · have := hsz _ _ (congrArg Prod.fst hx)
      rw [hby] at this
      simp only [List.length_map, List.length_range] at this
      simp only [List.length_pmap, List.length_range]
      exact Nat.le_trans (Nat.mul_le_mul_right _ (by omega)) this


theorem bulk_one {H : Type} (d : DataW H) : 1 ≤ Rows.uptoBulk d := by
  cases d with
  | lit l => cases l <;> simp [Rows.uptoBulk]
  | nil => simp [Rows.uptoBulk]
  | ptr d => simp [Rows.uptoBulk]
  | slice elems spare => simp [Rows.uptoBulk]
  | agg parts => simp [Rows.uptoBulk]
  | iface t d => simp [Rows.uptoBulk]
  | map entries => simp [Rows.uptoBulk]
  | held h => simp [Rows.uptoBulk]
theorem bulk_part {H : Type} {d : DataW H} {l : List (DataW H)} (h : d ∈ l) : Rows.uptoBulk d ≤ Rows.uptoBulkAll l := by
  induction l with
  | nil => cases h
  | cons x r ih =>
    simp only [Rows.uptoBulkAll]
    cases List.mem_cons.1 h with
    | inl e => subst e; omega
    | inr e => have := ih e; omega
theorem bulk_len {H : Type} (l : List (DataW H)) : l.length ≤ Rows.uptoBulkAll l := by
  induction l with
  | nil => simp [Rows.uptoBulkAll]
  | cons x r ih => have := bulk_one x; simp only [Rows.uptoBulkAll, List.length_cons]; omega
theorem bulk_slice {H : Type} (el sp : List (DataW H)) : el.length + sp.length ≤ Rows.uptoBulk (.slice el sp) := by
  have := bulk_len el; have := bulk_len sp
  simp only [Rows.uptoBulk]
  omega
theorem bulk_times {a b c : Nat} (h : a ≤ b) (hb : b ≤ c) : a * 16 ≤ c * 16 := Nat.mul_le_mul_right _ (Nat.le_trans h hb)
theorem upto_all {H : Type} {l : List (DataW H)} (hk : Rows.uptoSmall H l = true) : Rows.uptoBulkAll l ≤ 1048576 := of_decide_eq_true hk
theorem upto_part {H : Type} {d : DataW H} {l : List (DataW H)} (hk : Rows.uptoSmall H l = true) (h : d ∈ l) : Rows.uptoBulk d ≤ 1048576 :=
  Nat.le_trans (bulk_part h) (upto_all hk)
end Go.Proofs.YtdfckkadmgmcaaaGreatDoor

/- Paths, in plain words: names, cutting at each /, joining; no program in sight. -/
namespace Go.Proofs.YtdfckkadmgmcaaaGreatDoor.Path
open Go
set_option linter.unusedSimpArgs false
set_option linter.unusedVariables false

abbrev Bs := List UInt8
def bs (s : ByteArray) : Bs := s.data.toList
def mk (l : Bs) : ByteArray := ⟨l.toArray⟩
theorem bs_mk (l : Bs) : bs (mk l) = l := by simp [bs, mk]
theorem mk_bs (s : ByteArray) : mk (bs s) = s := by simp [bs, mk]
theorem bs_inj {s t : ByteArray} (h : bs s = bs t) : s = t := by
  have := congrArg mk h
  rwa [mk_bs, mk_bs] at this
theorem mk_inj {s t : Bs} (h : mk s = mk t) : s = t := by
  have := congrArg bs h
  rwa [bs_mk, bs_mk] at this
theorem bs_len (s : ByteArray) : (bs s).length = s.size := Array.length_toList
theorem mk_size (l : Bs) : (mk l).size = l.length := by rw [← bs_len, bs_mk]

def okB (b : UInt8) : Bool := (decide (97 ≤ b) && decide (b ≤ 122)) || (decide (48 ≤ b) && decide (b ≤ 57)) || b == 46 || b == 95 || b == 45
def nameL (s : Bs) : Bool := decide (1 ≤ s.length) && decide (s.length ≤ 20) && s != [46] && s != [46, 46] && s.all okB
theorem name_ne {s : Bs} (h : nameL s = true) : s ≠ [] := by
  rintro rfl
  simp [nameL] at h
theorem name_len {s : Bs} (h : nameL s = true) : s.length ≤ 20 := by
  simp only [nameL, Bool.and_eq_true, decide_eq_true_eq] at h
  exact h.1.1.1.2
theorem name_slash {s : Bs} (h : nameL s = true) : (47 : UInt8) ∉ s := by
  intro hm
  simp only [nameL, Bool.and_eq_true] at h
  have := List.all_eq_true.1 h.2 _ hm
  simp [okB] at this

/-- The pieces between the slashes. -/
def cutL : Bs → List Bs
  | [] => [[]]
  | b :: t => if b = 47 then [] :: cutL t else match cutL t with
    | [] => [[b]]
    | h :: r => (b :: h) :: r
theorem cut_ne (s : Bs) : cutL s ≠ [] := by
  cases s with
  | nil => simp [cutL]
  | cons b t =>
    rw [cutL]
    split
    · simp
    · split <;> simp
theorem cut_slash (t : Bs) : cutL (47 :: t) = [] :: cutL t := by rw [cutL, if_pos rfl]
theorem cut_other {b : UInt8} {t : Bs} (hb : b ≠ 47) {h : Bs} {r : List Bs} (ht : cutL t = h :: r) : cutL (b :: t) = (b :: h) :: r := by rw [cutL, if_neg hb, ht]
theorem cut_plain : ∀ {x : Bs}, (47 : UInt8) ∉ x → cutL x = [x]
  | [], _ => rfl
  | b :: t, h => by
    simp only [List.mem_cons, not_or] at h
    exact cut_other (fun e => h.1 e.symm) (cut_plain h.2)
theorem cut_append : ∀ {x : Bs} (t : Bs), (47 : UInt8) ∉ x → cutL (x ++ 47 :: t) = x :: cutL t
  | [], t, _ => cut_slash t
  | b :: x, t, h => by
    simp only [List.mem_cons, not_or] at h
    exact cut_other (fun e => h.1 e.symm) (cut_append t h.2)

theorem index_miss_hit (b : UInt8) (t : Bs) (hb : b ≠ 47) : Lib.index (b :: t) [47] = if Lib.index t [47] == -1 then -1 else Lib.index t [47] + 1 := by
  rw [Lib.index, if_neg (by simp [List.isPrefixOf, Ne.symm hb])]
theorem index_hit (t : Bs) : Lib.index (47 :: t) [47] = 0 := by
  rw [Lib.index, if_pos (by simp [List.isPrefixOf])]
theorem index_ge (t : Bs) : Lib.index t [47] = -1 ∨ 0 ≤ Lib.index t [47] := by
  induction t with
  | nil => left; rfl
  | cons b t ih =>
    by_cases hb : b = 47
    · subst hb; right; rw [index_hit]; omega
    · rw [index_miss_hit b t hb]
      rcases ih with h | h
      · left; rw [h]; rfl
      · right
        split
        · rename_i e; have := beq_iff_eq.1 e; omega
        · omega
theorem split_cut : ∀ s : Bs, Lib.splitK [47] 0 (s.count 47) s = cutL s
  | [] => rfl
  | b :: t => by
    have ih := split_cut t
    by_cases hb : b = 47
    · subst hb
      rw [List.count_cons_self, Lib.splitK, index_hit, if_neg (by decide), cut_slash]
      simp [ih]
    · rw [List.count_cons_of_ne hb]
      cases hk : t.count 47 with
      | zero =>
        rw [hk] at ih
        rw [Lib.splitK] at ih ⊢
        rw [cut_other hb ih.symm]
      | succ k =>
        rw [hk] at ih
        rw [Lib.splitK] at ih ⊢
        rw [index_miss_hit b t hb]
        rcases index_ge t with h | h
        · have e : (if (Lib.index t [47] == -1) = true then (-1 : Int) else Lib.index t [47] + 1) = -1 := by rw [h]; rfl
          rw [e, if_pos (by decide : ((-1 : Int) == -1) = true)]
          rw [h, if_pos (by decide : ((-1 : Int) == -1) = true)] at ih
          rw [cut_other hb ih.symm]
        · have hne : ¬ (Lib.index t [47] == -1) = true := fun e => by have := beq_iff_eq.1 e; omega
          rw [if_neg hne] at ih ⊢
          have hne2 : ¬ (Lib.index t [47] + 1 == -1) = true := fun e => by have := beq_iff_eq.1 e; omega
          rw [if_neg hne2, cut_other hb ih.symm]
          have e : (Lib.index t [47] + 1).toNat = (Lib.index t [47]).toNat + 1 := by omega
          rw [e]
          simp only [Nat.add_zero, List.length_cons, List.length_nil, Nat.zero_add, List.take_succ_cons, List.drop_succ_cons]

/-- The path of names. -/
def joinP (ns : List Bs) : Bs := 47 :: [(47 : UInt8)].intercalate ns
theorem inter_nil : [(47 : UInt8)].intercalate [] = [] := rfl
theorem inter_one (x : Bs) : [(47 : UInt8)].intercalate [x] = x := by simp [List.intercalate]
theorem inter_cons (x y : Bs) (r : List Bs) : [(47 : UInt8)].intercalate (x :: y :: r) = x ++ 47 :: [(47 : UInt8)].intercalate (y :: r) := by simp [List.intercalate]
theorem join_nil : joinP [] = [47] := rfl
theorem join_snoc (ns : List Bs) (n : Bs) (h : ns ≠ []) : joinP (ns ++ [n]) = joinP ns ++ 47 :: n := by
  have key : ∀ ns : List Bs, ns ≠ [] → [(47 : UInt8)].intercalate (ns ++ [n]) = [(47 : UInt8)].intercalate ns ++ 47 :: n := by
    intro ns
    induction ns with
    | nil => intro h; exact absurd rfl h
    | cons x r ih =>
      intro _
      cases r with
      | nil => rw [List.singleton_append, inter_cons, inter_one, inter_one]
      | cons y r => rw [List.cons_append, List.cons_append, inter_cons, ← List.cons_append, ih (by simp), inter_cons, List.append_assoc]; rfl
  rw [joinP, joinP, key ns h, List.cons_append]
theorem cut_join : ∀ {ns : List Bs}, ns ≠ [] → (∀ n ∈ ns, (47 : UInt8) ∉ n) → cutL ([(47 : UInt8)].intercalate ns) = ns
  | [], h, _ => absurd rfl h
  | [x], _, hs => by rw [inter_one, cut_plain (hs x (by simp))]
  | x :: y :: r, _, hs => by
    rw [inter_cons, cut_append _ (hs x (by simp)), cut_join (by simp) (fun n hn => hs n (by simp at hn ⊢; right; exact hn))]
theorem join_cut : ∀ s : Bs, [(47 : UInt8)].intercalate (cutL s) = s
  | [] => rfl
  | b :: t => by
    have ih := join_cut t
    by_cases hb : b = 47
    · subst hb
      rw [cut_slash]
      cases h : cutL t with
      | nil => exact absurd h (cut_ne t)
      | cons x r => rw [inter_cons, ← h, ih]; rfl
    · cases h : cutL t with
      | nil => exact absurd h (cut_ne t)
      | cons x r =>
        rw [cut_other hb h]
        rw [h] at ih
        cases r with
        | nil => rw [inter_one] at ih ⊢; rw [ih]
        | cons y r => rw [inter_cons] at ih ⊢; rw [List.cons_append, ih]

def splitE (p : Bs) : Int :=
  if 120 < p.length then 4 else if p = [47] then 0 else
    if p.head? = some 47 then (if (cutL p.tail).all nameL = true then (if 6 < (cutL p.tail).length then 4 else 0) else 1) else 1
def splitL (p : Bs) : List Bs := if splitE p = 0 then (if p = [47] then [] else cutL p.tail) else []
def joinE (ns : List Bs) : Int := if ns.all nameL = true then (if 6 < ns.length ∨ 120 < (joinP ns).length then 4 else 0) else 1
def joinS (ns : List Bs) : Bs := if joinE ns = 0 then joinP ns else []

theorem joinE_ok {ns : List Bs} : joinE ns = 0 ↔ (∀ n ∈ ns, nameL n = true) ∧ ns.length ≤ 6 ∧ (joinP ns).length ≤ 120 := by
  rw [joinE]
  split
  · rename_i h
    rw [List.all_eq_true] at h
    split
    · constructor
      · intro e; cases e
      · rintro ⟨_, h1, h2⟩; omega
    · exact ⟨fun _ => ⟨h, by omega, by omega⟩, fun _ => rfl⟩
  · rename_i h
    rw [List.all_eq_true] at h
    exact ⟨fun e => (by cases e), fun h' => absurd h'.1 h⟩
theorem split_ok {p : Bs} (h : splitE p = 0) : joinE (splitL p) = 0 ∧ joinP (splitL p) = p := by
  rw [splitL, if_pos h]
  rw [splitE] at h
  split at h
  · cases h
  · rename_i hl
    split at h
    · rename_i e
      subst e
      rw [if_pos rfl]
      exact ⟨by decide, rfl⟩
    · rename_i e
      rw [if_neg e]
      split at h
      · rename_i hh
        obtain ⟨t, rfl⟩ : ∃ t, p = 47 :: t := by
          cases p with
          | nil => cases hh
          | cons b t => simp at hh; exact ⟨t, by rw [hh]⟩
        rw [List.tail_cons] at h ⊢
        split at h
        · rename_i ha
          split at h
          · cases h
          · rename_i h6
            have hj : joinP (cutL t) = 47 :: t := by rw [joinP, join_cut]
            exact ⟨joinE_ok.2 ⟨List.all_eq_true.1 ha, by omega, by rw [hj]; omega⟩, hj⟩
        · cases h
      · cases h
theorem join_ok {ns : List Bs} (h : joinE ns = 0) : splitE (joinP ns) = 0 ∧ splitL (joinP ns) = ns := by
  obtain ⟨h1, h2, h3⟩ := joinE_ok.1 h
  cases hns : ns with
  | nil => exact ⟨by decide, by decide⟩
  | cons x r =>
    rw [← hns]
    have hne : ns ≠ [] := by rw [hns]; simp
    have hc : cutL ([(47 : UInt8)].intercalate ns) = ns := cut_join hne fun n hn => name_slash (h1 n hn)
    have he : joinP ns ≠ [47] := by
      intro e
      rw [joinP] at e
      simp only [List.cons.injEq, true_and] at e
      rw [e] at hc
      rw [cutL] at hc
      have := name_ne (h1 [] (by rw [← hc]; simp))
      exact this rfl
    have hE : splitE (joinP ns) = 0 := by
      have ht : (joinP ns).tail = [(47 : UInt8)].intercalate ns := rfl
      have hd : (joinP ns).head? = some 47 := rfl
      rw [splitE, if_neg (by omega), if_neg he, if_pos hd, ht, hc, if_pos (List.all_eq_true.2 h1), if_neg (by omega)]
    have ht : (joinP ns).tail = [(47 : UInt8)].intercalate ns := rfl
    exact ⟨hE, by rw [splitL, if_pos hE, if_neg he, ht, hc]⟩
theorem split_inj {p q : Bs} (hp : splitE p = 0) (hq : splitE q = 0) (h : splitL p = splitL q) : p = q := by
  rw [← (split_ok hp).2, h, (split_ok hq).2]
theorem split_bad {p : Bs} (h : splitE p ≠ 0) : splitL p = [] := if_neg h

def underL (a b : Bs) : Bool := decide (splitE a = 0) && decide (splitE b = 0) && (splitL a).isPrefixOf (splitL b)
def parE (p : Bs) : Int := if splitE p = 0 then (if splitL p = [] then 1 else 0) else splitE p
def parD (p : Bs) : Bs := if parE p = 0 then joinP (splitL p).dropLast else []
def parN (p : Bs) : Bs := if parE p = 0 then (splitL p).getLastD [] else []
def moveN (p a b : Bs) : List Bs := splitL b ++ (splitL p).drop (splitL a).length
def moveOk (p a b : Bs) : Bool := underL a p && decide (splitE b = 0)
def moveE (p a b : Bs) : Int := if moveOk p a b = true then joinE (moveN p a b) else 1
def moveS (p a b : Bs) : Bs := if moveOk p a b = true then joinS (moveN p a b) else []
end Go.Proofs.YtdfckkadmgmcaaaGreatDoor.Path

/- Paths: what may be a name, by the program and by the document. -/
namespace Go.Proofs.YtdfckkadmgmcaaaGreatDoor.Path
open Go.RowKit
set_option linter.unusedSimpArgs false

theorem okB_iff (b : UInt8) : okB b = true ↔ (97 ≤ (b.toNat : Int) ∧ (b.toNat : Int) ≤ 122) ∨ (48 ≤ (b.toNat : Int) ∧ (b.toNat : Int) ≤ 57) ∨ (b.toNat : Int) = 46 ∨ (b.toNat : Int) = 95 ∨ (b.toNat : Int) = 45 := by
  simp only [okB, Bool.or_eq_true, Bool.and_eq_true, decide_eq_true_eq, beq_iff_eq, UInt8.le_iff_toNat_le, ← UInt8.toNat_inj]
  simp only [UInt8.reduceToNat, or_assoc]
  omega
/-- Which way the switch goes. -/
theorem ok_ways {b : UInt8} {n : Int} (hn : n = (b.toNat : Int)) (h : okB b = true) : (97 ≤ n ∧ n ≤ 122) ∨ (¬ 97 ≤ n ∧ 48 ≤ n ∧ n ≤ 57) ∨ n = 46 ∨ n = 95 ∨ n = 45 := by
  have := (okB_iff b).1 h
  omega
theorem no_ways {b : UInt8} {n : Int} (hn : n = (b.toNat : Int)) (h : okB b = false) : (97 ≤ n ∧ ¬ n < 97 ∧ 122 < n ∧ ¬ n ≤ 122 ∧ 48 ≤ n ∧ ¬ n < 48 ∧ 57 < n ∧ ¬ n ≤ 57 ∧ n ≠ 46 ∧ n ≠ 95 ∧ n ≠ 45) ∨ (¬ 97 ≤ n ∧ n < 97 ∧ n ≤ 122 ∧ ¬ 122 < n ∧ 48 ≤ n ∧ ¬ n < 48 ∧ 57 < n ∧ ¬ n ≤ 57 ∧ n ≠ 46 ∧ n ≠ 95 ∧ n ≠ 45) ∨ (¬ 97 ≤ n ∧ n < 97 ∧ n ≤ 122 ∧ ¬ 122 < n ∧ ¬ 48 ≤ n ∧ n < 48 ∧ n ≤ 57 ∧ ¬ 57 < n ∧ n ≠ 46 ∧ n ≠ 95 ∧ n ≠ 45) := by
  have : ¬ _ := fun hh => by have := (okB_iff b).2 hh; rw [h] at this; cases this
  omega

structure Mid (s : ByteArray) : Prop where
  e : s.toList.isEmpty = false
  z : ¬ (s.size : Int) < 1
  l : ¬ 20 < (s.size : Int)
  d : (s.toList == [46]) = false
  dd : (s.toList == [46, 46]) = false
theorem tl_bs (s : ByteArray) : s.toList = bs s := ByteArray.toList_eq s
theorem mid_name {s : ByteArray} (h : Mid s) : nameL (bs s) = (bs s).all okB := by
  have h1 := h.z; have h2 := h.l
  have h3 := h.d; have h4 := h.dd
  rw [tl_bs] at h3 h4
  have hl := bs_len s
  rw [nameL, decide_eq_true (by omega), decide_eq_true (by omega)]
  simp only [bne, h3, h4]
  rfl
theorem name_bad {s : ByteArray} (h : ¬ Mid s) : nameL (bs s) = false ∧ ((s.toList.isEmpty = true ∧ (s.size : Int) < 1) ∨ (s.toList.isEmpty = false ∧ ¬ (s.size : Int) < 1 ∧ 20 < (s.size : Int)) ∨ (s.toList.isEmpty = false ∧ ¬ (s.size : Int) < 1 ∧ ¬ 20 < (s.size : Int) ∧ (s.toList == [46]) = true) ∨ (s.toList.isEmpty = false ∧ ¬ (s.size : Int) < 1 ∧ ¬ 20 < (s.size : Int) ∧ (s.toList == [46]) = false ∧ (s.toList == [46, 46]) = true)) := by
  have hl := bs_len s
  rw [tl_bs]
  by_cases h0 : bs s = []
  · rw [h0] at hl
    exact ⟨by rw [h0]; rfl, .inl ⟨by rw [h0]; rfl, by simp at hl; omega⟩⟩
  · have h0' : (bs s).isEmpty = false := by simpa using h0
    have hz : ¬ (s.size : Int) < 1 := by
      have := List.length_pos_iff.2 h0; omega
    by_cases h20 : 20 < (s.size : Int)
    · exact ⟨by rw [nameL, decide_eq_false (by omega : ¬ (bs s).length ≤ 20)]; simp, .inr (.inl ⟨h0', hz, h20⟩)⟩
    · by_cases hd : bs s = [46]
      · exact ⟨by rw [hd]; rfl, .inr (.inr (.inl ⟨h0', hz, h20, by rw [hd]; rfl⟩))⟩
      · have hd' : (bs s == [46]) = false := by simpa using hd
        by_cases hdd : bs s = [46, 46]
        · exact ⟨by rw [hdd]; rfl, .inr (.inr (.inr ⟨h0', hz, h20, hd', by rw [hdd]; rfl⟩))⟩
        · exact absurd ⟨by rw [tl_bs]; exact h0', hz, h20, by rw [tl_bs]; exact hd', by rw [tl_bs]; simpa using hdd⟩ h

theorem bs_get {s : ByteArray} {k : Nat} (h : k < s.size) : (bs s)[k]? = some s[k] := by
  rw [List.getElem?_eq_some_iff]
  exact ⟨by rw [bs_len]; exact h, rfl⟩
theorem all_next {l : Bs} {k : Nat} {b : UInt8} (hb : l[k]? = some b) (h : (l.take k).all okB = true) (hk : okB b = true) : (l.take (k + 1)).all okB = true := by
  rw [List.take_add_one, hb, List.all_append, h]; simp [hk]
theorem all_stop {l : Bs} {k : Nat} {b : UInt8} (hb : l[k]? = some b) (hk : okB b = false) : l.all okB = false := by
  rw [List.all_eq_false]
  exact ⟨b, List.mem_of_getElem? hb, by simp [hk]⟩

set_option maxHeartbeats 2000000 in
theorem rname_calls (w : World) (s : ByteArray) :
    Calls Tryz.prog 132 #[.string s] w fun e w' => e = .returned (.bool (nameL (bs s))) ∧ w' = w := by
  by_cases hm : Mid s
  · rw [mid_name hm]
    obtain ⟨h0, h1, h2, h3, h4⟩ := hm
    have hs := bs_len s
    go_enter Tryz.func132, Tryz.ntmps132
    go_wp2_with (fail)
    go_loopw [3] (fun vk wr => ∃ k : Nat, vk = .int .i64 k ∧ k ≤ s.size ∧ ((bs s).take k).all okB = true ∧ wr = w) (fun vk _ => s.size - (intOf vk).toNat)
    case atStart => exact ⟨0, rfl, Nat.zero_le _, rfl, rfl⟩
    case round =>
      obtain ⟨k, rfl, hk, hall, rfl⟩ := hrel
      have Hall := Lib.hid hall; clear hall
      by_cases hlt : k < s.size
      · have hb := bs_get hlt
        have Hb := Lib.hid hb; clear hb
        cases hk' : okB s[k]
        · have hno := all_stop Hb.out hk'
          have Hno := Lib.hid hno; clear hno
          rcases no_ways rfl hk' with ⟨m1, m2, m3, m4, m5, m6, m7, m8, m9, m10, m11⟩ | ⟨m1, m2, m3, m4, m5, m6, m7, m8, m9, m10, m11⟩ | ⟨m1, m2, m3, m4, m5, m6, m7, m8, m9, m10, m11⟩ <;>
          · clear hk'
            have q1 : ((s[k].toNat : Int) != 46) = true := bne_iff_ne.2 m9
            have q2 : ((s[k].toNat : Int) != 95) = true := bne_iff_ne.2 m10
            have q3 : ((s[k].toNat : Int) != 45) = true := bne_iff_ne.2 m11
            go_wp2_with (fail)
            go_ret
            exact ⟨ret_bool Hno.out.symm, rfl⟩
        · have hnx := all_next Hb.out Hall.out hk'
          have Hnx := Lib.hid hnx; clear hnx
          rcases ok_ways rfl hk' with ⟨m1, m2⟩ | ⟨m1, m2, m3⟩ | m1 | m1 | m1 <;>
          · clear hk'
            go_wp2_with (fail)
            go_roundw
            case rel => exact ⟨k + 1, by go_num, by omega, Hnx.out, by trivial⟩
            case measure => simp [intOf]; omega
      · obtain rfl : k = s.size := by omega
        have h := Hall.out
        rw [List.take_of_length_le (by omega)] at h
        have H := Lib.hid h; clear h
        go_wp2_with (fail)
        go_ret
        exact ⟨ret_bool H.out.symm, rfl⟩
  · obtain ⟨hn, hc⟩ := name_bad hm
    rw [hn]
    clear hn hm
    rcases hc with ⟨h0, h1⟩ | ⟨h0, h1, h2⟩ | ⟨h0, h1, h2, h3⟩ | ⟨h0, h1, h2, h3, h4⟩ <;>
    · go_enter Tryz.func132, Tryz.ntmps132
      go_wp2_with (fail)
      go_ret
      exact ⟨rfl, rfl⟩

set_option maxHeartbeats 4000000 in
theorem name_calls (w : World) (s : ByteArray) :
    Calls Tryz.prog 120 #[.string s] w fun e w' => e = .returned (.bool (nameL (bs s))) ∧ Below w.heap.size w w' := by
  by_cases hm : Mid s
  · rw [mid_name hm]
    obtain ⟨h0, h1, h2, h3, h4⟩ := hm
    have hs := bs_len s
    have hcv := fun W => Lib.run_convert_string_bytes (P := Tryz.prog) W 9 68 5 s Tryz.underlying9 Tryz.underlying68 Tryz.underlying5
    have hcell := fun k (hk : k < s.size) => Lib.bytesWorld_cell w 5 s k hk
    have hbel : Below w.heap.size w (Lib.bytesWorld w 5 s) := ⟨rfl, rfl, rfl, by rw [Lib.bytesWorld_size]; omega, fun k hk => Lib.bytesWorld_at_old w _ s k hk⟩
    have Hcell := Lib.hid hcell; clear hcell
    go_enter Tryz.func120, Tryz.ntmps120
    go_wp2_with (fail)
    clear hcv
    generalize Lib.bytesWorld w 5 s = w1 at *
    go_loopw [23] (fun vk wr => ∃ k : Nat, vk = .int .i64 k ∧ k ≤ s.size ∧ ((bs s).take k).all okB = true ∧ wr = w1) (fun vk _ => s.size - (intOf vk).toNat)
    case atStart => exact ⟨0, rfl, Nat.zero_le _, rfl, rfl⟩
    case round =>
      obtain ⟨k, rfl, hk, hall, rfl⟩ := hrel
      have Hall := Lib.hid hall; clear hall
      by_cases hlt : k < s.size
      · have hb := bs_get hlt
        have hc := Hcell.out k hlt
        rw [show s.data.toList.getD k 0 = s[k] from by rw [List.getD_eq_getElem?_getD]; exact congrArg (fun o => Option.getD o 0) hb] at hc
        have Hb := Lib.hid hb; clear hb
        cases hk' : okB s[k]
        · have hno := all_stop Hb.out hk'
          have Hno := Lib.hid hno; clear hno
          rcases no_ways rfl hk' with ⟨m1, m2, m3, m4, m5, m6, m7, m8, m9, m10, m11⟩ | ⟨m1, m2, m3, m4, m5, m6, m7, m8, m9, m10, m11⟩ | ⟨m1, m2, m3, m4, m5, m6, m7, m8, m9, m10, m11⟩ <;>
          · clear hk'
            have q1 : ((s[k].toNat : Int) == 46) = false := beq_false_of_ne m9
            have q2 : ((s[k].toNat : Int) == 95) = false := beq_false_of_ne m10
            have q3 : ((s[k].toNat : Int) == 45) = false := beq_false_of_ne m11
            go_wp2_with (fail)
            go_ret
            exact ⟨ret_bool Hno.out.symm, hbel⟩
        · have hnx := all_next Hb.out Hall.out hk'
          have Hnx := Lib.hid hnx; clear hnx
          rcases ok_ways rfl hk' with ⟨m1, m2⟩ | ⟨m1, m2, m3⟩ | m1 | m1 | m1 <;>
          · clear hk'
            go_wp2_with (fail)
            go_roundw
            case rel => exact ⟨k + 1, by go_num, by omega, Hnx.out, by trivial⟩
            case measure => simp [intOf]; omega
      · obtain rfl : k = s.size := by omega
        have h := Hall.out
        rw [List.take_of_length_le (by omega)] at h
        have H := Lib.hid h; clear h
        go_wp2_with (fail)
        go_ret
        exact ⟨ret_bool H.out.symm, hbel⟩
  · obtain ⟨hn, hc⟩ := name_bad hm
    rw [hn]
    clear hn hm
    rcases hc with ⟨h0, h1⟩ | ⟨h0, h1, h2⟩ | ⟨h0, h1, h2, h3⟩ | ⟨h0, h1, h2, h3, h4⟩ <;>
    · go_enter Tryz.func120, Tryz.ntmps120
      go_wp2_with (fail)
      go_ret
      exact ⟨rfl, Below.refl _ _⟩
end Go.Proofs.YtdfckkadmgmcaaaGreatDoor.Path

/- Paths: rows of texts; slices.ContainsFunc under path.Split's and path.Join's own choices. -/
namespace Go.Proofs.YtdfckkadmgmcaaaGreatDoor.Path
open Go.RowKit
set_option linter.unusedSimpArgs false

def encS (x : ByteArray) : List Value := [.string x]
def flatS (l : List ByteArray) : List Value := l.flatMap encS
theorem encS_len (x : ByteArray) : (encS x).length = 1 := rfl
theorem flatS_len (l : List ByteArray) : (flatS l).length = l.length := by rw [flatS, flat_length encS 1 encS_len, Nat.mul_one]
theorem flatS_snoc (l : List ByteArray) (x : ByteArray) : flatS (l ++ [x]) = flatS l ++ [.string x] := by simp [flatS, encS]
theorem flatS_map (l : List ByteArray) : flatS l = l.map Value.string := by induction l with | nil => rfl | cons x t ih => simp [flatS, encS] at ih ⊢; exact ih
theorem infoS : (Tryz.prog.info? 9).map (fun i => (i.zero, i.size, i.bytes)) = some (some (.string .empty), 1, 16) := by kernel_rfl
theorem etS : ET Tryz.prog 32 9 1 16 := ET.of Tryz.underlying32 infoS rfl (by decide) (by simp [Value.cells, Value.oneCell'])
/-- A slice of texts of the call's own. -/
structure OwnS (w w' : World) (v : Value) (q : List ByteArray) : Prop where
  own : w'.ownsRow 0 9 1 v q.length (flatS q)
  new : ∀ g, v.ownBlock = some g → w.heap.size ≤ g
theorem OwnS.rd {w w' : World} {v : Value} {q : List ByteArray} (h : OwnS w w' v q) : Rd w' 1 encS v q := Rd.of_own encS_len h.own
theorem OwnS.nil (w w' : World) : OwnS w w' (.slice none 0 0) [] := ⟨World.ownsRow_nil _ _ _ _, fun g h => by simp [Value.ownBlock] at h⟩
theorem rd_cellsS {w : World} {v : Value} {l : List ByteArray} (h : Rd w 1 encS v l) : ∃ ao cap, v = .slice ao l.length cap ∧ l.length ≤ cap ∧ cap ≤ maxLen ∧ ∀ W, Below w.heap.size w W → ∀ k x, l[k]? = some x →
    ∃ b off, ao = some ⟨b, off, none⟩ ∧ b < w.heap.size ∧ W.cell? ⟨b, off + k, none⟩ = some (.string x) := by
  obtain ⟨ao, cap, hv, hc, hcm, hcell⟩ := h
  refine ⟨ao, cap, hv, hc, hcm, fun W hW k x hx => ?_⟩
  obtain ⟨b, off, hb, hlt, hcl⟩ := hcell k x hx
  refine ⟨b, off, hb, hlt, ?_⟩
  have := hcl 0 _ rfl
  rw [Nat.mul_one] at this
  rw [hW.cell (p := ⟨b, off + k, none⟩) hlt]; exact this

structure Sign (b : Bool) (i : Int) : Prop where
  yes : b = true → 0 ≤ i
  no : b = false → i = -1
def badS (x : ByteArray) : Bool := !nameL (bs x)
def idxS (p : ByteArray → Bool) (l : List ByteArray) : Int := if l.any p then (l.findIdx p : Int) else -1
theorem any_next {p : ByteArray → Bool} {l : List ByteArray} {k : Nat} {x : ByteArray} (hx : l[k]? = some x) (h : (l.take k).any p = false) (hp : p x = false) : (l.take (k + 1)).any p = false := by
  rw [List.take_add_one, hx]
  simp only [Option.toList_some, List.any_append, h, List.any_cons, hp, List.any_nil, Bool.or_self]
theorem any_hit {p : ByteArray → Bool} {l : List ByteArray} {k : Nat} {x : ByteArray} (hx : l[k]? = some x) (hp : p x = true) : l.any p = true := List.any_eq_true.2 ⟨x, List.mem_of_getElem? hx, hp⟩

theorem pred1_calls (w : World) (x : ByteArray) : Calls Tryz.prog 119 #[.string x] w fun e w' => e = .returned (.bool (badS x)) ∧ Below w.heap.size w w' := by
  go_enter Tryz.func119, Tryz.ntmps119
  go_wp2_with (go_at_call 120; refine (name_calls _ x).mono ?_; rintro e w1 ⟨rfl, hb1⟩)
  go_ret
  exact ⟨rfl, hb1⟩

theorem idx1_calls (w : World) (v : Value) (l : List ByteArray) (h : Rd w 1 encS v l) (hn : l.length ≤ 8796093022208) :
    Calls Tryz.prog 160 #[v, .func (.func 119) #[] #[]] w fun e w' => (∃ i : Int, e = .returned (.int .i64 i) ∧ Sign (l.any badS) i) ∧ Below w.heap.size w w' := by
  obtain ⟨ao, cap, rfl, _, _, hcell⟩ := rd_cellsS h
  have Hcell := Lib.hid hcell; clear hcell h
  go_enter Tryz.func160, Tryz.ntmps160
  go_wp2
  go_loopw [8] (fun i wr => ∃ k : Nat, k ≤ l.length ∧ i = .int .i64 k ∧ Below w.heap.size w wr ∧ (l.take k).any badS = false) (fun i _ => l.length - (intOf i).toNat)
  case atStart => exact ⟨0, Nat.zero_le _, rfl, Below.refl _ _, rfl⟩
  case round =>
    obtain ⟨k, hk, rfl, hb, hnone⟩ := hrel
    have Hnone := Lib.hid hnone; clear hnone
    by_cases hlt : k < l.length
    · obtain ⟨x, hx⟩ : ∃ x, l[k]? = some x := ⟨l[k], by simp [hlt]⟩
      obtain ⟨b, off, rfl, hbl, c0⟩ := Hcell.out wr hb k x hx
      have Hx := Lib.hid hx; clear hx
      have hp := pred1_calls wr x
      cases hbad : badS x
      · rw [hbad] at hp
        have Hbad := Lib.hid hbad; clear hbad
        go_wp2_with (go_at_call 119; refine hp.mono ?_; rintro e w1 ⟨rfl, hb1⟩)
        go_roundw
        case rel => exact ⟨k + 1, by omega, by go_num, hb.trans (hb1.mono hb.size), any_next Hx.out Hnone.out Hbad.out⟩
        case measure => simp [intOf]; omega
      · rw [hbad] at hp
        have hany := any_hit Hx.out hbad
        have Hany := Lib.hid hany; clear hbad hany
        go_wp2_with (go_at_call 119; refine hp.mono ?_; rintro e w1 ⟨rfl, hb1⟩)
        go_ret
        exact ⟨⟨k, rfl, ⟨fun _ => by omega, fun h => by rw [Hany.out] at h; cases h⟩⟩, hb.trans (hb1.mono hb.size)⟩
    · obtain rfl : k = l.length := by omega
      have h0 := Hnone.out
      rw [List.take_length] at h0
      have H0 := Lib.hid h0; clear h0
      go_wp2
      go_ret
      exact ⟨⟨-1, rfl, ⟨fun h => (by rw [H0.out] at h; cases h), fun _ => rfl⟩⟩, hb⟩

theorem has1_calls (w : World) (v : Value) (l : List ByteArray) (h : Rd w 1 encS v l) (hn : l.length ≤ 8796093022208) :
    Calls Tryz.prog 118 #[v, .func (.func 119) #[] #[]] w fun e w' => e = .returned (.bool (l.any badS)) ∧ Below w.heap.size w w' := by
  have hi := idx1_calls w v l h hn
  obtain ⟨ao, cap, rfl, _, _, _⟩ := rd_cellsS h
  cases ha : l.any badS
  · rw [ha] at hi
    clear ha h
    go_enter Tryz.func118, Tryz.ntmps118
    go_wp2_with (go_at_call 160; refine hi.mono ?_; rintro e w1 ⟨⟨i, rfl, hs⟩, hb1⟩; obtain rfl := hs.no rfl)
    go_ret
    exact ⟨rfl, hb1⟩
  · rw [ha] at hi
    clear ha h
    go_enter Tryz.func118, Tryz.ntmps118
    go_wp2_with (go_at_call 160; refine hi.mono ?_; rintro e w1 ⟨⟨i, rfl, hs⟩, hb1⟩; have hi0 := hs.yes rfl)
    go_ret
    exact ⟨rfl, hb1⟩

theorem pred2_calls (w : World) (x : ByteArray) : Calls Tryz.prog 204 #[.string x] w fun e w' => e = .returned (.bool (badS x)) ∧ Below w.heap.size w w' := by
  go_enter Tryz.func204, Tryz.ntmps204
  go_wp2_with (go_at_call 120; refine (name_calls _ x).mono ?_; rintro e w1 ⟨rfl, hb1⟩)
  go_ret
  exact ⟨rfl, hb1⟩

theorem idx2_calls (w : World) (v : Value) (l : List ByteArray) (h : Rd w 1 encS v l) (hn : l.length ≤ 8796093022208) :
    Calls Tryz.prog 160 #[v, .func (.func 204) #[] #[]] w fun e w' => (∃ i : Int, e = .returned (.int .i64 i) ∧ Sign (l.any badS) i) ∧ Below w.heap.size w w' := by
  obtain ⟨ao, cap, rfl, _, _, hcell⟩ := rd_cellsS h
  have Hcell := Lib.hid hcell; clear hcell h
  go_enter Tryz.func160, Tryz.ntmps160
  go_wp2
  go_loopw [8] (fun i wr => ∃ k : Nat, k ≤ l.length ∧ i = .int .i64 k ∧ Below w.heap.size w wr ∧ (l.take k).any badS = false) (fun i _ => l.length - (intOf i).toNat)
  case atStart => exact ⟨0, Nat.zero_le _, rfl, Below.refl _ _, rfl⟩
  case round =>
    obtain ⟨k, hk, rfl, hb, hnone⟩ := hrel
    have Hnone := Lib.hid hnone; clear hnone
    by_cases hlt : k < l.length
    · obtain ⟨x, hx⟩ : ∃ x, l[k]? = some x := ⟨l[k], by simp [hlt]⟩
      obtain ⟨b, off, rfl, hbl, c0⟩ := Hcell.out wr hb k x hx
      have Hx := Lib.hid hx; clear hx
      have hp := pred2_calls wr x
      cases hbad : badS x
      · rw [hbad] at hp
        have Hbad := Lib.hid hbad; clear hbad
        go_wp2_with (go_at_call 204; refine hp.mono ?_; rintro e w1 ⟨rfl, hb1⟩)
        go_roundw
        case rel => exact ⟨k + 1, by omega, by go_num, hb.trans (hb1.mono hb.size), any_next Hx.out Hnone.out Hbad.out⟩
        case measure => simp [intOf]; omega
      · rw [hbad] at hp
        have hany := any_hit Hx.out hbad
        have Hany := Lib.hid hany; clear hbad hany
        go_wp2_with (go_at_call 204; refine hp.mono ?_; rintro e w1 ⟨rfl, hb1⟩)
        go_ret
        exact ⟨⟨k, rfl, ⟨fun _ => by omega, fun h => by rw [Hany.out] at h; cases h⟩⟩, hb.trans (hb1.mono hb.size)⟩
    · obtain rfl : k = l.length := by omega
      have h0 := Hnone.out
      rw [List.take_length] at h0
      have H0 := Lib.hid h0; clear h0
      go_wp2
      go_ret
      exact ⟨⟨-1, rfl, ⟨fun h => (by rw [H0.out] at h; cases h), fun _ => rfl⟩⟩, hb⟩

theorem has2_calls (w : World) (v : Value) (l : List ByteArray) (h : Rd w 1 encS v l) (hn : l.length ≤ 8796093022208) :
    Calls Tryz.prog 118 #[v, .func (.func 204) #[] #[]] w fun e w' => e = .returned (.bool (l.any badS)) ∧ Below w.heap.size w w' := by
  have hi := idx2_calls w v l h hn
  obtain ⟨ao, cap, rfl, _, _, _⟩ := rd_cellsS h
  cases ha : l.any badS
  · rw [ha] at hi
    clear ha h
    go_enter Tryz.func118, Tryz.ntmps118
    go_wp2_with (go_at_call 160; refine hi.mono ?_; rintro e w1 ⟨⟨i, rfl, hs⟩, hb1⟩; obtain rfl := hs.no rfl)
    go_ret
    exact ⟨rfl, hb1⟩
  · rw [ha] at hi
    clear ha h
    go_enter Tryz.func118, Tryz.ntmps118
    go_wp2_with (go_at_call 160; refine hi.mono ?_; rintro e w1 ⟨⟨i, rfl, hs⟩, hb1⟩; have hi0 := hs.yes rfl)
    go_ret
    exact ⟨rfl, hb1⟩
end Go.Proofs.YtdfckkadmgmcaaaGreatDoor.Path

/- Paths: path.Split. -/
namespace Go.Proofs.YtdfckkadmgmcaaaGreatDoor.Path
open Go.RowKit
set_option linter.unusedSimpArgs false

/-- The library's own bound holds some number. -/
structure MaxC (w : World) : Prop where
  ex : ∃ m, w.cell? ⟨0, 0, none⟩ = some (.int .i64 m)
theorem MaxC.lt {w : World} (h : MaxC w) : 0 < w.heap.size := by
  obtain ⟨m, hm⟩ := h.ex
  exact World.block_lt_of_cell? w _ hm
theorem MaxC.below {w w' : World} (h : MaxC w) (hb : Below w.heap.size w w') : MaxC w' := by
  obtain ⟨m, hm⟩ := h.ex
  exact ⟨m, (hb.cell (p := ⟨0, 0, none⟩) h.lt).trans hm⟩

theorem pieces_eq (t : ByteArray) : Lib.splitB ⟨#[47]⟩ 0 (Lib.countB t ⟨#[47]⟩) t = (cutL (bs t)).map mk := by
  have h1 := Lib.splitB_data ⟨#[47]⟩ 0 (Lib.countB t ⟨#[47]⟩) t
  have h2 : Lib.countB t ⟨#[47]⟩ = (bs t).count 47 := by
    rw [← Lib.count_one]; rfl
  rw [h2] at h1 ⊢
  have h3 : (Lib.splitB ⟨#[47]⟩ 0 ((bs t).count 47) t).map bs = cutL (bs t) := h1.trans (split_cut (bs t))
  rw [← h3, List.map_map]
  conv => lhs; rw [← List.map_id (Lib.splitB ⟨#[47]⟩ 0 ((bs t).count 47) t)]
  exact List.map_congr_left fun x _ => (mk_bs x).symm
theorem any_bad (ns : List Bs) : (ns.map mk).any badS = !(ns.all nameL) := by
  induction ns with
  | nil => rfl
  | cons x t ih => rw [List.map_cons, List.any_cons, List.all_cons, ih, badS, bs_mk, Bool.not_and]

theorem spl_calls (w : World) (t : ByteArray) (hM : MaxC w) (hs : t.size ≤ 1000000) :
    Calls Tryz.prog 117 #[.string t, .string ⟨#[47]⟩] w fun e w' => e = .returned (.slice (some ⟨w.heap.size, 0, none⟩) (cutL (bs t)).length (cutL (bs t)).length) ∧ OwnS w w' (.slice (some ⟨w.heap.size, 0, none⟩) (cutL (bs t)).length (cutL (bs t)).length) ((cutL (bs t)).map mk) ∧ Below w.heap.size w w' := by
  obtain ⟨m, hm⟩ := hM.ex
  have hlen := Lib.splitB_all ⟨#[47]⟩ (by decide) 0 _ t rfl
  refine (Tryz.strings_Split t ⟨#[47]⟩ m w (by omega) hm (by decide)).mono ?_
  rintro e w' ⟨rfl, rfl⟩
  rw [← hlen, pieces_eq t, List.length_map]
  have hle : (cutL (bs t)).length ≤ t.size + 1 := by
    have := Lib.countB_le ⟨#[47]⟩ (by decide) t.size t (Nat.le_refl _)
    rw [pieces_eq t, List.length_map] at hlen
    omega
  refine ⟨rfl, ⟨?_, fun g hg => ?_⟩, (Below.refl _ _).alloc (Nat.le_refl _) _⟩
  · rw [List.length_map]
    refine ⟨by rw [flatS_len, List.length_map, Nat.mul_one], .inr ⟨w.heap.size, _, _, rfl, Nat.zero_le _, heap_alloc_new w _, Nat.le_refl _, by unfold maxLen; omega, by simp, ?_⟩⟩
    rw [flatS_map]
    simp only [Nat.mul_one, List.map_map]
    exact List.take_of_length_le (by simp)
  · simp only [Value.ownBlock, Option.some.injEq] at hg
    omega

theorem tail_bs (p : ByteArray) : (bs p).tail = bs (p.extract 1 p.size) := by
  rw [bs, bs, Lib.extract_to_end, List.drop_one]
theorem cut_len : ∀ s : Bs, (cutL s).length ≤ s.length + 1
  | [] => by simp [cutL]
  | b :: t => by
    have ih := cut_len t
    by_cases hb : b = 47
    · subst hb
      rw [cut_slash]; simp; omega
    · cases h : cutL t with
      | nil => exact absurd h (cut_ne t)
      | cons x r => rw [cut_other hb h]; rw [h] at ih; simp at ih ⊢; omega
/-- Which way a text goes. -/
theorem split_ways (p : ByteArray) :
    (120 < (p.size : Int) ∧ splitE (bs p) = 4) ∨
    (¬ 120 < (p.size : Int) ∧ (p.toList == [47]) = true ∧ splitE (bs p) = 0 ∧ splitL (bs p) = []) ∨
    (¬ 120 < (p.size : Int) ∧ (p.toList == [47]) = false ∧ p.toList.isEmpty = true ∧ splitE (bs p) = 1) ∨
    (¬ 120 < (p.size : Int) ∧ (p.toList == [47]) = false ∧ p.toList.isEmpty = false ∧ splitE (bs p) = 1 ∧ ∃ h : 0 < p.size, ((p[0].toNat : Int) != 47) = true) ∨
    (¬ 120 < (p.size : Int) ∧ (p.toList == [47]) = false ∧ p.toList.isEmpty = false ∧ (∃ h : 0 < p.size, ((p[0].toNat : Int) != 47) = false) ∧
      splitE (bs p) = (if (cutL (bs (p.extract 1 p.size))).all nameL = true then (if 6 < (cutL (bs (p.extract 1 p.size))).length then 4 else 0) else 1) ∧ splitL (bs p) = if splitE (bs p) = 0 then cutL (bs (p.extract 1 p.size)) else []) := by
  have hl := bs_len p
  rw [tl_bs]
  by_cases h1 : 120 < (bs p).length
  · exact .inl ⟨by omega, by rw [splitE, if_pos h1]⟩
  · by_cases h2 : bs p = [47]
    · exact .inr (.inl ⟨by omega, by rw [h2]; rfl, by rw [h2]; decide, by rw [h2]; decide⟩)
    · have h2' : (bs p == [47]) = false := by simpa using h2
      by_cases h3 : bs p = []
      · exact .inr (.inr (.inl ⟨by omega, h2', by rw [h3]; rfl, by rw [h3]; decide⟩))
      · have h3' : (bs p).isEmpty = false := by simpa using h3
        have h0 : 0 < p.size := by have := List.length_pos_iff.2 h3; omega
        have hb := bs_get h0
        have hhead : (bs p).head? = some p[0] := by rw [List.head?_eq_getElem?]; exact hb
        by_cases h4 : p[0] = 47
        · refine .inr (.inr (.inr (.inr ⟨by omega, h2', h3', ⟨h0, by rw [h4]; rfl⟩, ?_, ?_⟩)))
          · rw [splitE, if_neg h1, if_neg h2, if_pos (by rw [hhead, h4])]
            have e := congrArg cutL (tail_bs p)
            simp only [e]
          · rw [splitL]
            split
            · exact congrArg cutL (tail_bs p)
            · rfl
        · refine .inr (.inr (.inr (.inl ⟨by omega, h2', h3', ?_, h0, ?_⟩)))
          · rw [splitE, if_neg h1, if_neg h2, if_neg (by rw [hhead]; simpa using h4)]
          · refine bne_iff_ne.2 fun e => h4 ?_
            rw [← UInt8.toNat_inj]
            have : p[0].toNat = 47 := by omega
            rw [this]; rfl

def SplPost (w : World) (k : Int) (q : List ByteArray) (e : Ending) (w' : World) : Prop :=
  ∃ v', e = .returned (.tuple #[v', .int .i64 k]) ∧ OwnS w w' v' q ∧ Below w.heap.size w w'

set_option maxHeartbeats 2000000 in
theorem split_calls (w : World) (p : ByteArray) (hM : MaxC w) :
    Calls Tryz.prog 72 #[.string p] w (SplPost w (splitE (bs p)) ((splitL (bs p)).map mk)) := by
  rcases split_ways p with ⟨h1, hE⟩ | ⟨h1, h2, hE, hL⟩ | ⟨h1, h2, h3, hE⟩ | ⟨h1, h2, h3, hE, h0, h4⟩ | ⟨h1, h2, h3, ⟨h0, h4⟩, hE, hL⟩
  · rw [hE, split_bad (by rw [hE]; decide)]
    clear hE
    go_enter Tryz.func72, Tryz.ntmps72
    go_wp2_with (fail)
    go_ret2
    exact ⟨_, rfl, OwnS.nil _ _, Below.refl _ _⟩
  · rw [hE, hL]
    clear hE hL
    go_enter Tryz.func72, Tryz.ntmps72
    go_wp2_with (fail)
    go_ret2
    exact ⟨_, rfl, OwnS.nil _ _, Below.refl _ _⟩
  · rw [hE, split_bad (by rw [hE]; decide)]
    clear hE
    go_enter Tryz.func72, Tryz.ntmps72
    go_wp2_with (fail)
    go_ret2
    exact ⟨_, rfl, OwnS.nil _ _, Below.refl _ _⟩
  · rw [hE, split_bad (by rw [hE]; decide)]
    clear hE
    go_enter Tryz.func72, Tryz.ntmps72
    go_wp2_with (fail)
    go_ret2
    exact ⟨_, rfl, OwnS.nil _ _, Below.refl _ _⟩
  · have hsp := spl_calls w (p.extract 1 p.size) hM (by simp; omega)
    rw [hL, hE]
    have hany := any_bad (cutL (bs (p.extract 1 p.size)))
    have hql : (cutL (bs (p.extract 1 p.size))).length ≤ 1000 := by
      have := cut_len (bs (p.extract 1 p.size))
      rw [bs_len] at this
      simp at this
      omega
    generalize cutL (bs (p.extract 1 p.size)) = q at *
    clear hE hL
    cases ha : q.all nameL
    · rw [ha] at hany
      rw [if_neg (by simp), if_neg (by decide)]
      clear ha
      go_enter Tryz.func72, Tryz.ntmps72
      go_wp2_with (fail)
      refine hsp.mono ?_
      rintro e w1 ⟨rfl, hO1, hb1⟩
      have hh := has1_calls w1 _ _ hO1.rd (by simp; omega)
      rw [hany] at hh
      go_wp2_with (fail)
      refine hh.mono ?_
      rintro e w2 ⟨rfl, hb2⟩
      go_wp2_with (fail)
      go_ret2
      exact ⟨_, rfl, OwnS.nil _ _, hb1.trans (hb2.mono hb1.size)⟩
    · rw [ha] at hany
      rw [if_pos rfl]
      clear ha
      by_cases h6 : 6 < q.length
      · rw [if_pos h6, if_neg (by decide)]
        go_enter Tryz.func72, Tryz.ntmps72
        go_wp2_with (fail)
        refine hsp.mono ?_
        rintro e w1 ⟨rfl, hO1, hb1⟩
        have hh := has1_calls w1 _ _ hO1.rd (by simp; omega)
        rw [hany] at hh
        go_wp2_with (fail)
        refine hh.mono ?_
        rintro e w2 ⟨rfl, hb2⟩
        have h6' : 6 < (q.length : Int) := by omega
        go_wp2_with (fail)
        go_ret2
        exact ⟨_, rfl, OwnS.nil _ _, hb1.trans (hb2.mono hb1.size)⟩
      · rw [if_neg h6, if_pos rfl]
        go_enter Tryz.func72, Tryz.ntmps72
        go_wp2_with (fail)
        refine hsp.mono ?_
        rintro e w1 ⟨rfl, hO1, hb1⟩
        have hh := has1_calls w1 _ _ hO1.rd (by simp; omega)
        rw [hany] at hh
        go_wp2_with (fail)
        refine hh.mono ?_
        rintro e w2 ⟨rfl, hb2⟩
        have h6' : ¬ 6 < (q.length : Int) := by omega
        have hO2 := below_ownsRow hb2 hO1.own (fun g hg => (hO1.own.lt g hg).2)
        have Hn := hO1.new
        have HN := Lib.hid Hn; clear Hn hO1
        have HO2 := Lib.hid hO2; clear hO2
        go_wp2_with (fail)
        go_ret2
        exact ⟨_, rfl, ⟨HO2.out, HN.out⟩, hb1.trans (hb2.mono hb1.size)⟩
end Go.Proofs.YtdfckkadmgmcaaaGreatDoor.Path

/- Paths: path.Join. -/
namespace Go.Proofs.YtdfckkadmgmcaaaGreatDoor.Path
open Go.RowKit
set_option linter.unusedSimpArgs false

theorem inter_len (ns : List Bs) (h : ∀ n ∈ ns, n.length ≤ 20) : ([(47 : UInt8)].intercalate ns).length ≤ ns.length * 21 := by
  induction ns with
  | nil => simp [inter_nil]
  | cons x r ih =>
    cases r with
    | nil => rw [inter_one]; have := h x (by simp); simp; omega
    | cons y r =>
      rw [inter_cons, List.length_append, List.length_cons]
      have h1 := h x (by simp)
      have h2 := ih (fun n hn => h n (List.mem_cons_of_mem _ hn))
      simp only [List.length_cons] at h2 ⊢
      omega
theorem any_bad' (ns : List ByteArray) : ns.any badS = !((ns.map bs).all nameL) := by
  rw [← any_bad, List.map_map]
  congr 1
  conv => lhs; rw [← List.map_id ns]
  exact List.map_congr_left fun x _ => (mk_bs x).symm

theorem sjoin_calls (w : World) (v : Value) (ns : List ByteArray) (h : Rd w 1 encS v ns) (hn : ns.length ≤ 6000000000000) (hok : ∀ n ∈ ns, (bs n).length ≤ 20) :
    Calls Tryz.prog 205 #[v, .string ⟨#[47]⟩] w fun e w' => e = .returned (.string (mk ([(47 : UInt8)].intercalate (ns.map bs)))) ∧ Below w.heap.size w w' := by
  obtain ⟨ao, cap, rfl, hcap, _, hcell⟩ := rd_cellsS h
  by_cases h0 : ns = []
  · subst h0
    refine (Tryz.strings_Join_none ao cap ⟨#[47]⟩ w).mono ?_
    rintro e w' ⟨rfl, rfl⟩
    exact ⟨rfl, Below.refl _ _⟩
  · obtain ⟨x, t, rfl⟩ := List.exists_cons_of_ne_nil h0
    obtain ⟨b, off, rfl, hlt, _⟩ := hcell w (Below.refl _ _) 0 x rfl
    have hj : Lib.join ((x :: t).map (·.data.toList)) [47] = [(47 : UInt8)].intercalate ((x :: t).map bs) := rfl
    have hlen := inter_len ((x :: t).map bs) (fun n hn => by
      obtain ⟨y, hy, rfl⟩ := List.mem_map.1 hn
      exact hok y hy)
    rw [List.length_map] at hlen
    refine (Tryz.strings_Join b off cap (x :: t) ⟨#[47]⟩ w (fun j y hy => ?_) hlt (by omega) hcap (by rw [hj]; omega)).mono ?_
    · obtain ⟨b', off', e, _, hc⟩ := hcell w (Below.refl _ _) j y hy
      cases e
      exact hc
    · rintro e w' ⟨rfl, hb⟩
      exact ⟨rfl, hb⟩

theorem slash_cat (J : Bs) : (⟨#[47]⟩ : ByteArray) ++ mk J = mk (47 :: J) := by
  apply bs_inj
  rw [bs_mk]
  have : bs (⟨#[47]⟩ ++ mk J) = bs ⟨#[47]⟩ ++ bs (mk J) := by simp [bs]
  rw [this, bs_mk]
  rfl
/-- Which way names go. -/
theorem join_ways (ns : List Bs) :
    (ns.all nameL = false ∧ joinE ns = 1) ∨ (ns.all nameL = true ∧ 6 < (ns.length : Int) ∧ joinE ns = 4) ∨ (ns.all nameL = true ∧ ¬ 6 < (ns.length : Int) ∧ 120 < ((joinP ns).length : Int) ∧ joinE ns = 4) ∨
    (ns.all nameL = true ∧ ¬ 6 < (ns.length : Int) ∧ ¬ 120 < ((joinP ns).length : Int) ∧ joinE ns = 0) := by
  cases h : ns.all nameL
  · exact .inl ⟨rfl, by rw [joinE, if_neg (by rw [h]; simp)]⟩
  · by_cases h6 : 6 < ns.length
    · exact .inr (.inl ⟨rfl, by omega, by rw [joinE, if_pos h, if_pos (.inl h6)]⟩)
    · by_cases h120 : 120 < (joinP ns).length
      · exact .inr (.inr (.inl ⟨rfl, by omega, by omega, by rw [joinE, if_pos h, if_pos (.inr h120)]⟩))
      · exact .inr (.inr (.inr ⟨rfl, by omega, by omega, by rw [joinE, if_pos h, if_neg (by omega)]⟩))
theorem join_bad {ns : List Bs} (h : joinE ns ≠ 0) : joinS ns = [] := if_neg h
def JoinPost (w : World) (k : Int) (q : Bs) (e : Ending) (w' : World) : Prop :=
  e = .returned (.tuple #[.string (mk q), .int .i64 k]) ∧ Below w.heap.size w w'

set_option maxHeartbeats 2000000 in
theorem join_calls (w : World) (v : Value) (ns : List ByteArray) (h : Rd w 1 encS v ns) (hn : ns.length ≤ 6000000000000) :
    Calls Tryz.prog 178 #[v] w (JoinPost w (joinE (ns.map bs)) (joinS (ns.map bs))) := by
  have hany := any_bad' ns
  rcases join_ways (ns.map bs) with ⟨ha, hE⟩ | ⟨ha, h6, hE⟩ | ⟨ha, h6, h120, hE⟩ | ⟨ha, h6, h120, hE⟩
  · rw [hE, join_bad (by rw [hE]; decide)]
    have hh := fun W (hW : Below w.heap.size w W) => has2_calls W v ns (h.below hW (Nat.le_refl _)) (by omega)
    rw [hany, ha] at hh
    clear hany ha hE
    have Hh := Lib.hid hh; clear hh
    obtain ⟨ao, cap, rfl, _, _, _⟩ := rd_cellsS h
    clear h
    go_enter Tryz.func178, Tryz.ntmps178
    go_wp2_with (fail)
    refine (Hh.out _ (Below.refl _ _)).mono ?_
    rintro e w1 ⟨rfl, hb1⟩
    go_wp2_with (fail)
    go_ret2
    exact ⟨rfl, hb1⟩
  all_goals
    have hall : ∀ n ∈ ns, (bs n).length ≤ 20 := fun n hn => name_len (List.all_eq_true.1 ha _ (List.mem_map_of_mem hn))
    have hh := has2_calls w v ns h (by omega)
    have hs := fun W (hW : Below w.heap.size w W) => sjoin_calls W v ns (h.below hW (Nat.le_refl _)) (by omega) hall
    rw [hany, ha] at hh
    rw [List.length_map] at h6
    have hJ : joinP (ns.map bs) = 47 :: [(47 : UInt8)].intercalate (ns.map bs) := rfl
    have hJl := inter_len (ns.map bs) (fun n hn => by
      obtain ⟨y, hy, rfl⟩ := List.mem_map.1 hn
      exact hall y hy)
    rw [List.length_map] at hJl
    rw [hE]
    try rw [join_bad (by rw [hE]; decide)]
    try rw [show joinS (ns.map bs) = joinP (ns.map bs) from if_pos hE]
    try rw [hJ]
    have hP : ((joinP (ns.map bs)).length : Int) = 1 + (([(47 : UInt8)].intercalate (ns.map bs)).length : Int) := by rw [hJ, List.length_cons]; omega
    try rw [hP] at h120
    clear hP
    generalize [(47 : UInt8)].intercalate (ns.map bs) = J at *
    clear hany ha hE hall hJ
    have hsz := mk_size J
    have hcat := slash_cat J
    have Hcat := Lib.hid hcat; clear hcat
    have Hs := Lib.hid hs; clear hs
    obtain ⟨ao, cap, rfl, _, _, _⟩ := rd_cellsS h
    clear h
    have hbig : ¬ 9223372036854775807 < 1 + (mk J).size := by omega
    go_enter Tryz.func178, Tryz.ntmps178
    go_wp2_with (fail)
    refine hh.mono ?_
    rintro e w1 ⟨rfl, hb1⟩
    go_wp2_with (fail)
    refine (Hs.out _ hb1).mono ?_
    rintro e w2 ⟨rfl, hb2⟩
  · go_wp2_with (fail)
    go_ret2
    exact ⟨rfl, hb1.trans (hb2.mono hb1.size)⟩
  · have h120' : 120 < 1 + ((mk J).size : Int) := by omega
    go_wp2_with (fail)
    go_ret2
    exact ⟨rfl, hb1.trans (hb2.mono hb1.size)⟩
  · have h120' : ¬ 120 < 1 + ((mk J).size : Int) := by omega
    go_wp2_with (fail)
    go_ret2
    refine ⟨?_, hb1.trans (hb2.mono hb1.size)⟩
    rw [← Hcat.out]
    rfl
end Go.Proofs.YtdfckkadmgmcaaaGreatDoor.Path

/- Paths: path.Under. -/
namespace Go.Proofs.YtdfckkadmgmcaaaGreatDoor.Path
open Go.RowKit
set_option linter.unusedSimpArgs false

theorem under_ways (a b : Bs) :
    (splitE a ≠ 0 ∧ underL a b = false) ∨ (splitE a = 0 ∧ splitE b ≠ 0 ∧ underL a b = false) ∨
    (splitE a = 0 ∧ splitE b = 0 ∧ (splitL b).length < (splitL a).length ∧ underL a b = false) ∨
    (splitE a = 0 ∧ splitE b = 0 ∧ ¬ (splitL b).length < (splitL a).length ∧ underL a b = (splitL a).isPrefixOf (splitL b)) := by
  by_cases h1 : splitE a = 0
  · by_cases h2 : splitE b = 0
    · by_cases h3 : (splitL b).length < (splitL a).length
      · refine .inr (.inr (.inl ⟨h1, h2, h3, ?_⟩))
        rw [underL]
        cases h : (splitL a).isPrefixOf (splitL b)
        · simp
        · have := (List.isPrefixOf_iff_prefix.1 h).length_le
          omega
      · exact .inr (.inr (.inr ⟨h1, h2, h3, by rw [underL, h1, h2]; simp⟩))
    · exact .inr (.inl ⟨h1, h2, by rw [underL]; simp [h2]⟩)
  · exact .inl ⟨h1, by rw [underL]; simp [h1]⟩
theorem pre_all {L M : List Bs} (h : L = M.take L.length) : L.isPrefixOf M = true := by
  rw [List.isPrefixOf_iff_prefix, h]
  exact List.take_prefix _ _
theorem pre_not {L M : List Bs} {k : Nat} {x y : Bs} (hx : L[k]? = some x) (hy : M[k]? = some y) (hne : x ≠ y) : L.isPrefixOf M = false := by
  rw [Bool.eq_false_iff]
  intro h
  obtain ⟨t, rfl⟩ := List.isPrefixOf_iff_prefix.1 h
  have hk := (List.getElem?_eq_some_iff.1 hx).1
  rw [List.getElem?_append_left hk, hx] at hy
  exact hne (Option.some.inj hy)
theorem split_six (p : Bs) : (splitL p).length ≤ 6 := by
  by_cases h : splitE p = 0
  · exact (joinE_ok.1 (split_ok h).1).2.1
  · rw [split_bad h]; simp

set_option maxHeartbeats 4000000 in
theorem under_calls (w : World) (a b : ByteArray) (hM : MaxC w) :
    Calls Tryz.prog 141 #[.string a, .string b] w fun e w' => e = .returned (.bool (underL (bs a) (bs b))) ∧ Below w.heap.size w w' := by
  have h1 := split_calls w a hM
  have h2 := fun W (hW : Below w.heap.size w W) => split_calls W b (hM.below hW)
  have hl1 := split_six (bs a)
  have hl2 := split_six (bs b)
  have ways := under_ways (bs a) (bs b)
  generalize underL (bs a) (bs b) = u at *
  generalize splitE (bs a) = E at *
  generalize splitE (bs b) = F at *
  generalize splitL (bs a) = L at *
  generalize splitL (bs b) = M at *
  have H2 := Lib.hid h2; clear h2 hM
  rcases ways with ⟨hE, rfl⟩ | ⟨hE, hF, rfl⟩ | ⟨hE, hF, hlt, rfl⟩ | ⟨hE, hF, hge, hu⟩
  focus
    have q1 : (E != 0) = true := bne_iff_ne.2 hE
  rotate_left
  focus
    subst hE
    have q2 : (F != 0) = true := bne_iff_ne.2 hF
  rotate_left
  focus
    subst hE hF
    have q3 : (M.length : Int) < (L.length : Int) := by omega
  rotate_left
  focus
    subst hE hF
    have q3 : ¬ (M.length : Int) < (L.length : Int) := by omega
    have Hu := Lib.hid hu; clear hu
  rotate_left
  all_goals
    go_enter Tryz.func141, Tryz.ntmps141
    go_wp2_with (fail)
    go_step3
    go_wp2_with (fail)
    refine h1.mono ?_
    rintro e w1 ⟨v1, rfl, hO1, hb1⟩
    go_wp2_with (fail)
    refine (H2.out _ hb1).mono ?_
    rintro e w2 ⟨v2, rfl, hO2, hb2⟩
    have hB2 := hb1.trans (hb2.mono hb1.size)
    obtain ⟨a1, c1, rfl, _, _, hc1⟩ := rd_cellsS (hO1.rd.below hb2 (Nat.le_refl _))
    obtain ⟨a2, c2, rfl, _, _, hc2⟩ := rd_cellsS hO2.rd
    rw [List.length_map] at *
    have Hc1 := Lib.hid hc1; have Hc2 := Lib.hid hc2; clear hc1 hc2 hO1 hO2
    go_wp2_with (fail)
  rotate_left
  rotate_left
  rotate_left
  focus
    go_step3
    go_wp2_with (fail)
    go_loopw [36] (fun vk wr => ∃ k : Nat, vk = .int .i64 k ∧ k ≤ L.length ∧ L.take k = M.take k ∧ Below w2.heap.size w2 wr) (fun vk _ => L.length - (intOf vk).toNat)
    case atStart => exact ⟨0, rfl, Nat.zero_le _, rfl, Below.refl _ _⟩
    case round =>
      obtain ⟨k, rfl, hk, heq, hb⟩ := hrel
      have Heq := Lib.hid heq; clear heq
      by_cases hlt : k < L.length
      · have hlt2 : k < M.length := by omega
        obtain ⟨x, hx⟩ : ∃ x, L[k]? = some x := ⟨L[k], by simp [hlt]⟩
        obtain ⟨y, hy⟩ : ∃ y, M[k]? = some y := ⟨M[k], by simp [hlt2]⟩
        obtain ⟨b1, o1, rfl, _, d1⟩ := Hc1.out wr hb k (mk x) (by simp [hx])
        obtain ⟨b2, o2, rfl, _, d2⟩ := Hc2.out wr hb k (mk y) (by simp [hy])
        have Hx := Lib.hid hx; have Hy := Lib.hid hy; clear hx hy
        by_cases hxy : x = y
        · subst hxy
          have hn : L.take (k + 1) = M.take (k + 1) := by rw [List.take_add_one, List.take_add_one, Heq.out, Hx.out, Hy.out]
          have Hn := Lib.hid hn; clear hn
          go_wp2_with (fail)
          go_roundw
          case rel => exact ⟨k + 1, by go_num, by omega, Hn.out, hb⟩
          case measure => simp [intOf]; omega
        · have hn := pre_not Hx.out Hy.out hxy
          have Hn := Lib.hid hn; clear hn
          have z1 : ((mk x).toList == (mk y).toList) = false := by rw [tl_bs, tl_bs, bs_mk, bs_mk]; simpa using hxy
          have Hxy := Lib.hid hxy; clear hxy
          go_wp2_with (fail)
          rw [Exit.noGoto_ret]
          go_ret
          exact ⟨ret_bool (Hu.out.trans Hn.out).symm, hB2.trans (hb.mono hB2.size)⟩
      · obtain rfl : k = L.length := by omega
        have he := Heq.out
        rw [List.take_length] at he
        have hn := pre_all he
        have Hn := Lib.hid hn; clear hn he
        go_wp2_with (fail)
        rw [Exit.noGoto_ret]
        go_ret
        exact ⟨ret_bool (Hu.out.trans Hn.out).symm, hB2.trans (hb.mono hB2.size)⟩
  all_goals
    rw [Exit.noGoto_ret]
    go_ret
    exact ⟨rfl, hB2⟩
end Go.Proofs.YtdfckkadmgmcaaaGreatDoor.Path

/- Paths: slices.Grow, slices.Concat at texts. -/
namespace Go.Proofs.YtdfckkadmgmcaaaGreatDoor.Path
open Go.RowKit
set_option linter.unusedSimpArgs false

section
variable {P : Program} {t e : TypeId} {size bytes : Nat} {w : World} {o : Oper} {a : Act} {ops : Array Oper} {rest : List Oper} {Q : Exit → Act → World → Prop} {K : Act → World → Prop} {E : Prop}
/-- append([]T(nil), make([]T, k)...): a new row. -/
theorem run_zeros0 (T : ET P t e size bytes) {tn : TypeId} (htn : P.underlying tn = some (.int .i64)) {k : Nat} (hk : 0 < k) (hb : k * bytes ≤ 140737488355328) (h63 : k ≤ maxLen) (ty : TypeId) :
    ∃ w' cap' cur, (Builtin.append_ #[t, tn] ty #[.slice none 0 0, .int .i64 (k : Int)]).run P w = .ok (.slice (some ⟨w.heap.size, 0, none⟩) k cap') w' ∧
      w'.heap[w.heap.size]? = some (.cells cur e (0, 0)) ∧ cur.size = cap' * size ∧ k ≤ cap' ∧ cap' ≤ maxLen ∧ Below w.heap.size w w' ∧ w.heap.size < w'.heap.size := by
  obtain ⟨inf, z, hi0, hz0, hz1, hz2, hz3, hone⟩ := T.inf
  have hp := T.pos
  have hge := grownCap_ge w k 0 e
  have hcm := grownCap_le_maxLen w k 0 e h63
  have h63' := h63
  unfold maxLen at h63'
  have hw : IntKind.i64.wrap (k : Int) = k := by rw [IntKind.wrap_i64]; omega
  have hneg : ¬ ((k : Int) < 0) := by omega
  have h48i : ¬ (281474976710656 < (k : Int) * (bytes : Int)) := by rw [← Int.natCast_mul]; omega
  have hns : ¬ (k * size = 0) := Nat.mul_ne_zero (by omega) (by omega)
  have hk0 : ¬ (k = 0) := by omega
  have hmx : ¬ (9223372036854775807 < (k : Int)) := by omega
  have h48 : ¬ (281474976710656 < Builtin.nextslicecap k 0 * bytes) := by
    have := growslice_fits (need := k) (old := 0) (by omega) hb
    omega
  refine ⟨w.drew.alloc (.cells (Builtin.zeroCells z.cells k ++ Builtin.zeroCells z.cells (grownCap w k 0 e - k)) e), grownCap w k 0 e, _, ?_, heap_alloc_new w.drew _, ?_, hge, hcm, (Below.refl _ w).drew.alloc (Nat.le_refl _) _, by simp⟩
  · subst hz2
    simp [Builtin.append_, run_underlying T.und, run_underlying htn, sizeOf, typeInfo, zeroValue, hi0, hz0, hz1, asInt, asIntOf, hw, hneg, hns, hk0, hmx, h48, h48i, Question.forced, newRow, grownCap, Builtin.firstCells]
  · simp only [Array.size_append, size_zeroCells, hz3, ← Nat.add_mul]
    congr 1; omega
theorem wpList_zeros0 (T : ET P t e size bytes) {tn : TypeId} (htn : P.underlying tn = some (.int .i64)) {k : Nat} (hk : 0 < k) (hb : k * bytes ≤ 140737488355328) (h63 : k ≤ maxLen)
    (hgd : o.guard = none) (s x : Operand) (ho : o.op = .call { callee := .builtin .append, args := #[s, x], argTypes := #[t, tn] }) (hs : a.eval s = .slice none 0 0) {kI : Int} (hx : a.eval x = .int .i64 kI) (hkI : kI = (k : Int))
    (h : ∀ w' cap' cur, w'.heap[w.heap.size]? = some (.cells cur e (0, 0)) → cur.size = cap' * size → k ≤ cap' → cap' ≤ maxLen → Below w.heap.size w w' → w.heap.size < w'.heap.size → wpList P ops Q rest (a.put o.dst (.slice (some ⟨w.heap.size, 0, none⟩) k cap')) w') : wpList P ops Q (o :: rest) a w := by
  subst hkI
  refine wpList_plain hgd fun K hK => ?_
  obtain ⟨w', cap', cur, hrun, h1, h2, h3, h4, h6, h7⟩ := run_zeros0 (w := w) T htn hk hb h63 o.type
  unfold Oper.wp execOp
  simp only [ho, resolve, invoke, builtin, Sem.run_bind, Sem.run_pure, Result.andThen_ok, List.map_toArray, List.map_cons, List.map_nil, hs, hx, hrun]
  exact hK _ _ (h w' cap' cur h1 h2 h3 h4 h6 h7)
end

/-- slices.Grow([]string(nil), n). -/
theorem grow_calls (w : World) (n : Nat) (hn : n ≤ 1000000) :
    Calls Tryz.prog 206 #[.slice none 0 0, .int .i64 (n : Int)] w fun e w' => ∃ v', e = .returned v' ∧ OwnS w w' v' [] ∧ Below w.heap.size w w' := by
  by_cases h0 : n = 0
  · subst h0
    go_enter Tryz.func206, Tryz.ntmps206
    go_wp2_with (fail)
    go_ret
    exact ⟨_, rfl, OwnS.nil _ _, Below.refl _ _⟩
  · have hpos : 0 < (n : Int) := by omega
    have hw : IntKind.i64.wrap (n : Int) = n := by rw [IntKind.wrap_i64]; omega
    go_enter Tryz.func206, Tryz.ntmps206
    go_wp2_with (at_builtin; (with_reducible refine wpList_zeros0 etS Tryz.underlying3 (k := n) (by omega) (by omega) (by unfold maxLen; omega) rfl (.tmp 20) (.tmp 21) rfl rfl rfl rfl ?_); intro w1 cap1 cur1 hg1 hs1 hc1 hm1 hb1 hl1; have Hg1 := Lib.hid hg1; clear hg1)
    go_ret
    refine ⟨.slice (some ⟨w.heap.size, 0, none⟩) 0 cap1, rfl, ⟨⟨rfl, .inr ⟨w.heap.size, cap1, cur1, rfl, Nat.zero_le _, Hg1.out, Nat.zero_le _, hm1, hs1, rfl⟩⟩, fun g hg => ?_⟩, hb1⟩
    simp only [Value.ownBlock, Option.some.injEq] at hg
    omega

/-- A slice of texts, as it is handed on. -/
structure RdS (w : World) (v : Value) (l : List ByteArray) : Prop where
  rd : Rd w 1 encS v l
  z : ∀ n c, v = .slice none n c → c = 0
theorem RdS.below {w w' : World} {v : Value} {l : List ByteArray} (h : RdS w v l) (hb : Below w.heap.size w w') : RdS w' v l := ⟨h.rd.below hb (Nat.le_refl _), h.z⟩
theorem OwnS.rds {w w' : World} {v : Value} {q : List ByteArray} (h : OwnS w w' v q) : RdS w' v q := by
  refine ⟨h.rd, fun n c e => ?_⟩
  rcases h.own.2 with ⟨hv, _⟩ | ⟨g, cap, cur, hv, _⟩
  · rw [hv] at e; cases e; rfl
  · rw [hv] at e; cases e
theorem flatS_one (l : List ByteArray) : ∀ u ∈ flatS l, u.oneCell' = true := by
  intro u hu
  rw [flatS_map] at hu
  obtain ⟨x, _, rfl⟩ := List.mem_map.1 hu
  rfl
theorem flatS_append (l m : List ByteArray) : flatS (l ++ m) = flatS l ++ flatS m := by simp [flatS]
theorem rd_flatS {w : World} {v : Value} {l : List ByteArray} (h : Rd w 1 encS v l) {ad : Addr} {cap : Nat} (hv : v = .slice (some ad) l.length cap) : ∀ W, Below w.heap.size w W → ∀ j u, (flatS l)[j]? = some u → W.cell? (ad.add j) = some u := by
  intro W hW j u hu
  obtain ⟨ao, cap', hv', _, _, hcell⟩ := rd_cellsS h
  rw [hv] at hv'
  simp only [Value.slice.injEq, true_and] at hv'
  obtain ⟨rfl, rfl⟩ := hv'
  rw [flatS_map, List.getElem?_map, Option.map_eq_some_iff] at hu
  obtain ⟨x, hx, rfl⟩ := hu
  obtain ⟨b, off, e, _, hc⟩ := hcell W hW j x hx
  cases e
  rw [Addr.add_lit]
  exact hc

/-- What is there behind the first k of two lists. -/
def upTo (l1 l2 : List ByteArray) (k : Nat) : List ByteArray := if k = 0 then [] else if k = 1 then l1 else l1 ++ l2
def lenUp (l1 l2 : List ByteArray) (k : Nat) : Nat := if k = 0 then 0 else if k = 1 then l1.length else l1.length + l2.length

set_option maxHeartbeats 4000000 in
theorem conc_calls (w : World) (B : Nat) (s1 s2 : Value) (l1 l2 : List ByteArray) (hB : w.heap[B]? = some (.cells #[s1, s2] 32 (0, 0))) (h1 : RdS w s1 l1) (h2 : RdS w s2 l2) (hn : l1.length + l2.length ≤ 1000) :
    Calls Tryz.prog 179 #[.slice (some ⟨B, 0, none⟩) 2 2] w fun e w' => ∃ v', e = .returned v' ∧ OwnS w w' v' (l1 ++ l2) ∧ Below w.heap.size w w' := by
  have hBl := lt_of_block hB
  have c0 := fun W (hW : Below w.heap.size w W) => (hW.cell (p := ⟨B, 0, none⟩) hBl).trans (cell_of_blk (j := 0) hB)
  have c1 := fun W (hW : Below w.heap.size w W) => (hW.cell (p := ⟨B, 1, none⟩) hBl).trans (cell_of_blk (j := 1) hB)
  simp only [List.getElem?_toArray, List.getElem?_cons_zero, List.getElem?_cons_succ] at c0 c1
  have f1 := fun ad cap (hv : s1 = .slice (some ad) l1.length cap) => rd_flatS h1.rd hv
  have f2 := fun ad cap (hv : s2 = .slice (some ad) l2.length cap) => rd_flatS h2.rd hv
  have z1 := h1.z; have z2 := h2.z
  obtain ⟨a1, k1, rfl, _, _, e1⟩ := rd_cellsS h1.rd
  obtain ⟨a2, k2, rfl, _, _, e2⟩ := rd_cellsS h2.rd
  have n1 : a1 = none → l1.length = 0 ∧ k1 = 0 := fun e => by
    refine ⟨?_, z1 l1.length k1 (by rw [e])⟩
    cases hl : l1 with
    | nil => rfl
    | cons x t => obtain ⟨b, off, e', _⟩ := e1 w (Below.refl _ _) 0 x (by rw [hl]; rfl); rw [e] at e'; cases e'
  have n2 : a2 = none → l2.length = 0 ∧ k2 = 0 := fun e => by
    refine ⟨?_, z2 l2.length k2 (by rw [e])⟩
    cases hl : l2 with
    | nil => rfl
    | cons x t => obtain ⟨b, off, e', _⟩ := e2 w (Below.refl _ _) 0 x (by rw [hl]; rfl); rw [e] at e'; cases e'
  have F1 := Lib.hid (fun ad => f1 ad k1); have F2 := Lib.hid (fun ad => f2 ad k2); have N1 := Lib.hid n1; have N2 := Lib.hid n2; clear f1 f2 n1 n2 z1 z2 e1 e2 h1 h2
  have C0 := Lib.hid c0; have C1 := Lib.hid c1; clear c0 c1 hB
  go_enter Tryz.func179, Tryz.ntmps179
  go_wp2_with (fail)
  go_loopw [3, 11] (fun vs vk wr => ∃ k : Nat, vk = .int .i64 k ∧ k ≤ 2 ∧ vs = .int .i64 (lenUp l1 l2 k) ∧ wr = w) (fun _ vk _ => 2 - (intOf vk).toNat)
  case atStart => exact ⟨0, rfl, by omega, rfl, rfl⟩
  case round =>
    obtain ⟨k, rfl, hk, rfl, hwr⟩ := hrel
    obtain rfl : w = wr := hwr.symm
    rcases (by omega : k = 0 ∨ k = 1 ∨ k = 2) with rfl | rfl | rfl
    · have d := C0.out w (Below.refl _ _)
      have j1 : IntKind.i64.wrap (l1.length : Int) = l1.length := by rw [IntKind.wrap_i64]; omega
      have j2 : ¬ (l1.length : Int) < 0 := by omega
      have j0 : lenUp l1 l2 0 = 0 := rfl
      rw [j0]
      clear j0
      go_wp2_with (fail)
      go_roundw
      case rel => exact ⟨1, rfl, by omega, rfl, by trivial⟩
      case measure => simp [intOf]
    · have d := C1.out w (Below.refl _ _)
      have j1 : IntKind.i64.wrap ((l1.length : Int) + (l2.length : Int)) = l1.length + l2.length := by rw [IntKind.wrap_i64]; omega
      have j2 : ¬ (l1.length : Int) + (l2.length : Int) < 0 := by omega
      have j0 : lenUp l1 l2 1 = l1.length := rfl
      rw [j0]
      clear j0
      go_wp2_with (fail)
      go_roundw
      case rel => exact ⟨2, rfl, by omega, by rw [show lenUp l1 l2 2 = l1.length + l2.length from rfl]; push_cast; rfl, by trivial⟩
      case measure => simp [intOf]
    · have hg := grow_calls w (lenUp l1 l2 2) (by rw [show lenUp l1 l2 2 = l1.length + l2.length from rfl]; omega)
      generalize lenUp l1 l2 2 = n at *
      go_wp2_with (fail)
      refine hg.mono ?_
      rintro e w1 ⟨v1, rfl, hO1, hb1⟩
      go_wp2_with (fail)
      go_loopw [6, 27] (fun vo vk wr => ∃ k : Nat, vk = .int .i64 k ∧ k ≤ 2 ∧ OwnS w wr vo (upTo l1 l2 k) ∧ Below w.heap.size w wr) (fun _ vk _ => 2 - (intOf vk).toNat)
      case atStart => exact ⟨0, rfl, by omega, hO1, hb1⟩
      case round =>
        obtain ⟨k, rfl, hk, hO, hb⟩ := hrel
        clear hO1 hb1
        have hsz := hb.size
        rcases (by omega : k = 0 ∨ k = 1 ∨ k = 2) with rfl | rfl | rfl
        · have d := C0.out wr hb
          have hown := hO.own
          have hnew := hO.new
          have HN := Lib.hid hnew; have Hb := Lib.hid hb; have HW := Lib.hid hown; clear hnew hb hO hown
          go_wp2_with (at_builtin; (with_reducible refine etS.wpList_app HW.out (m := l1.length) (c := k1) (ao := a1) (news := flatS l1) (by rw [flatS_len]; omega) N1.out (fun ad h => F1.out ad (congrArg (fun a => Value.slice a l1.length k1) h) _ Hb.out) (flatS_one l1) (by simp [upTo]; omega) (by unfold maxLen; simp [upTo]; omega) rfl (.tmp 31) (.tmp 32) rfl rfl rfl ?_); intro v3 w3 own3 grow3 at3 nil3)
          go_roundw
          case rel =>
            refine ⟨1, rfl, by omega, ⟨?_, fun g hg => ?_⟩, Hb.out.grown grow3 hsz HN.out⟩
            · rw [show upTo l1 l2 1 = l1 from rfl]
              rw [show upTo l1 l2 0 = [] from rfl] at own3
              rw [show flatS [] = [] from rfl, List.nil_append, List.length_nil, Nat.zero_add] at own3
              exact own3
            · rcases at3 with e | e
              · exact HN.out g (e ▸ hg)
              · rw [e] at hg; simp at hg; omega
          case measure => simp [intOf]
        · have d := C1.out wr hb
          have hown := hO.own
          have hnew := hO.new
          have HN := Lib.hid hnew; have Hb := Lib.hid hb; have HW := Lib.hid hown; clear hnew hb hO hown
          go_wp2_with (at_builtin; (with_reducible refine etS.wpList_app HW.out (m := l2.length) (c := k2) (ao := a2) (news := flatS l2) (by rw [flatS_len]; omega) N2.out (fun ad h => F2.out ad (congrArg (fun a => Value.slice a l2.length k2) h) _ Hb.out) (flatS_one l2) (by simp [upTo]; omega) (by unfold maxLen; simp [upTo]; omega) rfl (.tmp 31) (.tmp 32) rfl rfl rfl ?_); intro v3 w3 own3 grow3 at3 nil3)
          go_roundw
          case rel =>
            refine ⟨2, rfl, by omega, ⟨?_, fun g hg => ?_⟩, Hb.out.grown grow3 hsz HN.out⟩
            · rw [show upTo l1 l2 2 = l1 ++ l2 from rfl, List.length_append, flatS_append]
              exact own3
            · rcases at3 with e | e
              · exact HN.out g (e ▸ hg)
              · rw [e] at hg; simp at hg; omega
          case measure => simp [intOf]
        · have HO := Lib.hid hO; clear hO
          go_wp2_with (fail)
          go_ret
          exact ⟨_, rfl, HO.out, hb⟩
end Go.Proofs.YtdfckkadmgmcaaaGreatDoor.Path

/- Paths: path.Move. -/
namespace Go.Proofs.YtdfckkadmgmcaaaGreatDoor.Path
open Go.RowKit
set_option linter.unusedSimpArgs false

theorem move_no {P A B : Bs} (h : moveOk P A B = false) : moveE P A B = 1 ∧ moveS P A B = [] := by simp [moveE, moveS, h]
theorem move_yes {P A B : Bs} (h : moveOk P A B = true) : moveE P A B = joinE (moveN P A B) ∧ moveS P A B = joinS (moveN P A B) ∧ underL A P = true ∧ splitE A = 0 ∧ splitE P = 0 ∧ splitE B = 0 ∧ (splitL A).length ≤ (splitL P).length := by
  refine ⟨by rw [moveE, if_pos h], by rw [moveS, if_pos h], ?_⟩
  simp only [moveOk, Bool.and_eq_true, decide_eq_true_eq] at h
  obtain ⟨hu, hb⟩ := h
  refine ⟨hu, ?_⟩
  simp only [underL, Bool.and_eq_true, decide_eq_true_eq] at hu
  exact ⟨hu.1.1, hu.1.2, hb, (List.isPrefixOf_iff_prefix.1 hu.2).length_le⟩
theorem map_back (l m : List Bs) : (l.map mk ++ m.map mk).map bs = l ++ m := by
  rw [← List.map_append, List.map_map]
  conv => rhs; rw [← List.map_id (l ++ m)]
  exact List.map_congr_left fun x _ => bs_mk x
theorem map_back0 (l : List Bs) : (l.map mk ++ []).map bs = l := by
  have := map_back l []
  simpa using this
theorem rds_none {w : World} {a : Option Addr} {c : Nat} (hc : c ≤ maxLen) (h : a = none → c = 0) : RdS w (.slice a 0 c) [] := by
  refine ⟨⟨a, c, rfl, Nat.zero_le _, hc, fun i x hx => by simp at hx⟩, fun n c' e => ?_⟩
  cases e
  exact h rfl
theorem rds_drop {w : World} {g n cap k : Nat} {q : List ByteArray} (h : w.ownsRow 0 9 1 (.slice (some ⟨g, 0, none⟩) n cap) n (flatS q)) (hn : q.length = n) (hk : k ≤ n) : RdS w (.slice (some ⟨g, k, none⟩) (n - k) (cap - k)) (q.drop k) := by
  refine ⟨⟨some ⟨g, k, none⟩, cap - k, by rw [List.length_drop, hn], ?_, ?_, fun i x hx => ?_⟩, fun n' c' e => by cases e⟩
  · rcases h.2 with ⟨e, _⟩ | ⟨g', c', cur, e, _, hg, hc, hm, _⟩
    · cases e
    · cases e; rw [List.length_drop]; omega
  · rcases h.2 with ⟨e, _⟩ | ⟨g', c', cur, e, _, hg, hc, hm, _⟩
    · cases e
    · cases e; omega
  · have hlt := (h.lt g rfl).2
    refine ⟨g, k, rfl, hlt, fun j u hu => ?_⟩
    rw [List.getElem?_drop] at hx
    have hi := (List.getElem?_eq_some_iff.1 hx).1
    have hj : j < 1 := (List.getElem?_eq_some_iff.1 hu).1
    have hj0 : j = 0 := by omega
    subst hj0
    have e : k + i * 1 + 0 = k + i := by omega
    rw [e, h.cellAt (k + i) (by omega), flatS_map, List.getElem?_map, hx]
    exact hu

set_option maxHeartbeats 4000000 in
theorem move_calls (w : World) (p a b : ByteArray) (hM : MaxC w) :
    Calls Tryz.prog 145 #[.string p, .string a, .string b] w (JoinPost w (moveE (bs p) (bs a) (bs b)) (moveS (bs p) (bs a) (bs b))) := by
  have h1 := split_calls w b hM
  have h2 := fun W (hW : Below w.heap.size w W) => under_calls W a p (hM.below hW)
  have h3 := fun W (hW : Below w.heap.size w W) => split_calls W p (hM.below hW)
  have h4 := fun W (hW : Below w.heap.size w W) => split_calls W a (hM.below hW)
  cases hok : moveOk (bs p) (bs a) (bs b)
  · rw [(move_no hok).1, (move_no hok).2]
    have hways : underL (bs a) (bs p) = false ∨ (underL (bs a) (bs p) = true ∧ (splitE (bs b) != 0) = true) := by
      rw [moveOk] at hok
      cases hu : underL (bs a) (bs p)
      · exact .inl rfl
      · rw [hu, Bool.true_and] at hok
        exact .inr ⟨rfl, bne_iff_ne.2 (by simpa using hok)⟩
    generalize splitE (bs b) = E at *
    clear hok h3 h4
    rcases hways with hu | ⟨hu, hE⟩ <;>
    · rw [hu] at h2
      have H2 := Lib.hid h2; clear h2 hu hM
      go_enter Tryz.func145, Tryz.ntmps145
      go_wp2_with (fail)
      refine h1.mono ?_
      rintro e w1 ⟨v1, rfl, hO1, hb1⟩
      go_wp2_with (fail)
      refine (H2.out _ hb1).mono ?_
      rintro e w2 ⟨rfl, hb2⟩
      go_wp2_with (fail)
      go_ret2
      exact ⟨rfl, hb1.trans (hb2.mono hb1.size)⟩
  · obtain ⟨e1, e2, hu, eA, eP, eB, hle⟩ := move_yes hok
    rw [e1, e2]
    have hL := split_six (bs b); have hN := split_six (bs p); have hA := split_six (bs a)
    have hmn : moveN (bs p) (bs a) (bs b) = splitL (bs b) ++ (splitL (bs p)).drop (splitL (bs a)).length := rfl
    rw [hmn]
    rw [eB] at h1
    rw [hu] at h2
    rw [eP] at h3
    rw [eA] at h4
    generalize splitL (bs b) = L at *
    generalize splitL (bs p) = M at *
    generalize splitL (bs a) = N at *
    have H2 := Lib.hid h2; have H3 := Lib.hid h3; have H4 := Lib.hid h4; clear h2 h3 h4 hM hok e1 e2 hu eA eP eB hmn
    have q1 : (N.length : Int) ≤ (M.length : Int) := by omega
    go_enter Tryz.func145, Tryz.ntmps145
    go_wp2_with (fail)
    refine h1.mono ?_
    rintro e w1 ⟨v1, rfl, hO1, hb1⟩
    go_wp2_with (fail)
    refine (H2.out _ hb1).mono ?_
    rintro e w2 ⟨rfl, hb2⟩
    have hB2 := hb1.trans (hb2.mono hb1.size)
    go_wp2_with (fail)
    refine (H3.out _ hB2).mono ?_
    rintro e w3 ⟨v3, rfl, hO3, hb3⟩
    have hB3 := hB2.trans (hb3.mono hB2.size)
    go_wp2_with (fail)
    refine (H4.out _ hB3).mono ?_
    rintro e w4 ⟨v4, rfl, hO4, hb4⟩
    have hB4 := hB3.trans (hb4.mono hB3.size)
    obtain ⟨a4, c4, rfl, _, _, _⟩ := rd_cellsS hO4.rd
    rw [List.length_map]
    obtain ⟨a3, c3, rfl, _⟩ := own_slice hO3.own
    rw [List.length_map]
    have hd : ∀ W, Below w3.heap.size w3 W → c3 ≠ N.length → ∃ g, a3 = some ⟨g, 0, none⟩ ∧ RdS W (.slice (some ⟨g, N.length, none⟩) (M.length - N.length) (c3 - N.length)) ((M.drop N.length).map mk) := fun W hW hne => by
      have h := hO3.own
      rw [List.length_map] at h
      rcases h.2 with ⟨e, h0⟩ | ⟨g, c', cur, e, _⟩
      · simp only [Value.slice.injEq] at e
        omega
      · simp only [Value.slice.injEq, true_and] at e
        obtain ⟨rfl, rfl⟩ := e
        have hr := rds_drop (w := w3) h (by rw [List.length_map]) hle
        rw [← List.map_drop] at hr
        exact ⟨g, rfl, hr.below hW⟩
    have hcm : M.length ≤ c3 := by
      rcases hO3.own.2 with ⟨e, h0⟩ | ⟨g, c', cur, e, _, _, h, _⟩
      · simp only [Value.slice.injEq] at e; rw [List.length_map] at h0; omega
      · simp only [Value.slice.injEq, true_and] at e
        obtain ⟨rfl, rfl⟩ := e
        rw [List.length_map] at h; exact h
    obtain ⟨a1, c1, rfl, _⟩ := own_slice hO1.own
    have hr1 := hO1.rds.below (hb2.trans ((hb3.trans (hb4.mono hb3.size)).mono hb2.size))
    rw [List.length_map] at hr1 ⊢
    have Hd := Lib.hid hd; have Hr1 := Lib.hid hr1; clear hd hr1 hO1 hO3 hO4
    have hz4 := hB4.size
    by_cases hcn : c3 = N.length
    · have hMN : M.length = N.length := by omega
      have hMNe : M.drop N.length = [] := List.drop_of_length_le (by omega)
      have HMN := Lib.hid hMN; have HMe := Lib.hid hMNe; clear hMNe hMN
      go_wp2_with (fail)
      have hsub : M.length - N.length = 0 := by have := HMN.out; omega
      rw [hsub]
      have hr5 : RdS w4 (.slice a3 0 0) [] := rds_none (by decide) (fun _ => rfl)
      have hb5 : Below w4.heap.size w4 (w4.alloc (.cells #[.slice a1 L.length c1, .slice a3 0 0] 32)) := (Below.refl _ _).alloc (Nat.le_refl _) _
      refine (conc_calls _ w4.heap.size _ _ (L.map mk) ([]) (heap_alloc_new w4 _) (Hr1.out.below hb5) (hr5.below hb5) (by simp; omega)).mono ?_
      rintro e w6 ⟨v6, rfl, hO6, hb6⟩
      have hB6 := (hB4.trans (hb5.mono hz4)).trans (hb6.mono (Nat.le_trans hz4 hb5.size))
      have hj := join_calls w6 v6 _ hO6.rd (by simp; omega)
      rw [map_back0] at hj
      go_wp2_with (fail)
      refine hj.mono ?_
      rintro e w7 ⟨rfl, hb7⟩
      go_wp2_with (fail)
      go_ret2
      rw [HMe.out, List.append_nil]
      exact ⟨rfl, hB6.trans (hb7.mono hB6.size)⟩
    · obtain ⟨g, rfl, hr3⟩ := Hd.out w4 hb4 hcn
      have Hr3 := Lib.hid hr3; clear hr3
      go_wp2_with (fail)
      have hr5 := Hr3.out
      have hb5 : Below w4.heap.size w4 (w4.alloc (.cells #[.slice a1 L.length c1, .slice (some ⟨g, N.length, none⟩) (M.length - N.length) (c3 - N.length)] 32)) := (Below.refl _ _).alloc (Nat.le_refl _) _
      refine (conc_calls _ w4.heap.size _ _ (L.map mk) ((M.drop N.length).map mk) (heap_alloc_new w4 _) (Hr1.out.below hb5) (hr5.below hb5) (by simp; omega)).mono ?_
      rintro e w6 ⟨v6, rfl, hO6, hb6⟩
      have hB6 := (hB4.trans (hb5.mono hz4)).trans (hb6.mono (Nat.le_trans hz4 hb5.size))
      have hj := join_calls w6 v6 _ hO6.rd (by simp; omega)
      rw [map_back] at hj
      go_wp2_with (fail)
      refine hj.mono ?_
      rintro e w7 ⟨rfl, hb7⟩
      go_wp2_with (fail)
      go_ret2
      exact ⟨rfl, hB6.trans (hb7.mono hB6.size)⟩
end Go.Proofs.YtdfckkadmgmcaaaGreatDoor.Path

/- Paths: a world whose orders have been drawn. -/
namespace Go.Proofs.YtdfckkadmgmcaaaGreatDoor.Path
open Go.RowKit
theorem below_drewN (w : World) (n : Nat) : Below w.heap.size w (w.drewN n) := ⟨rfl, rfl, rfl, Nat.le_refl _, fun _ _ => rfl⟩
end Go.Proofs.YtdfckkadmgmcaaaGreatDoor.Path

/- Paths: how the document cuts a path. -/
namespace Go.Proofs.YtdfckkadmgmcaaaGreatDoor.Path
open Go.RowKit
set_option linter.unusedSimpArgs false
set_option linter.unusedVariables false

def flatP (q : List Bs) : Bs := q.flatMap fun n => 47 :: n
theorem flatP_cons (x : Bs) (q : List Bs) : flatP (x :: q) = 47 :: x ++ flatP q := rfl
theorem flatP_append (q r : List Bs) : flatP (q ++ r) = flatP q ++ flatP r := by simp [flatP]
theorem flat_join : ∀ {q : List Bs}, q ≠ [] → flatP q = joinP q
  | [], h => absurd rfl h
  | [x], _ => by rw [joinP, inter_one, flatP_cons]; simp [flatP]
  | x :: y :: r, _ => by
    have ih := flat_join (q := y :: r) (by simp)
    rw [flatP_cons, ih, joinP, joinP, inter_cons, List.cons_append]
theorem cut_no : ∀ (s : Bs) (x : Bs), x ∈ cutL s → (47 : UInt8) ∉ x
  | [], x, h => by simp [cutL] at h; subst h; simp
  | b :: t, x, h => by
    have ih := cut_no t
    by_cases hb : b = 47
    · subst hb
      rw [cut_slash] at h
      rcases List.mem_cons.1 h with rfl | h
      · simp
      · exact ih x h
    · cases hc : cutL t with
      | nil => exact absurd hc (cut_ne t)
      | cons y r =>
        rw [cut_other hb hc] at h
        rcases List.mem_cons.1 h with rfl | h
        · intro hm
          rcases List.mem_cons.1 hm with e | e
          · exact hb e.symm
          · exact ih y (by rw [hc]; simp) e
        · exact ih x (by rw [hc]; simp [h])
def offP (q : List Bs) (k : Nat) : Nat := (flatP (q.take k)).length
/-- Where a piece stands. -/
structure Piece (s : Bs) (q : List Bs) (k : Nat) (x : Bs) : Prop where
  len : offP q k + 1 + x.length ≤ s.length
  slash : s[offP q k]? = some 47
  at_ : ∀ j, j < x.length → ∃ b, s[offP q k + 1 + j]? = some b ∧ b ≠ 47
  stop : offP q k + 1 + x.length = s.length ∨ s[offP q k + 1 + x.length]? = some 47
  cut : (s.drop (offP q k + 1)).take x.length = x
  next : offP q (k + 1) = offP q k + 1 + x.length
theorem piece {s : Bs} {q : List Bs} (hs : s = flatP q) (hno : ∀ x ∈ q, (47 : UInt8) ∉ x) {k : Nat} {x : Bs} (hx : q[k]? = some x) : Piece s q k x := by
  obtain ⟨hk, hxe⟩ := List.getElem?_eq_some_iff.1 hx
  have hq : q = q.take k ++ x :: q.drop (k + 1) := by rw [← hxe, ← List.drop_eq_getElem_cons hk, List.take_append_drop]
  have hsp : s = flatP (q.take k) ++ (47 :: x ++ flatP (q.drop (k + 1))) := by
    rw [hs]
    conv => lhs; rw [hq]
    rw [flatP_append, flatP_cons]
  have hxm : (47 : UInt8) ∉ x := hno x (by rw [hq]; simp)
  have hnext : offP q (k + 1) = offP q k + 1 + x.length := by
    rw [offP, List.take_add_one, hx, Option.toList_some, flatP_append, List.length_append, offP, flatP_cons]
    simp [flatP]
    omega
  have hl : offP q k = (flatP (q.take k)).length := rfl
  have hlen : s.length = offP q k + (1 + x.length + (flatP (q.drop (k + 1))).length) := by
    rw [hsp, List.length_append, hl]; simp; omega
  refine ⟨by omega, ?_, fun j hj => ?_, ?_, ?_, hnext⟩
  · rw [hsp, List.getElem?_append_right (by omega), hl, Nat.sub_self]; rfl
  · refine ⟨x[j], ?_, fun e => hxm (e ▸ List.getElem_mem hj)⟩
    rw [hsp, List.getElem?_append_right (by omega), show offP q k + 1 + j - (flatP (q.take k)).length = j + 1 by omega, List.cons_append, List.getElem?_cons_succ, List.getElem?_append_left hj]
    simp [hj]
  · cases hd : q.drop (k + 1) with
    | nil =>
      left
      rw [hd] at hlen
      simp [flatP] at hlen
      omega
    | cons y r =>
      right
      rw [hsp, hd, List.getElem?_append_right (by omega), show offP q k + 1 + x.length - (flatP (q.take k)).length = x.length + 1 by omega, List.cons_append, List.getElem?_cons_succ, List.getElem?_append_right (Nat.le_refl _), Nat.sub_self, flatP_cons]
      rfl
  · rw [hsp, List.drop_append, List.drop_of_length_le (by omega), show offP q k + 1 - (flatP (q.take k)).length = 1 by omega, List.nil_append, List.cons_append, List.drop_succ_cons, List.drop_zero, List.take_left' rfl]
theorem off_end {s : Bs} {q : List Bs} (hs : s = flatP q) : offP q q.length = s.length := by rw [offP, List.take_length, hs]
theorem off_lt {s : Bs} {q : List Bs} (hs : s = flatP q) (hno : ∀ x ∈ q, (47 : UInt8) ∉ x) {k : Nat} (hk : k < q.length) : offP q k < s.length := by
  have := (piece hs hno (k := k) (x := q[k]) (by simp [hk])).len
  omega
theorem path_flat (s : Bs) (h : s.head? = some 47) : s = flatP (cutL s.tail) := by
  rw [flat_join (cut_ne _), joinP, join_cut]
  cases s with
  | nil => cases h
  | cons b t => simp at h; rw [h]; rfl
theorem extract_piece {p : ByteArray} {q : List Bs} {k : Nat} {x : Bs} (h : Piece (bs p) q k x) : p.extract (offP q k + 1) (offP q k + 1 + x.length) = mk x := by
  apply bs_inj
  rw [bs_mk]
  conv => rhs; rw [← h.cut]
  rw [bs, bs, Lib.extract_data]
  congr 1
  omega
end Go.Proofs.YtdfckkadmgmcaaaGreatDoor.Path

/- Paths: the document's Split. -/
namespace Go.Proofs.YtdfckkadmgmcaaaGreatDoor.Path
open Go.RowKit
set_option linter.unusedSimpArgs false
set_option linter.unusedVariables false

theorem size_zero {p : ByteArray} (h : p.toList.isEmpty = true) : p.size = 0 := by
  rw [tl_bs] at h
  have := bs_len p
  rw [List.isEmpty_iff.1 h] at this
  exact this.symm
/-- The easy ways. -/
theorem rsplit_easy (w : World) (p : ByteArray) (h : (120 < (p.size : Int) ∧ splitE (bs p) = 4) ∨
    (¬ 120 < (p.size : Int) ∧ (p.toList == [47]) = true ∧ splitE (bs p) = 0 ∧ splitL (bs p) = []) ∨
    (¬ 120 < (p.size : Int) ∧ (p.toList == [47]) = false ∧ p.toList.isEmpty = true ∧ splitE (bs p) = 1)) :
    Calls Tryz.prog 85 #[.string p] w (SplPost w (splitE (bs p)) ((splitL (bs p)).map mk)) := by
  rcases h with ⟨h1, hE⟩ | ⟨h1, h2, hE, hL⟩ | ⟨h1, h2, h3, hE⟩
  · rw [hE, split_bad (by rw [hE]; decide)]
    clear hE
    go_enter Tryz.func85, Tryz.ntmps85
    go_wp2_with (fail)
    go_ret2
    exact ⟨_, rfl, OwnS.nil _ _, Below.refl _ _⟩
  · rw [hE, hL]
    clear hE hL
    go_enter Tryz.func85, Tryz.ntmps85
    go_wp2_with (fail)
    go_ret2
    exact ⟨_, rfl, OwnS.nil _ _, Below.refl _ _⟩
  · rw [hE, split_bad (by rw [hE]; decide)]
    have hz := size_zero h3
    clear hE h3
    have hz' : ¬ ((0 : Int) < (p.size : Int)) := by omega
    go_enter Tryz.func85, Tryz.ntmps85
    go_wp2_with (fail)
    go_loopw [4, 5] (fun vo va wr => vo = .slice none 0 0 ∧ va = .int .i64 0 ∧ wr = w) (fun _ _ _ => 0)
    case atStart => exact ⟨rfl, rfl, rfl⟩
    case round =>
      obtain ⟨rfl, rfl, hw⟩ := hrel
      obtain rfl : w = wr := hw.symm
      go_wp2_with (fail)
      go_ret2
      exact ⟨_, rfl, OwnS.nil _ _, Below.refl _ _⟩

set_option maxHeartbeats 2000000 in
/-- No slash ahead. -/
theorem rsplit_none (w : World) (p : ByteArray) (h1 : ¬ 120 < (p.size : Int)) (h2 : (p.toList == [47]) = false) (h3 : splitE (bs p) = 1) (h0 : 0 < p.size) (h4 : ((p[0].toNat : Int) != 47) = true) :
    Calls Tryz.prog 85 #[.string p] w (SplPost w (splitE (bs p)) ((splitL (bs p)).map mk)) := by
  rw [h3, split_bad (by rw [h3]; decide)]
  clear h3
  have h0' : (0 : Int) < (p.size : Int) := by omega
  go_enter Tryz.func85, Tryz.ntmps85
  go_wp2_with (fail)
  go_loopw [4, 5] (fun vo va wr => vo = .slice none 0 0 ∧ va = .int .i64 0 ∧ wr = w) (fun _ _ _ => 0)
  case atStart => exact ⟨rfl, rfl, rfl⟩
  case round =>
    obtain ⟨rfl, rfl, hw⟩ := hrel
    obtain rfl : w = wr := hw.symm
    go_wp2_with (fail)
    go_loopw [6] (fun ve wr => ∃ m : Nat, ve = .int .i64 m ∧ 1 ≤ m ∧ m ≤ p.size ∧ wr = w) (fun ve _ => p.size - (intOf ve).toNat)
    case atStart => exact ⟨1, rfl, Nat.le_refl _, h0, rfl⟩
    case round =>
      obtain ⟨m, rfl, hm1, hm, hw⟩ := hrel
      obtain rfl : w = wr := hw.symm
      by_cases hlt : m < p.size
      · have hlt' : (m : Int) < (p.size : Int) := by omega
        have ha1 : (1 : Int) ≤ (m : Int) := by omega
        have ha2 : (m : Int) ≤ (p.size : Int) := by omega
        cases hb : ((p[m].toNat : Int) != 47)
        · go_wp2_with (fail)
          refine (rname_calls w (p.extract 1 m)).mono ?_
          rintro e w1 ⟨rfl, rfl⟩
          go_wp2_with (fail)
          go_ret2
          exact ⟨_, rfl, OwnS.nil _ _, Below.refl _ _⟩
        · go_wp2_with (fail)
          go_roundw
          case rel => exact ⟨m + 1, by go_num, by omega, by omega, by trivial⟩
          case measure => simp [intOf]; omega
      · obtain rfl : m = p.size := by omega
        have ha1 : (1 : Int) ≤ (p.size : Int) := by omega
        go_wp2_with (fail)
        refine (rname_calls w (p.extract 1 p.size)).mono ?_
        rintro e w1 ⟨rfl, rfl⟩
        go_wp2_with (fail)
        go_ret2
        exact ⟨_, rfl, OwnS.nil _ _, Below.refl _ _⟩

theorem mk_all {q : List Bs} {k : Nat} {x : Bs} (hx : q[k]? = some x) (h : (q.take k).all nameL = true) (hn : nameL x = true) : (q.take (k + 1)).all nameL = true := by
  rw [List.take_add_one, hx, List.all_append, h]; simp [hn]
theorem mk_snoc {q : List Bs} {k : Nat} {x : Bs} (hx : q[k]? = some x) : (q.take (k + 1)).map mk = (q.take k).map mk ++ [mk x] := by
  rw [List.take_add_one, hx, List.map_append]; rfl
theorem all_no {q : List Bs} {k : Nat} {x : Bs} (hx : q[k]? = some x) (hn : nameL x = false) : q.all nameL = false := by
  rw [List.all_eq_false]
  exact ⟨x, List.mem_of_getElem? hx, by simp [hn]⟩

set_option maxRecDepth 4000 in
set_option maxHeartbeats 4000000 in
/-- The way through the pieces. -/
theorem rsplit_main (w : World) (p : ByteArray) (q : List Bs) (h1 : ¬ 120 < (p.size : Int)) (h2 : (p.toList == [47]) = false) (hs : bs p = flatP q) (hno : ∀ x ∈ q, (47 : UInt8) ∉ x) (hq : q ≠ [])
    (hE : splitE (bs p) = (if q.all nameL = true then (if 6 < q.length then 4 else 0) else 1)) (hL : splitL (bs p) = if splitE (bs p) = 0 then q else []) :
    Calls Tryz.prog 85 #[.string p] w (SplPost w (splitE (bs p)) ((splitL (bs p)).map mk)) := by
  have hl := bs_len p
  have hpc := fun k x (hx : q[k]? = some x) => piece hs hno hx
  have hend := off_end hs
  have hlt0 := fun k (hk : k < q.length) => off_lt hs hno hk
  have hql : q.length ≤ p.size := by
    have key : ∀ k, k ≤ q.length → k ≤ offP q k := by
      intro k
      induction k with
      | zero => intro _; exact Nat.zero_le _
      | succ k ih =>
        intro hk
        have := (hpc k q[k] (by simp [show k < q.length by omega])).next
        have := ih (by omega)
        omega
    have := key q.length (Nat.le_refl _)
    omega
  have hq0 : 0 < q.length := List.length_pos_iff.2 hq
  generalize hEE : splitE (bs p) = E at *
  generalize splitL (bs p) = L at *
  clear hs hno hEE hq
  have Hpc := Lib.hid hpc; have Hlt := Lib.hid hlt0; have HE := Lib.hid hE; have HL := Lib.hid hL; clear hpc hlt0 hE hL
  go_enter Tryz.func85, Tryz.ntmps85
  go_wp2_with (fail)
  go_loopw [4, 5] (fun vo va wr => ∃ k : Nat, k ≤ q.length ∧ va = .int .i64 (offP q k) ∧ OwnS w wr vo ((q.take k).map mk) ∧ (q.take k).all nameL = true ∧ Below w.heap.size w wr) (fun _ va _ => p.size - (intOf va).toNat)
  case atStart => exact ⟨0, Nat.zero_le _, rfl, OwnS.nil _ _, rfl, Below.refl _ _⟩
  case round =>
    obtain ⟨k, hk, rfl, hO, hall, hb⟩ := hrel
    generalize wr = W0 at *
    have Hall := Lib.hid hall; have HO := Lib.hid hO; clear hall hO
    by_cases hkq : k < q.length
    · obtain ⟨x, hx⟩ : ∃ x, q[k]? = some x := ⟨q[k], by simp [hkq]⟩
      have pc := Hpc.out k x hx
      have hof := Hlt.out k hkq
      have hpl := pc.len
      generalize hoff : offP q k = f at *
      have hpn := pc.next
      rw [hoff] at hpn
      have Hx := Lib.hid hx; have Pc := Lib.hid pc; have Hoff := Lib.hid hoff; have Hpn := Lib.hid hpn; clear hx pc hoff hpn
      have f1 : IntKind.i64.wrap ((f : Int) + 1) = (f : Int) + 1 := by rw [IntKind.wrap_i64]; omega
      have f2 : (f : Int) < (p.size : Int) := by omega
      have f3 : f < p.size := by omega
      go_wp2_with (fail)
      go_loopw [6] (fun ve wr => ∃ j : Nat, ve = .int .i64 ((f + 1 + j : Nat) : Int) ∧ j ≤ x.length ∧ wr = W0) (fun ve _ => p.size - (intOf ve).toNat)
      case atStart => exact ⟨0, by go_num, Nat.zero_le _, rfl⟩
      case round =>
        obtain ⟨j, rfl, hj, hw⟩ := hrel
        obtain rfl : W0 = wr := hw.symm
        by_cases hjx : j < x.length
        · have hb47 : ∃ h : f + 1 + j < p.size, ((p[f + 1 + j].toNat : Int) != 47) = true := by
            obtain ⟨b, hb1, hb2⟩ := Pc.out.at_ j hjx
            rw [Hoff.out] at hb1
            have hlt : f + 1 + j < p.size := by omega
            rw [bs_get hlt] at hb1
            simp only [Option.some.injEq] at hb1
            refine ⟨hlt, bne_iff_ne.2 fun e => hb2 ?_⟩
            rw [← hb1, ← UInt8.toNat_inj]
            have : p[f + 1 + j].toNat = 47 := by omega
            rw [this]; rfl
          obtain ⟨hlt, hne⟩ := hb47
          generalize hm : f + 1 + j = m at *
          have hlt' : (m : Int) < (p.size : Int) := by omega
          go_wp2_with (fail)
          go_roundw
          case rel => exact ⟨j + 1, by rw [← Nat.add_assoc, hm]; go_num, by omega, by trivial⟩
          case measure => simp [intOf]; omega
        · obtain rfl : j = x.length := by omega
          have hp47 : ((p[f].toNat : Int) != 47) = false := by
            have hb1 := Pc.out.slash
            rw [Hoff.out, bs_get f3] at hb1
            simp only [Option.some.injEq] at hb1
            rw [hb1]; rfl
          have hex : p.extract (f + 1) (f + 1 + x.length) = mk x := by
            have := extract_piece Pc.out
            rwa [Hoff.out] at this
          have hstop : f + 1 + x.length = p.size ∨ ∃ h : f + 1 + x.length < p.size, ((p[f + 1 + x.length].toNat : Int) != 47) = false := by
            have hst := Pc.out.stop
            rw [Hoff.out] at hst
            rcases hst with h | h
            · left; omega
            · right
              have hlt : f + 1 + x.length < p.size := by
                have := (List.getElem?_eq_some_iff.1 h).1
                omega
              rw [bs_get hlt] at h
              simp only [Option.some.injEq] at h
              exact ⟨hlt, by rw [h]; rfl⟩
          have hle6 : (q.take k).length ≤ q.length := List.length_take_le' _ _
          generalize hm : f + 1 + x.length = m at *
          have f4 : (f : Int) + 1 ≤ (m : Int) := by omega
          have f5 : (m : Int) ≤ (p.size : Int) := by omega
          have f6 : ((f : Int) + 1).toNat = f + 1 := by omega
          have f7 : (0 : Int) ≤ (f : Int) + 1 := by omega
          have Hex := Lib.hid hex; have Hm := Lib.hid hm; clear hex hm
          rcases hstop with rfl | ⟨hlt, hst⟩
          focus
            have f8 : ¬ ((p.size : Int) < (p.size : Int)) := by omega
            go_wp2_with (fail)
          rotate_left
          focus
            have f8 : (m : Int) < (p.size : Int) := by omega
            go_wp2_with (fail)
          all_goals
            rw [Hex.out]
            have hrn := rname_calls W0 (mk x)
            rw [bs_mk] at hrn
            cases hn : nameL x
            · rw [hn] at hrn
              have hE1 := HE.out
              rw [if_neg (by rw [all_no Hx.out hn]; simp)] at hE1
              have HE1 := Lib.hid hE1; clear hE1 hn
              refine hrn.mono ?_
              rintro e w1 ⟨rfl, rfl⟩
              go_wp2_with (fail)
              go_ret2
              have hL1 := HL.out
              rw [HE1.out, if_neg (by decide)] at hL1
              rw [HE1.out, hL1]
              exact ⟨_, rfl, OwnS.nil _ _, hb⟩
            · rw [hn] at hrn
              have hall1 := mk_all Hx.out Hall.out hn
              have Hall1 := Lib.hid hall1; clear hn hall1
              refine hrn.mono ?_
              rintro e w1 ⟨rfl, rfl⟩
              have hwl : ((q.take k).map mk).length = k := by rw [List.length_map, List.length_take]; omega
              have hown := HO.out.own
              rw [hwl] at hown
              have HW := Lib.hid hown; clear hown
              have hsz := hb.size
              go_wp2_with (at_builtin; (with_reducible refine etS.wpList1 (HW.out.alloc _) (heap_alloc_new _ _) rfl (by simp [Value.oneCell']) (by omega) (by unfold maxLen; omega) rfl (.tmp 45) (.tmp 51) rfl rfl rfl ?_); intro g1 cap1 w2 hown1 hgrow hat hlt1)
              go_roundw
              case rel =>
                refine ⟨k + 1, by omega, by rw [Hpn.out], ⟨?_, fun g hg => ?_⟩, Hall1.out, ((hb.alloc hsz _).grown hgrow (by simp; omega) (fun q hq => HO.out.new q hq))⟩
                · rw [mk_snoc Hx.out, List.length_append, hwl, flatS_snoc, ← Hex.out]
                  exact hown1
                · simp only [Value.ownBlock, Option.some.injEq] at hg
                  subst hg
                  rcases hat with h | h
                  · exact HO.out.new _ h
                  · simp at h; omega
              case measure => simp [intOf]; omega
    · obtain rfl : k = q.length := by omega
      rw [hend]
      have hO := HO.out
      rw [List.take_length] at hO
      obtain ⟨a4, c4, rfl, _⟩ := own_slice hO.own
      rw [List.length_map] at *
      have hall := Hall.out
      rw [List.take_length] at hall
      have hE1 := HE.out
      rw [if_pos hall] at hE1
      have HO4 := Lib.hid hO; clear hO hall
      have g1 : ¬ ((p.size : Int) < (p.size : Int)) := by omega
      have g2 : ((q.length : Int) == 0) = false := beq_false_of_ne (by omega)
      rw [hl]
      by_cases h6 : 6 < q.length
      · rw [if_pos h6] at hE1
        have HE1 := Lib.hid hE1; clear hE1
        have g3 : 6 < (q.length : Int) := by omega
        go_wp2_with (fail)
        go_ret2
        have hL1 := HL.out
        rw [HE1.out, if_neg (by decide)] at hL1
        rw [HE1.out, hL1]
        exact ⟨_, rfl, OwnS.nil _ _, hb⟩
      · rw [if_neg h6] at hE1
        have HE1 := Lib.hid hE1; clear hE1
        have g3 : ¬ 6 < (q.length : Int) := by omega
        go_wp2_with (fail)
        go_ret2
        have hL1 := HL.out
        rw [HE1.out, if_pos rfl] at hL1
        rw [HE1.out, hL1]
        exact ⟨_, rfl, HO4.out, hb⟩

theorem rsplit_calls (w : World) (p : ByteArray) : Calls Tryz.prog 85 #[.string p] w (SplPost w (splitE (bs p)) ((splitL (bs p)).map mk)) := by
  rcases split_ways p with h | h | h | ⟨h1, h2, h3, hE, h0, h4⟩ | ⟨h1, h2, h3, ⟨h0, h4⟩, hE, hL⟩
  · exact rsplit_easy w p (.inl h)
  · exact rsplit_easy w p (.inr (.inl h))
  · exact rsplit_easy w p (.inr (.inr h))
  · exact rsplit_none w p h1 h2 hE h0 h4
  · have hb := bs_get h0
    have hne : p[0] = 47 := by
      have : (p[0].toNat : Int) = 47 := by simpa using h4
      rw [← UInt8.toNat_inj]
      have : p[0].toNat = 47 := by omega
      rw [this]; rfl
    have hs := path_flat (bs p) (by rw [List.head?_eq_getElem?, hb, hne])
    rw [tail_bs] at hs
    exact rsplit_main w p _ h1 h2 hs (cut_no _) (cut_ne _) hE hL
end Go.Proofs.YtdfckkadmgmcaaaGreatDoor.Path

/- Paths: the document's Join. -/
namespace Go.Proofs.YtdfckkadmgmcaaaGreatDoor.Path
open Go.RowKit
set_option linter.unusedSimpArgs false
set_option linter.unusedVariables false

theorem mk_append (a b : Bs) : mk a ++ mk b = mk (a ++ b) := by
  apply bs_inj
  have : bs (mk a ++ mk b) = bs (mk a) ++ bs (mk b) := by simp [bs]
  rw [this, bs_mk, bs_mk, bs_mk]
theorem mk_step (a : Bs) (x : ByteArray) : mk a ++ (⟨#[47]⟩ : ByteArray) ++ x = mk (a ++ 47 :: bs x) := by
  have e1 : (⟨#[47]⟩ : ByteArray) = mk [47] := rfl
  conv => lhs; rw [e1, ← mk_bs x]
  rw [mk_append, mk_append, List.append_assoc]; rfl
theorem flatP_len (q : List Bs) (h : ∀ x ∈ q, x.length ≤ 20) : (flatP q).length ≤ q.length * 21 := by
  induction q with
  | nil => simp [flatP]
  | cons x r ih =>
    have h1 := h x (by simp)
    have h2 := ih fun n hn => h n (List.mem_cons_of_mem _ hn)
    rw [flatP_cons, List.length_append, List.length_cons, List.length_cons]
    omega
theorem flatP_next {q : List Bs} {k : Nat} {x : Bs} (hx : q[k]? = some x) : flatP (q.take (k + 1)) = flatP (q.take k) ++ 47 :: x := by
  rw [List.take_add_one, hx, flatP_append]; simp [flatP]

set_option maxHeartbeats 4000000 in
theorem rjoin_calls (w : World) (v : Value) (ns : List ByteArray) (h : Rd w 1 encS v ns) (hn : ns.length ≤ 8796093022208) :
    Calls Tryz.prog 154 #[v] w (JoinPost w (joinE (ns.map bs)) (joinS (ns.map bs))) := by
  obtain ⟨ao, cap, rfl, _, _, hcell⟩ := rd_cellsS h
  have Hcell := Lib.hid hcell; clear hcell h
  have hJ0 := join_ways (ns.map bs)
  have hbad := fun (e : joinE (ns.map bs) ≠ 0) => join_bad e
  have hgood : joinE (ns.map bs) = 0 → joinS (ns.map bs) = joinP (ns.map bs) := fun e => if_pos e
  generalize joinE (ns.map bs) = E at *
  generalize joinS (ns.map bs) = S at *
  have HJ0 := Lib.hid hJ0; have Hbad := Lib.hid hbad; have Hgood := Lib.hid hgood; clear hJ0 hbad hgood
  go_enter Tryz.func154, Tryz.ntmps154
  go_wp2_with (fail)
  go_loopw [4] (fun vk wr => ∃ k : Nat, vk = .int .i64 k ∧ k ≤ ns.length ∧ ((ns.map bs).take k).all nameL = true ∧ wr = w) (fun vk _ => ns.length - (intOf vk).toNat)
  case atStart => exact ⟨0, rfl, Nat.zero_le _, rfl, rfl⟩
  case round =>
    obtain ⟨k, rfl, hk, hall, hw⟩ := hrel
    obtain rfl : w = wr := hw.symm
    have Hall := Lib.hid hall; clear hall
    by_cases hlt : k < ns.length
    · obtain ⟨x, hx⟩ : ∃ x, ns[k]? = some x := ⟨ns[k], by simp [hlt]⟩
      have hxb : (ns.map bs)[k]? = some (bs x) := by rw [List.getElem?_map, hx]; rfl
      obtain ⟨b, off, rfl, _, c0⟩ := Hcell.out w (Below.refl _ _) k x hx
      have hrn := rname_calls w x
      have Hxb := Lib.hid hxb; clear hx hxb
      cases hnm : nameL (bs x)
      · rw [hnm] at hrn
        have hE : E = 1 := by
          rcases HJ0.out with ⟨_, e⟩ | ⟨e, _⟩ | ⟨e, _⟩ | ⟨e, _⟩
          · exact e
          all_goals
            have := all_no Hxb.out hnm
            rw [e] at this; cases this
        have hS : S = [] := Hbad.out (by rw [hE]; decide)
        have HE := Lib.hid hE; have HS := Lib.hid hS; clear hE hS hnm
        go_wp2_with (fail)
        refine hrn.mono ?_
        rintro e w1 ⟨rfl, rfl⟩
        go_wp2_with (fail)
        go_ret2
        rw [HE.out, HS.out]
        exact ⟨rfl, Below.refl _ _⟩
      · rw [hnm] at hrn
        have hnx := mk_all Hxb.out Hall.out hnm
        have Hnx := Lib.hid hnx; clear hnx hnm
        go_wp2_with (fail)
        refine hrn.mono ?_
        rintro e w1 ⟨rfl, rfl⟩
        go_wp2_with (fail)
        go_roundw
        case rel => exact ⟨k + 1, by go_num, by omega, Hnx.out, by trivial⟩
        case measure => simp [intOf]; omega
    · obtain rfl : k = ns.length := by omega
      have hall : (ns.map bs).all nameL = true := by
        have := Hall.out
        rwa [List.take_of_length_le (by rw [List.length_map]; omega)] at this
      have h20 : ∀ y ∈ ns.map bs, y.length ≤ 20 := fun y hy => name_len (List.all_eq_true.1 hall y hy)
      have hJ := HJ0.out
      rw [hall, List.length_map] at hJ
      have hflat := flat_join (q := ns.map bs)
      have HJ := Lib.hid hJ; clear hJ
      have H20 := Lib.hid h20; have Hflat := Lib.hid hflat; clear h20 hflat hall
      by_cases h6 : 6 < (ns.length : Int)
      · have hE : E = 4 := by
          rcases HJ.out with ⟨e, _⟩ | ⟨_, _, e⟩ | ⟨_, e, _⟩ | ⟨_, e, _⟩
          · cases e
          · exact e
          · (exfalso; omega)
          · (exfalso; omega)
        have hS : S = [] := Hbad.out (by rw [hE]; decide)
        have HE := Lib.hid hE; have HS := Lib.hid hS; clear hE hS
        go_wp2_with (fail)
        go_ret2
        rw [HE.out, HS.out]
        exact ⟨rfl, Below.refl _ _⟩
      · by_cases h0 : ns.length = 0
        · have hns : ns = [] := List.eq_nil_of_length_eq_zero h0
          have hE : E = 0 := by
            rcases HJ.out with ⟨e, _⟩ | ⟨_, e, _⟩ | ⟨_, _, e, _⟩ | ⟨_, _, _, e⟩
            · cases e
            · (exfalso; omega)
            · rw [hns] at e; exact absurd e (by decide)
            · exact e
          have hS : S = [47] := by rw [Hgood.out hE, hns]; rfl
          have HE := Lib.hid hE; have HS := Lib.hid hS; clear hE hS hns
          have g0 : ((ns.length : Int) == 0) = true := by simp [h0]
          have H0 := Lib.hid h0; clear h0
          go_wp2_with (fail)
          go_ret2
          rw [HE.out, HS.out]
          exact ⟨rfl, Below.refl _ _⟩
        · have g0 : ((ns.length : Int) == 0) = false := beq_false_of_ne (by omega)
          have hne : ns.map bs ≠ [] := by
            intro e
            have := congrArg List.length e
            rw [List.length_map] at this
            exact h0 this
          have Hne := Lib.hid hne; clear hne
          go_wp2_with (fail)
          go_loopw [6, 7] (fun vo vk wr => ∃ k : Nat, vk = .int .i64 k ∧ k ≤ ns.length ∧ vo = .string (mk (flatP ((ns.map bs).take k))) ∧ wr = w) (fun _ vk _ => ns.length - (intOf vk).toNat)
          case atStart => exact ⟨0, rfl, Nat.zero_le _, rfl, rfl⟩
          case round =>
            obtain ⟨k, rfl, hk, rfl, hw⟩ := hrel
            obtain rfl : w = wr := hw.symm
            have hle := flatP_len ((ns.map bs).take k) (fun y hy => H20.out y (List.mem_of_mem_take hy))
            rw [List.length_take, List.length_map] at hle
            have hsz := mk_size (flatP ((ns.map bs).take k))
            by_cases hlt : k < ns.length
            · obtain ⟨x, hx⟩ : ∃ x, ns[k]? = some x := ⟨ns[k], by simp [hlt]⟩
              have hxb : (ns.map bs)[k]? = some (bs x) := by rw [List.getElem?_map, hx]; rfl
              have hxl := H20.out (bs x) (List.mem_of_getElem? hxb)
              rw [bs_len] at hxl
              obtain ⟨b, off, rfl, _, c0⟩ := Hcell.out w (Below.refl _ _) k x hx
              have hnx := flatP_next hxb
              have Hnx := Lib.hid hnx; clear hx hxb hnx
              generalize flatP ((ns.map bs).take k) = J at *
              have hstep := mk_step J x
              have Hstep := Lib.hid hstep; clear hstep
              have b1 : ¬ 9223372036854775807 < (mk J).size + 1 := by omega
              have b2 : ¬ 9223372036854775807 < (mk J).size + 1 + x.size := by omega
              go_wp2_with (fail)
              go_roundw
              case rel => exact ⟨k + 1, by go_num, by omega, by rw [Hnx.out, ← Hstep.out], by trivial⟩
              case measure => simp [intOf]; omega
            · obtain rfl : k = ns.length := by omega
              have htk : (ns.map bs).take ns.length = ns.map bs := List.take_of_length_le (by rw [List.length_map]; omega)
              rw [htk] at hle hsz ⊢
              have hfj := Hflat.out Hne.out
              rw [hfj] at hle hsz ⊢
              clear hfj htk hle
              by_cases h120 : 120 < ((joinP (ns.map bs)).length : Int)
              · have hE : E = 4 := by
                  rcases HJ.out with ⟨e, _⟩ | ⟨_, e, _⟩ | ⟨_, _, _, e⟩ | ⟨_, _, e, _⟩
                  · cases e
                  · (exfalso; omega)
                  · exact e
                  · (exfalso; omega)
                have hS : S = [] := Hbad.out (by rw [hE]; decide)
                have HE := Lib.hid hE; have HS := Lib.hid hS; clear hE hS
                generalize joinP (ns.map bs) = J at *
                have g3 : 120 < ((mk J).size : Int) := by omega
                go_wp2_with (fail)
                go_ret2
                rw [HE.out, HS.out]
                exact ⟨rfl, Below.refl _ _⟩
              · have hE : E = 0 := by
                  rcases HJ.out with ⟨e, _⟩ | ⟨_, e, _⟩ | ⟨_, _, e, _⟩ | ⟨_, _, _, e⟩
                  · cases e
                  · (exfalso; omega)
                  · (exfalso; omega)
                  · exact e
                have hS : S = joinP (ns.map bs) := Hgood.out hE
                generalize joinP (ns.map bs) = J at *
                have HE := Lib.hid hE; have HS := Lib.hid hS; clear hE hS
                have g3 : ¬ 120 < ((mk J).size : Int) := by omega
                go_wp2_with (fail)
                go_ret2
                rw [HE.out, HS.out]
                exact ⟨rfl, Below.refl _ _⟩
end Go.Proofs.YtdfckkadmgmcaaaGreatDoor.Path

/- Paths: path.Parent. -/
namespace Go.Proofs.YtdfckkadmgmcaaaGreatDoor.Path
open Go.RowKit
set_option linter.unusedSimpArgs false
set_option linter.unusedVariables false

theorem last_of {p : ByteArray} {pre n : Bs} (h : bs p = pre ++ 47 :: n) (hn : (47 : UInt8) ∉ n) : Lib.lastIndexByte p 47 = pre.length := by
  have hl := bs_len p
  rw [h, List.length_append, List.length_cons] at hl
  have hat : ∀ (i : Nat) b, (bs p)[i]? = some b → p.data[i]! = b := fun i b hb => by
    have : p.data[i]? = some b := by simpa [bs] using hb
    rw [getElem!_def, this]
  have h47 : (bs p)[pre.length]? = some 47 := by rw [h, List.getElem?_append_right (Nat.le_refl _), Nat.sub_self]; rfl
  rcases Lib.lastIndexByte_spec p 47 with ⟨_, hno⟩ | ⟨i, hi, he, hc, hno⟩
  · exact absurd (by rw [hat _ _ h47]; rfl) (hno pre.length (by omega))
  · rw [he]
    rcases Nat.lt_trichotomy i pre.length with hlt | heq | hgt
    · exact absurd (by rw [hat _ _ h47]; rfl) (hno pre.length hlt (by omega))
    · rw [heq]
    · exfalso
      obtain ⟨j, rfl⟩ : ∃ j, i = pre.length + 1 + j := ⟨i - (pre.length + 1), by omega⟩
      have hj : j < n.length := by omega
      have hb : (bs p)[pre.length + 1 + j]? = some n[j] := by
        rw [h, List.getElem?_append_right (by omega), show pre.length + 1 + j - pre.length = j + 1 by omega, List.getElem?_cons_succ]
        simp [hj]
      rw [hat _ _ hb] at hc
      have : n[j] = 47 := by
        rw [← UInt8.toNat_inj]
        have : n[j].toNat = 47 := by omega
        rw [this]; rfl
      exact hn (this ▸ List.getElem_mem hj)

/-- A path that has a parent. -/
structure Par (p : Bs) (init : List Bs) (n pre : Bs) : Prop where
  L : splitL p = init ++ [n]
  whole : p = pre ++ 47 :: n
  no : (47 : UInt8) ∉ n
  dir : p.take (max pre.length 1) = joinP init
  name : p.drop (pre.length + 1) = n
  E : parE p = 0
  D : parD p = joinP init
  N : parN p = n
theorem par_yes {p : Bs} (hE : splitE p = 0) (hL : splitL p ≠ []) : ∃ init n pre, Par p init n pre := by
  obtain ⟨g1, g2⟩ := split_ok hE
  have hs : splitL p = (splitL p).dropLast ++ [(splitL p).getLast hL] := (List.dropLast_concat_getLast hL).symm
  have hno : (47 : UInt8) ∉ (splitL p).getLast hL := name_slash ((joinE_ok.1 g1).1 _ (List.getLast_mem hL))
  have hpe : parE p = 0 := by rw [parE, if_pos hE, if_neg hL]
  generalize hi : (splitL p).dropLast = init at *
  generalize hg : (splitL p).getLast hL = n at *
  have hD : parD p = joinP init := by rw [parD, if_pos hpe, hi]
  have hN : parN p = n := by
    rw [parN, if_pos hpe, List.getLastD_eq_getLast?, List.getLast?_eq_some_getLast hL, hg]; rfl
  rw [hs] at g2
  by_cases h0 : init = []
  · subst h0
    have hw : p = [] ++ 47 :: n := by rw [← g2, List.nil_append, joinP, inter_one]; rfl
    refine ⟨[], n, [], hs, hw, hno, ?_, ?_, hpe, hD, hN⟩
    · rw [hw]; rfl
    · rw [hw]; rfl
  · have hw : p = joinP init ++ 47 :: n := by rw [← g2, join_snoc init n h0]
    have h1 : max (joinP init).length 1 = (joinP init).length := by rw [joinP, List.length_cons]; omega
    refine ⟨init, n, joinP init, hs, hw, hno, ?_, ?_, hpe, hD, hN⟩
    · rw [h1]; conv => lhs; rw [hw]
      rw [List.take_left' rfl]
    · conv => lhs; rw [hw]
      rw [List.drop_append, List.drop_of_length_le (by omega), show (joinP init).length + 1 - (joinP init).length = 1 by omega]; rfl
theorem par_no {p : Bs} (h : parE p ≠ 0) : parD p = [] ∧ parN p = [] := ⟨if_neg h, if_neg h⟩

def ParPost (w : World) (d n : Bs) (k : Int) (e : Ending) (w' : World) : Prop :=
  e = .returned (.tuple #[.string (mk d), .string (mk n), .int .i64 k]) ∧ Below w.heap.size w w'

set_option maxHeartbeats 4000000 in
theorem parent_calls (w : World) (p : ByteArray) (hM : MaxC w) :
    Calls Tryz.prog 94 #[.string p] w (ParPost w (parD (bs p)) (parN (bs p)) (parE (bs p))) := by
  have h1 := split_calls w p hM
  have hl6 := split_six (bs p)
  have hpl := bs_len p
  by_cases hE : splitE (bs p) = 0
  · by_cases hL : splitL (bs p) = []
    · have hpe : parE (bs p) = 1 := by rw [parE, if_pos hE, if_pos hL]
      obtain ⟨d1, d2⟩ := par_no (p := bs p) (by rw [hpe]; decide)
      rw [hpe, d1, d2]
      rw [hE, hL] at h1
      clear hpe d1 d2 hE hL hl6 hM
      go_enter Tryz.func94, Tryz.ntmps94
      go_wp2_with (fail)
      refine h1.mono ?_
      rintro e w1 ⟨v1, rfl, hO1, hb1⟩
      obtain ⟨a1, c1, rfl, _, _, _⟩ := rd_cellsS hO1.rd
      go_wp2_with (fail)
      go_ret3
      exact ⟨rfl, hb1⟩
    · obtain ⟨init, n, pre, hp⟩ := par_yes hE hL
      rw [hp.E, hp.D, hp.N]
      have hli := last_of hp.whole hp.no
      have hlp : splitL (bs p) ≠ [] := hL
      have hlen : 0 < (splitL (bs p)).length := List.length_pos_iff.2 hL
      have hwl := congrArg List.length hp.whole
      rw [List.length_append, List.length_cons, hpl] at hwl
      have x2 : p.extract (pre.length + 1) p.size = mk n := by
        apply bs_inj
        rw [bs_mk, bs, Lib.extract_to_end]
        exact hp.name
      have hdir := hp.dir
      rw [hE] at h1
      generalize splitL (bs p) = L at *
      have hlast := fun W => Tryz.strings_LastIndexByte p 47 (by
        have : splitE (bs p) = 0 := hE
        rw [splitE] at this
        split at this
        · cases this
        · omega) W
      rw [hli] at hlast
      have hbig : p.size ≤ 120 := by
        have : splitE (bs p) = 0 := hE
        rw [splitE] at this
        split at this
        · cases this
        · omega
      have Hlast := Lib.hid hlast; have X2 := Lib.hid x2; clear hlast x2 hli hp hE hL hlp hM
      have q0 : ((L.length : Int) == 0) = false := beq_false_of_ne (by omega)
      have q1 : IntKind.i64.wrap ((pre.length : Int) + 1) = (pre.length : Int) + 1 := by rw [IntKind.wrap_i64]; omega
      have q2 : (pre.length : Int) + 1 ≤ (p.size : Int) := by omega
      have q3 : ((pre.length : Int) + 1).toNat = pre.length + 1 := by omega
      have q4 : (0 : Int) ≤ (pre.length : Int) + 1 := by omega
      have x1 : p.extract 0 (max (pre.length : Int) 1).toNat = mk (joinP init) := by
        apply bs_inj
        rw [bs_mk, ← hdir, bs, Lib.extract_data, show (max (pre.length : Int) 1).toNat = max pre.length 1 by omega]
        rfl
      have X1 := Lib.hid x1; clear x1 hdir
      have q5 : max (pre.length : Int) 1 ≤ (p.size : Int) := by omega
      have q6 : (0 : Int) ≤ max (pre.length : Int) 1 := by omega
      clear hwl
      go_enter Tryz.func94, Tryz.ntmps94
      go_wp2_with (fail)
      refine h1.mono ?_
      rintro e w1 ⟨v1, rfl, hO1, hb1⟩
      obtain ⟨a1, c1, rfl, _, _, _⟩ := rd_cellsS hO1.rd
      rw [List.length_map]
      clear hO1
      go_wp2_with (fail)
      refine (Hlast.out _).mono ?_
      rintro e w2 ⟨rfl, hw2⟩
      obtain rfl : w1 = w2 := hw2.symm
      go_wp2_with (fail)
      generalize w1 = W1 at *
      go_quiet (fail)
      go_wp2_with (fail)
      go_ret3
      refine ⟨?_, ?_⟩
      · rw [← X1.out, ← X2.out]
        rfl
      · exact hb1.trans (below_drewN W1 _ |>.mono hb1.size)
  · have hpe : parE (bs p) = splitE (bs p) := by rw [parE, if_neg hE]
    obtain ⟨d1, d2⟩ := par_no (p := bs p) (by rw [hpe]; exact hE)
    rw [hpe, d1, d2]
    clear hpe d1 d2
    generalize splitE (bs p) = E at *
    have q1 : (E != 0) = true := bne_iff_ne.2 hE
    clear hM hl6
    go_enter Tryz.func94, Tryz.ntmps94
    go_wp2_with (fail)
    refine h1.mono ?_
    rintro e w1 ⟨v1, rfl, hO1, hb1⟩
    go_wp2_with (fail)
    go_ret3
    exact ⟨rfl, hb1⟩
end Go.Proofs.YtdfckkadmgmcaaaGreatDoor.Path

/- Paths, in plain words: what is under what. -/
namespace Go.Proofs.YtdfckkadmgmcaaaGreatDoor.Path
open Go.RowKit
set_option linter.unusedSimpArgs false
set_option linter.unusedVariables false

theorem under_iff {a b : Bs} : underL a b = true ↔ splitE a = 0 ∧ splitE b = 0 ∧ splitL a <+: splitL b := by
  simp only [underL, Bool.and_eq_true, decide_eq_true_eq, List.isPrefixOf_iff_prefix, and_assoc]
theorem under_trans {a b c : Bs} (h1 : underL a b = true) (h2 : underL b c = true) : underL a c = true := by
  obtain ⟨x1, x2, x3⟩ := under_iff.1 h1
  obtain ⟨y1, y2, y3⟩ := under_iff.1 h2
  exact under_iff.2 ⟨x1, y2, x3.trans y3⟩
theorem under_anti {a b : Bs} (h1 : underL a b = true) (h2 : underL b a = true) : a = b := by
  obtain ⟨x1, x2, x3⟩ := under_iff.1 h1
  obtain ⟨y1, y2, y3⟩ := under_iff.1 h2
  exact split_inj x1 x2 (x3.eq_of_length (Nat.le_antisymm x3.length_le y3.length_le))
theorem inter_pre {ns : List Bs} {k : Nat} : (joinP (ns.take k)).length ≤ (joinP ns).length := by
  induction ns generalizing k with
  | nil => simp
  | cons x r ih =>
    cases k with
    | zero => simp [joinP, inter_nil]
    | succ k =>
      rw [List.take_succ_cons]
      have h := ih (k := k)
      cases r with
      | nil => simp
      | cons y r =>
        cases k with
        | zero => simp only [List.take_zero]; rw [joinP, joinP, inter_one, inter_cons]; simp
        | succ k =>
          rw [List.take_succ_cons] at h ⊢
          rw [joinP, joinP, inter_cons, inter_cons]
          rw [joinP, joinP] at h
          simp only [List.length_cons, List.length_append] at h ⊢
          omega
structure ParMore (p : Bs) (init : List Bs) (n : Bs) : Prop where
  E : joinE init = 0
  dE : splitE (joinP init) = 0
  dL : splitL (joinP init) = init
  up : underL (joinP init) p = true
  self : underL p p = true
  down : underL p (joinP init) = false
  name : nameL n = true
  root : underL [47] p = true
theorem par_more {p n pre : Bs} {init : List Bs} (hE : splitE p = 0) (h : Par p init n pre) : ParMore p init n := by
  obtain ⟨g1, g2⟩ := split_ok hE
  rw [h.L] at g1 g2
  obtain ⟨v1, v2, v3⟩ := joinE_ok.1 g1
  have hI : joinE init = 0 := by
    refine joinE_ok.2 ⟨fun x hx => v1 x (by simp [hx]), by simp at v2; omega, ?_⟩
    have := inter_pre (ns := init ++ [n]) (k := init.length)
    rw [List.take_left' rfl] at this
    omega
  obtain ⟨e1, e2⟩ := join_ok hI
  refine ⟨hI, e1, e2, under_iff.2 ⟨e1, hE, by rw [e2, h.L]; exact List.prefix_append _ _⟩, under_iff.2 ⟨hE, hE, List.prefix_refl _⟩, ?_, v1 n (by simp), under_iff.2 ⟨by decide, hE, by rw [show splitL [47] = [] by decide]; exact List.nil_prefix⟩⟩
  rw [Bool.eq_false_iff]
  intro hu
  have := (under_iff.1 hu).2.2.length_le
  rw [h.L, e2] at this
  simp at this
  omega

end Go.Proofs.YtdfckkadmgmcaaaGreatDoor.Path

/- Paths: the document's Under, Parent. -/
namespace Go.Proofs.YtdfckkadmgmcaaaGreatDoor.Path
open Go.RowKit
set_option linter.unusedSimpArgs false
set_option linter.unusedVariables false

set_option maxHeartbeats 4000000 in
theorem runder_calls (w : World) (a b : ByteArray) :
    Calls Tryz.prog 149 #[.string a, .string b] w fun e w' => e = .returned (.bool (underL (bs a) (bs b))) ∧ Below w.heap.size w w' := by
  have h1 := rsplit_calls w a
  have h2 := fun W => rsplit_calls W b
  have hl1 := split_six (bs a)
  have hl2 := split_six (bs b)
  have ways := under_ways (bs a) (bs b)
  generalize underL (bs a) (bs b) = u at *
  generalize splitE (bs a) = E at *
  generalize splitE (bs b) = F at *
  generalize splitL (bs a) = L at *
  generalize splitL (bs b) = M at *
  have H2 := Lib.hid h2; clear h2
  rcases ways with ⟨hE, rfl⟩ | ⟨hE, hF, rfl⟩ | ⟨hE, hF, hlt, rfl⟩ | ⟨hE, hF, hge, hu⟩
  focus
    have q1 : (E != 0) = true := bne_iff_ne.2 hE
  rotate_left
  focus
    subst hE
    have q2 : (F != 0) = true := bne_iff_ne.2 hF
  rotate_left
  focus
    subst hE hF
    have q3 : (M.length : Int) < (L.length : Int) := by omega
  rotate_left
  focus
    subst hE hF
    have q3 : ¬ (M.length : Int) < (L.length : Int) := by omega
    have Hu := Lib.hid hu; clear hu
  rotate_left
  all_goals
    go_enter Tryz.func149, Tryz.ntmps149
    go_wp2_with (fail)
    refine h1.mono ?_
    rintro e w1 ⟨v1, rfl, hO1, hb1⟩
    go_wp2_with (fail)
    refine (H2.out _).mono ?_
    rintro e w2 ⟨v2, rfl, hO2, hb2⟩
    have hB2 := hb1.trans (hb2.mono hb1.size)
    obtain ⟨a1, c1, rfl, _, _, hc1⟩ := rd_cellsS (hO1.rd.below hb2 (Nat.le_refl _))
    obtain ⟨a2, c2, rfl, _, _, hc2⟩ := rd_cellsS hO2.rd
    rw [List.length_map] at *
    have Hc1 := Lib.hid hc1; have Hc2 := Lib.hid hc2; clear hc1 hc2 hO1 hO2
    go_wp2_with (fail)
  rotate_left
  rotate_left
  rotate_left
  focus
    go_loopw [9] (fun vk wr => ∃ k : Nat, vk = .int .i64 k ∧ k ≤ L.length ∧ L.take k = M.take k ∧ Below w2.heap.size w2 wr) (fun vk _ => L.length - (intOf vk).toNat)
    case atStart => exact ⟨0, rfl, Nat.zero_le _, rfl, Below.refl _ _⟩
    case round =>
      obtain ⟨k, rfl, hk, heq, hb⟩ := hrel
      have Heq := Lib.hid heq; clear heq
      by_cases hlt : k < L.length
      · have hlt2 : k < M.length := by omega
        obtain ⟨x, hx⟩ : ∃ x, L[k]? = some x := ⟨L[k], by simp [hlt]⟩
        obtain ⟨y, hy⟩ : ∃ y, M[k]? = some y := ⟨M[k], by simp [hlt2]⟩
        obtain ⟨b1, o1, rfl, _, d1⟩ := Hc1.out wr hb k (mk x) (by simp [hx])
        obtain ⟨b2, o2, rfl, _, d2⟩ := Hc2.out wr hb k (mk y) (by simp [hy])
        have Hx := Lib.hid hx; have Hy := Lib.hid hy; clear hx hy
        by_cases hxy : x = y
        · subst hxy
          have hn : L.take (k + 1) = M.take (k + 1) := by rw [List.take_add_one, List.take_add_one, Heq.out, Hx.out, Hy.out]
          have Hn := Lib.hid hn; clear hn
          have hxx : ((mk x).toList != (mk x).toList) = false := by simp
          go_wp2_with (fail)
          go_quiet (fail)
          go_wp2_with (fail)
          go_roundw
          case rel => exact ⟨k + 1, by go_num, by omega, Hn.out, ⟨hb.os, hb.tape, hb.output, hb.size, hb.block⟩⟩
          case measure => simp [intOf]; omega
        · have hn := pre_not Hx.out Hy.out hxy
          have Hn := Lib.hid hn; clear hn
          have z1 : ((mk x).toList == (mk y).toList) = false := by rw [tl_bs, tl_bs, bs_mk, bs_mk]; simpa using hxy
          have z2 : ((mk x).toList != (mk y).toList) = true := by rw [tl_bs, tl_bs, bs_mk, bs_mk]; simpa using hxy
          have Hxy := Lib.hid hxy; clear hxy
          go_wp2_with (fail)
          go_quiet (fail)
          go_wp2_with (fail)
          go_ret
          refine ⟨ret_bool (Hu.out.trans Hn.out).symm, ?_⟩
          have h := hB2.trans (hb.mono hB2.size)
          exact ⟨h.os, h.tape, h.output, h.size, h.block⟩
      · obtain rfl : k = L.length := by omega
        have he := Heq.out
        rw [List.take_length] at he
        have hn := pre_all he
        have Hn := Lib.hid hn; clear hn he
        go_wp2_with (fail)
        go_ret
        exact ⟨ret_bool (Hu.out.trans Hn.out).symm, hB2.trans (hb.mono hB2.size)⟩
  all_goals
    go_ret
    exact ⟨rfl, hB2⟩

theorem map_bs_mk' (ns : List Bs) : (ns.map mk).map bs = ns := by
  have := map_back0 ns
  rwa [List.append_nil] at this
theorem rd_take {w : World} {ao : Option Addr} {n cap k : Nat} {l : List ByteArray} (h : Rd w 1 encS (.slice ao n cap) l) (hk : k ≤ l.length) : Rd w 1 encS (.slice ao k cap) (l.take k) := by
  obtain ⟨ao', cap', hv, hc, hm, hcell⟩ := h
  simp only [Value.slice.injEq] at hv
  obtain ⟨rfl, rfl, rfl⟩ := hv
  refine ⟨ao, cap, by rw [List.length_take]; congr 1; omega, by rw [List.length_take]; omega, hm, fun i x hx => hcell i x ?_⟩
  rw [List.getElem?_take] at hx
  split at hx
  · exact hx
  · cases hx

set_option maxHeartbeats 4000000 in
theorem rparent_calls (w : World) (p : ByteArray) :
    Calls Tryz.prog 110 #[.string p] w (ParPost w (parD (bs p)) (parN (bs p)) (parE (bs p))) := by
  have h1 := rsplit_calls w p
  have hl6 := split_six (bs p)
  by_cases hE : splitE (bs p) = 0
  · by_cases hL : splitL (bs p) = []
    · have hpe : parE (bs p) = 1 := by rw [parE, if_pos hE, if_pos hL]
      obtain ⟨d1, d2⟩ := par_no (p := bs p) (by rw [hpe]; decide)
      rw [hpe, d1, d2]
      rw [hE, hL] at h1
      clear hpe d1 d2 hE hL hl6
      go_enter Tryz.func110, Tryz.ntmps110
      go_wp2_with (fail)
      refine h1.mono ?_
      rintro e w1 ⟨v1, rfl, hO1, hb1⟩
      obtain ⟨a1, c1, rfl, _, _, _⟩ := rd_cellsS hO1.rd
      go_wp2_with (fail)
      go_ret3
      exact ⟨rfl, hb1⟩
    · obtain ⟨init, n, pre, hp⟩ := par_yes hE hL
      have g1 := (split_ok hE).1
      rw [hp.L] at g1 hl6
      obtain ⟨v1, v2, v3⟩ := joinE_ok.1 g1
      rw [hp.E, hp.D, hp.N]
      rw [hE, hp.L] at h1
      have hI : joinE init = 0 := by
        have hle : (joinP init).length ≤ (bs p).length := by
          have := hp.dir
          rw [← this]
          rw [List.length_take]; omega
        have hb : (bs p).length ≤ 120 := by
          have := hE
          rw [splitE] at this
          split at this
          · cases this
          · omega
        exact joinE_ok.2 ⟨fun x hx => v1 x (by simp [hx]), by simp at v2; omega, by omega⟩
      have hS : joinS init = joinP init := if_pos hI
      have hlen : (init ++ [n]).length = init.length + 1 := by simp
      rw [hlen] at hl6
      have q0 : (((init.length + 1 : Nat) : Int) == 0) = false := beq_false_of_ne (by omega)
      have q0' : ((init.length : Int) + 1 == 0) = false := beq_false_of_ne (by omega)
      have q1 : IntKind.i64.wrap ((init.length : Int) + 1 - 1) = (init.length : Int) := by rw [IntKind.wrap_i64]; omega
      have q2 : (init.length : Int) < (init.length : Int) + 1 := by omega
      have HI := Lib.hid hI; have HS := Lib.hid hS
      clear hE hL hp g1 v1 v2 v3 hI hS
      go_enter Tryz.func110, Tryz.ntmps110
      go_wp2_with (fail)
      refine h1.mono ?_
      rintro e w1 ⟨v1, rfl, hO1, hb1⟩
      have hrd := hO1.rd
      obtain ⟨a1, c1, rfl, hcap, _, hcell⟩ := rd_cellsS hrd
      rw [List.length_map, hlen] at *
      have hrt := rd_take hrd (k := init.length) (by simp)
      rw [List.map_append, List.take_left' (by simp)] at hrt
      have hj := rjoin_calls w1 _ _ hrt (by simp; omega)
      rw [map_bs_mk', HI.out, HS.out] at hj
      have hcl := fun W hW => hcell W hW init.length (mk n) (by simp)
      have Hcl := Lib.hid hcl; have Hcap := Lib.hid hcap; clear hcl hcell hrt hrd hO1
      have q3 : (init.length : Int) ≤ (c1 : Int) := by have := Hcap.out; omega
      go_wp2_with (fail)
      refine hj.mono ?_
      rintro e w2 ⟨rfl, hb2⟩
      have hB2 := hb1.trans (hb2.mono hb1.size)
      obtain ⟨b, off, rfl, _, c0⟩ := Hcl.out w2 hb2
      clear hj h1
      go_wp2_with (fail)
      go_quiet (fail)
      go_wp2_with (fail)
      go_ret3
      exact ⟨rfl, hB2.trans (below_drewN w2 _ |>.mono hB2.size)⟩
  · have hpe : parE (bs p) = splitE (bs p) := by rw [parE, if_neg hE]
    obtain ⟨d1, d2⟩ := par_no (p := bs p) (by rw [hpe]; exact hE)
    rw [hpe, d1, d2]
    clear hpe d1 d2
    generalize splitE (bs p) = E at *
    have q1 : (E != 0) = true := bne_iff_ne.2 hE
    clear hl6
    go_enter Tryz.func110, Tryz.ntmps110
    go_wp2_with (fail)
    refine h1.mono ?_
    rintro e w1 ⟨v1, rfl, hO1, hb1⟩
    go_wp2_with (fail)
    go_ret3
    exact ⟨rfl, hb1⟩
end Go.Proofs.YtdfckkadmgmcaaaGreatDoor.Path
