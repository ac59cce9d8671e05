/- Parts of the proof, one behind the other: Va, Vb, Vc, Vd. -/
import Derived.Test.YtdfckkadmgmcaaaGreatDoorGd
import Derived.Test.YtdfckkadmgmcaaaGreatDoorGe
/- Spaces, in plain words; a set of numbers in a map, told by a function. -/
namespace Go.Proofs.YtdfckkadmgmcaaaGreatDoor.Space
open Go.RowKit Go.Maps Go.WideMaps
open Path (Bs bs mk bs_mk mk_bs tl_bs MaxC)
open Tree
open Quota (overL)
set_option linter.unusedSimpArgs false
set_option linter.unusedVariables false
theorem law : Keyed Tryz.prog 3 := int_keyed Tryz.underlying3
theorem zeroB (w : World) : (zeroValue 4).run Tryz.prog w = .ok (.bool false) w := by kernel_rfl
theorem plain_bool {v : Value} {z : DataW Unit × List MemPlace} (h : plainElem Tryz.prog 4 v = some z) : ∃ x, v = .bool x ∧ z = (.lit (.bool x), []) := by
  have hu := Tryz.underlying4
  cases v <;> simp [plainElem, hu] at h
  all_goals exact ⟨_, rfl, h.symm⟩
structure MapB (w : World) (b n : Nat) (f : Int → Bool) : Prop where
  own : ∃ D : DataW Unit, w.ownsMap Tryz.prog 3 (plainElem Tryz.prog 4) b n D ∧ ∀ i : Int, D.atKey (.int .i64 i) (.lit (.bool false)) = .lit (.bool (f i))
section
variable {w : World} {b n : Nat} {f : Int → Bool}
theorem MapB.made (w : World) : MapB (w.alloc (.map #[] 0)) w.heap.size 0 (fun _ => false) :=
  ⟨.map [], World.ownsMap_made _ _ _ _, fun _ => rfl⟩
theorem MapB.lt (h : MapB w b n f) : b < w.heap.size := by obtain ⟨D, h1, _⟩ := h.own; exact h1.lt
theorem MapB.below {w' : World} {B : Nat} (h : MapB w b n f) (hb : Below B w w') (hB : b < B) : MapB w' b n f := by
  obtain ⟨D, ⟨es, clock, g1, g2⟩, h2⟩ := h.own
  exact ⟨D, ⟨es, clock, (hb.block b hB).trans g1, g2⟩, h2⟩
theorem MapB.mono {n' : Nat} (h : MapB w b n f) (hn : n ≤ n') : MapB w b n' f := by
  obtain ⟨D, h1, h2⟩ := h.own
  exact ⟨D, h1.mono hn, h2⟩
theorem MapB.cong {g : Int → Bool} (h : MapB w b n f) (hg : ∀ s, g s = f s) : MapB w b n g := by
  obtain rfl : g = f := funext hg
  exact h
theorem wfI {i : Int} (h : inI i) : (Lit.int .i64 i).wf = true := by
  obtain ⟨h1, h2⟩ := h
  simp [Lit.wf, IntKind.min, IntKind.max, IntKind.signed, IntKind.bits]
  omega
theorem MapB.look (h : MapB w b n f) {i : Int} (hi : inI i) : (Instr.lookup 90 (.map (some b)) (.int .i64 i) false).run Tryz.prog w = .ok (.bool (f i)) w := by
  obtain ⟨D, h1, h2⟩ := h.own
  obtain ⟨v, ps, hr, hv⟩ := h1.lookup law Tryz.underlying90 (zeroB w) (plainElem_bool Tryz.underlying4 false) (keyOf_int_mk Tryz.underlying3 (wfI hi))
  obtain ⟨x, rfl, hx⟩ := plain_bool hv
  simp only [Prod.mk.injEq] at hx
  have := hx.1.symm.trans (h2 i)
  simp only [DataW.lit.injEq, Lit.bool.injEq] at this
  rw [hr, this]
theorem MapB.upd {ops : Array Oper} {rest : List Oper} {o : Oper} {a : Act} {Q : Exit → Act → World → Prop} (h : MapB w b n f) (hn : n < maxLen) (hgd : o.guard = none) (m x v : Operand) (hop : o.op = Op.mapUpdate 90 m x v)
    (hm : a.eval m = .map (some b)) {i : Int} (hx : a.eval x = .int .i64 i) (hi : inI i) {c : Bool} (hv : a.eval v = .bool c)
    (hK : ∀ w', MapB w' b (n + 1) (fun s => if s = i then c else f s) → w.grownBy w' (some b) → wpList Tryz.prog ops Q rest (a.put o.dst undef) w') : wpList Tryz.prog ops Q (o :: rest) a w := by
  obtain ⟨D, h1, h2⟩ := h.own
  have hkey := keyOf_int_mk (P := Tryz.prog) Tryz.underlying3 (wfI hi)
  refine wpList_mapUpdate_own w hgd m x v 90 hop 3 4 law Tryz.underlying90 _ b n D hm h1 hn _ _ _ hx hv hkey _ [] (plainElem_bool Tryz.underlying4 c) ?_
  intro w1 hown hg
  refine hK w1 ⟨_, hown, fun s => ?_⟩ hg
  by_cases e : s = i
  · subst e
    simp only [if_pos]
    exact atKey_put_same (k := .int .i64 s) h1.isMap trivial _ _
  · rw [if_neg e, atKey_put_other (fun hh => e (by injection hh))]
    exact h2 s
end
end Go.Proofs.YtdfckkadmgmcaaaGreatDoor.Space

/- Spaces, in plain words: which are right. -/
namespace Go.Proofs.YtdfckkadmgmcaaaGreatDoor.Space
open Go.RowKit
open Path (Bs bs mk bs_mk mk_bs tl_bs MaxC)
open Tree
open Quota (overL)
set_option linter.unusedSimpArgs false
set_option linter.unusedVariables false
/-- A space: its numbers, nodes, leases, and the values that the last two have. -/
structure Sp where
  txid : Int
  nb : Int
  ng : Int
  now : Int
  nodes : List Nd
  leases : List Lease.Le
  vn : Value
  vl : Value
def spC (s : Sp) : Array Value := #[.int .i64 s.txid, .int .i64 s.nb, .int .i64 s.ng, .int .i64 s.now, s.vn, s.vl]
structure RdSp (w : World) (s : Sp) : Prop where
  n : RdN w s.vn s.nodes
  l : Rd w 2 Lease.encL s.vl s.leases
  nn : s.nodes.length ≤ 8796093022208
  ln : s.leases.length ≤ 8796093022208
theorem RdSp.below {w w' : World} {s : Sp} (h : RdSp w s) (hb : Below w.heap.size w w') : RdSp w' s := ⟨h.n.below hb, h.l.below hb (Nat.le_refl _), h.nn, h.ln⟩
def inB (n lo hi : Int) : Bool := decide (lo ≤ n) && decide (n ≤ hi)
def numsB (s : Sp) : Bool := inB s.txid 0 300 && inB s.nb 1 9007199254740991 && inB s.ng 1 9007199254740991 && inB s.now 0 9007199254740981
def allB (l : List Nd) : List Bl := l.flatMap fun x => x.blocks
def ids (B : List Bl) : List Int := B.map fun b => b.id
def okP (nb ng : Int) (B : List Bl) : Prop := (ids B).Nodup ∧ ∀ b ∈ B, b.id < nb ∧ b.gen < ng
instance (nb ng : Int) (B : List Bl) : Decidable (okP nb ng B) := by unfold okP; exact inferInstance
def okW (ls : List Lease.Le) (l : List Nd) : Prop := ∀ x ∈ l, 0 ≤ x.writer → Lease.untilB x.writer ls = true
instance (ls : List Lease.Le) (l : List Nd) : Decidable (okW ls l) := by unfold okW; exact inferInstance
def restB (s : Sp) : Bool := decide (okW s.leases s.nodes) && decide (okP s.nb s.ng (allB s.nodes))
def partsB (s : Sp) : Bool := rightT s.nodes && Lease.rightB s.leases && decide ((overL s.nodes).length = 0)
def spaceB (s : Sp) : Bool := numsB s && partsB s && restB s
theorem ok_snoc {nb ng : Int} {B : List Bl} {b : Bl} : okP nb ng (B ++ [b]) ↔ okP nb ng B ∧ b.id ∉ ids B ∧ b.id < nb ∧ b.gen < ng := by
  simp only [okP, ids, List.map_append, List.map_cons, List.map_nil]
  rw [List.nodup_append]
  constructor
  · rintro ⟨⟨h1, _, h2⟩, h3⟩
    exact ⟨⟨h1, fun c hc => h3 c (List.mem_append_left _ hc)⟩, fun hm => h2 _ hm _ (List.mem_singleton.2 rfl) rfl, h3 b (by simp)⟩
  · rintro ⟨⟨h1, h2⟩, h3, h4⟩
    refine ⟨⟨h1, by simp, fun a ha c hc => ?_⟩, fun c hc => ?_⟩
    · rw [List.mem_singleton] at hc
      subst hc
      exact fun e => h3 (e ▸ ha)
    · rcases List.mem_append.1 hc with hc | hc
      · exact h2 c hc
      · rw [List.mem_singleton] at hc; subst hc; exact h4
theorem ok_pre {nb ng : Int} {B C : List Bl} (h : okP nb ng (B ++ C)) : okP nb ng B := by
  obtain ⟨h1, h2⟩ := h
  refine ⟨?_, fun b hb => h2 b (List.mem_append_left _ hb)⟩
  rw [ids, List.map_append, List.nodup_append] at h1
  exact h1.1
/-- The blocks that have been looked at when node k's first j have. -/
def seenL (l : List Nd) (k : Nat) (x : Nd) (j : Nat) : List Bl := allB (l.take k) ++ x.blocks.take j
theorem seen_next {l : List Nd} {k : Nat} {x : Nd} (hx : l[k]? = some x) : seenL l k x x.blocks.length = allB (l.take (k + 1)) := by
  rw [seenL, List.take_add_one, hx, List.take_length]
  simp [allB]
theorem seen_snoc {l : List Nd} {k : Nat} {x : Nd} {j : Nat} {b : Bl} (hb : x.blocks[j]? = some b) : seenL l k x (j + 1) = seenL l k x j ++ [b] := by
  rw [seenL, seenL, List.take_add_one, hb, List.append_assoc]; rfl
theorem seen_pre {l : List Nd} {k : Nat} {x : Nd} (hx : l[k]? = some x) (j : Nat) : ∃ C, allB l = seenL l k x j ++ C := by
  refine ⟨x.blocks.drop j ++ allB (l.drop (k + 1)), ?_⟩
  have hlt := (List.getElem?_eq_some_iff.1 hx).1
  have hd : l = l.take (k + 1) ++ l.drop (k + 1) := (List.take_append_drop _ _).symm
  conv => lhs; rw [hd]
  rw [seenL, List.take_add_one, hx]
  simp [allB]
  rw [← List.append_assoc, List.take_append_drop]
theorem rest_no_writer {s : Sp} {x : Nd} (hx : x ∈ s.nodes) (h0 : 0 ≤ x.writer) (hn : Lease.untilB x.writer s.leases = false) : restB s = false := by
  rw [restB, decide_eq_false (fun h : okW _ _ => by have := h x hx h0; rw [hn] at this; cases this)]; rfl
theorem rest_no_block {s : Sp} {k j : Nat} {x : Nd} {b : Bl} (hx : s.nodes[k]? = some x) (hb : x.blocks[j]? = some b) (hn : b.id ∈ ids (seenL s.nodes k x j) ∨ ¬ b.id < s.nb ∨ ¬ b.gen < s.ng) : restB s = false := by
  rw [restB, decide_eq_false (fun h : okP _ _ _ => by
    obtain ⟨C, hC⟩ := seen_pre hx (j + 1)
    rw [hC] at h
    have h2 := ok_pre h
    rw [seen_snoc hb, ok_snoc] at h2
    rcases hn with h3 | h3 | h3
    · exact h2.2.1 h3
    · exact h3 h2.2.2.1
    · exact h3 h2.2.2.2), Bool.and_false]
theorem rest_yes {s : Sp} (h1 : okW s.leases s.nodes) (h2 : okP s.nb s.ng (allB s.nodes)) : restB s = true := by
  rw [restB, decide_eq_true h1, decide_eq_true h2]; rfl
theorem okW_next {ls : List Lease.Le} {l : List Nd} {k : Nat} {x : Nd} (hx : l[k]? = some x) (h : okW ls (l.take k)) (hw : 0 ≤ x.writer → Lease.untilB x.writer ls = true) : okW ls (l.take (k + 1)) := by
  intro y hy
  rw [List.take_add_one, hx] at hy
  rcases List.mem_append.1 hy with hy | hy
  · exact h y hy
  · have : y = x := by simpa using hy
    subst this; exact hw
theorem right_fit {l : List Nd} (h : rightT l = true) {x : Nd} (hx : x ∈ l) : fitsN x = true := by
  simp only [rightT, rightA, Bool.and_eq_true] at h
  obtain ⟨⟨_, h2⟩, _⟩ := h
  obtain ⟨k, hk⟩ := List.mem_iff_getElem?.1 hx
  exact (rightA_at (fun j hj => List.all_eq_true.1 h2 j (List.mem_range.2 hj)) hk).1
theorem fit_blocks {x : Nd} (h : fitsN x = true) : x.blocks.length ≤ 8 ∧ ∀ b ∈ x.blocks, 1 ≤ b.id ∧ b.id ≤ 9007199254740991 := by
  simp only [fitsN, Bool.and_eq_true] at h
  obtain ⟨_, h⟩ := h
  by_cases hd : x.dir = true
  · rw [if_pos hd] at h
    simp only [Bool.and_eq_true, decide_eq_true_eq] at h
    have h0 : x.blocks = [] := List.eq_nil_of_length_eq_zero h.1.1
    rw [h0]
    exact ⟨by simp, fun b hb => by cases hb⟩
  · rw [if_neg hd] at h
    simp only [Bool.and_eq_true, decide_eq_true_eq] at h
    refine ⟨h.1.2, fun b hb => ?_⟩
    have := List.all_eq_true.1 h.2 b hb
    simp only [okBl, oneB, Bool.and_eq_true, decide_eq_true_eq] at this
    omega
theorem mem_snoc {B : List Bl} {b : Bl} (i : Int) : decide (i ∈ ids (B ++ [b])) = if i = b.id then true else decide (i ∈ ids B) := by
  by_cases e : i = b.id
  · rw [if_pos e, decide_eq_true]; simp [ids, e]
  · rw [if_neg e, Bool.eq_iff_iff]; simp [ids, e]
end Go.Proofs.YtdfckkadmgmcaaaGreatDoor.Space

/- Spaces: space.Right, walked. -/
namespace Go.Proofs.YtdfckkadmgmcaaaGreatDoor.Space
open Go.RowKit
open Path (Bs bs mk bs_mk mk_bs tl_bs MaxC OwnS)
open Tree
open Quota (overL)
set_option linter.unusedSimpArgs false
set_option linter.unusedVariables false
set_option maxHeartbeats 4000000 in
theorem in_calls (w : World) (n lo hi : Int) : Calls Tryz.prog 57 #[.int .i64 n, .int .i64 lo, .int .i64 hi] w fun e w' => e = .returned (.bool (inB n lo hi)) ∧ w' = w := by
  go_enter Tryz.func57, Tryz.ntmps57
  by_cases h1 : lo ≤ n
  · go_wp2_with (fail)
    go_ret
    exact ⟨by rw [inB, decide_eq_true h1]; rfl, rfl⟩
  · go_wp2_with (fail)
    go_ret
    exact ⟨by rw [inB, decide_eq_false (by omega)]; rfl, rfl⟩
set_option maxRecDepth 8000 in
set_option maxHeartbeats 8000000 in
theorem right_no (w : World) (s : Sp) (hf : numsB s = false) : Calls Tryz.prog 22 #[.agg (spC s)] w fun e w' => e = .returned (.bool (spaceB s)) ∧ Below w.heap.size w w' := by
  have hin := fun W n lo hi => in_calls W n lo hi
  have hb0 := (Below.refl w.heap.size w).alloc (Nat.le_refl _) (.cells (spC s) 27 (0, 0))
  rw [spaceB, hf, Bool.false_and]
  have hways : inB s.txid 0 300 = false ∨ inB s.txid 0 300 = true ∧ inB s.nb 1 9007199254740991 = false ∨ inB s.txid 0 300 = true ∧ inB s.nb 1 9007199254740991 = true ∧ inB s.ng 1 9007199254740991 = false ∨
      inB s.txid 0 300 = true ∧ inB s.nb 1 9007199254740991 = true ∧ inB s.ng 1 9007199254740991 = true ∧ inB s.now 0 9007199254740981 = false := by
    revert hf
    rw [numsB]
    cases inB s.txid 0 300 <;> cases inB s.nb 1 9007199254740991 <;> cases inB s.ng 1 9007199254740991 <;> simp
  go_enter Tryz.func22, Tryz.ntmps22
  rw [spC] at *
  clear hf
  rcases hways with c1 | ⟨c1, c2⟩ | ⟨c1, c2, c3⟩ | ⟨c1, c2, c3, c4⟩
  · go_wp2_with (fail)
    refine (hin _ _ _ _).mono ?_; rintro e w1 ⟨rfl, rfl⟩; go_wp2_with (fail)
    go_ret
    exact ⟨rfl, hb0⟩
  · go_wp2_with (fail)
    refine (hin _ _ _ _).mono ?_; rintro e w1 ⟨rfl, rfl⟩; go_wp2_with (fail)
    refine (hin _ _ _ _).mono ?_; rintro e w1 ⟨rfl, rfl⟩; go_wp2_with (fail)
    go_ret
    exact ⟨rfl, hb0⟩
  · go_wp2_with (fail)
    refine (hin _ _ _ _).mono ?_; rintro e w1 ⟨rfl, rfl⟩; go_wp2_with (fail)
    refine (hin _ _ _ _).mono ?_; rintro e w1 ⟨rfl, rfl⟩; go_wp2_with (fail)
    refine (hin _ _ _ _).mono ?_; rintro e w1 ⟨rfl, rfl⟩; go_wp2_with (fail)
    go_ret
    exact ⟨rfl, hb0⟩
  · go_wp2_with (fail)
    refine (hin _ _ _ _).mono ?_; rintro e w1 ⟨rfl, rfl⟩; go_wp2_with (fail)
    refine (hin _ _ _ _).mono ?_; rintro e w1 ⟨rfl, rfl⟩; go_wp2_with (fail)
    refine (hin _ _ _ _).mono ?_; rintro e w1 ⟨rfl, rfl⟩; go_wp2_with (fail)
    refine (hin _ _ _ _).mono ?_; rintro e w1 ⟨rfl, rfl⟩; go_wp2_with (fail)
    go_ret
    exact ⟨rfl, hb0⟩
end Go.Proofs.YtdfckkadmgmcaaaGreatDoor.Space

/- Spaces: space.Right, walked to its end. -/
namespace Go.Proofs.YtdfckkadmgmcaaaGreatDoor.Space
open Go.RowKit
open Path (Bs bs mk bs_mk mk_bs tl_bs MaxC OwnS rd_cellsS)
open Tree
open Quota (overL)
set_option linter.unusedSimpArgs false
set_option linter.unusedVariables false
theorem parts_ways (s : Sp) : rightT s.nodes = false ∧ partsB s = false ∨ rightT s.nodes = true ∧ Lease.rightB s.leases = false ∧ partsB s = false ∨ rightT s.nodes = true ∧ Lease.rightB s.leases = true ∧ 0 < (overL s.nodes).length ∧ partsB s = false ∨
    rightT s.nodes = true ∧ Lease.rightB s.leases = true ∧ (overL s.nodes).length = 0 ∧ partsB s = true := by
  cases h1 : rightT s.nodes
  · exact .inl ⟨rfl, by rw [partsB, h1]; rfl⟩
  · cases h2 : Lease.rightB s.leases
    · exact .inr (.inl ⟨rfl, rfl, by rw [partsB, h1, h2]; rfl⟩)
    · by_cases h3 : (overL s.nodes).length = 0
      · exact .inr (.inr (.inr ⟨rfl, rfl, h3, by rw [partsB, h1, h2, decide_eq_true h3]; rfl⟩))
      · exact .inr (.inr (.inl ⟨rfl, rfl, by omega, by rw [partsB, h1, h2, decide_eq_false h3]; rfl⟩))
set_option maxRecDepth 8000 in
set_option maxHeartbeats 8000000 in
theorem right_yes (w : World) (s : Sp) (h : RdSp w s) (hM : MaxC w) (hN : numsB s = true) : Calls Tryz.prog 22 #[.agg (spC s)] w fun e w' => e = .returned (.bool (spaceB s)) ∧ Below w.heap.size w w' := by
  have hin := fun W n lo hi => in_calls W n lo hi
  have hb0 := (Below.refl w.heap.size w).alloc (Nat.le_refl _) (.cells #[.int .i64 s.txid, .int .i64 s.nb, .int .i64 s.ng, .int .i64 s.now, s.vn, s.vl] 27 (0, 0))
  have hk0 := heap_alloc_new w (.cells #[.int .i64 s.txid, .int .i64 s.nb, .int .i64 s.ng, .int .i64 s.now, s.vn, s.vl] 27 (0, 0))
  rw [spaceB, hN, Bool.true_and]
  simp only [numsB, Bool.and_eq_true] at hN
  obtain ⟨⟨⟨c1, c2⟩, c3⟩, c4⟩ := hN
  have htr := Tree.right_calls (w.alloc (.cells #[.int .i64 s.txid, .int .i64 s.nb, .int .i64 s.ng, .int .i64 s.now, s.vn, s.vl] 27 (0, 0))) s.vn s.nodes (h.n.below hb0) h.nn (hM.below hb0)
  have hlr := fun W (hW : Below w.heap.size w W) => Lease.right_calls W s.vl s.leases (h.l.below hW (Nat.le_refl _)) h.ln
  have hov := fun W (hW : Below w.heap.size w W) => Quota.over_calls W s.vn s.nodes (h.n.below hW) h.nn (hM.below hW)
  have hways := parts_ways s
  have Hlr := Lib.hid hlr; have Hov := Lib.hid hov; have Hb0 := Lib.hid hb0; have Hk0 := Lib.hid hk0; have Hh := Lib.hid h
  clear hlr hov hb0 hk0 h hM
  go_enter Tryz.func22, Tryz.ntmps22
  rw [spC]
  go_wp2_with (fail)
  refine (hin _ _ _ _).mono ?_; rintro e w1 ⟨rfl, rfl⟩; go_wp2_with (fail)
  refine (hin _ _ _ _).mono ?_; rintro e w1 ⟨rfl, rfl⟩; go_wp2_with (fail)
  refine (hin _ _ _ _).mono ?_; rintro e w1 ⟨rfl, rfl⟩; go_wp2_with (fail)
  refine (hin _ _ _ _).mono ?_; rintro e w1 ⟨rfl, rfl⟩; go_wp2_with (fail)
  clear hin c1 c4
  refine htr.mono ?_
  rintro e w1 ⟨rfl, hb1⟩
  have k1 := (hb1.block w.heap.size (by simp)).trans Hk0.out
  have hw1 : Below w.heap.size w w1 := Hb0.out.trans (hb1.mono (by simp))
  have hs1 : w.heap.size < w1.heap.size := by have := hb1.size; simp at this; omega
  have a4 := cell_of_blk (j := 4) k1
  have a5 := cell_of_blk (j := 5) k1
  simp only [List.getElem?_toArray, List.getElem?_cons_zero, List.getElem?_cons_succ] at a4 a5
  clear htr hb1
  have hlr1 := Hlr.out w1 hw1
  rcases hways with ⟨e1, e2⟩ | ⟨e1, e3, e2⟩ | ⟨e1, e3, e4, e2⟩ | ⟨e1, e3, e4, e2⟩
  · have hf : (partsB s && restB s) = false := by rw [e2]; rfl
    have Hf := Lib.hid hf
    clear hf e2 hlr1 Hov Hlr
    go_wp2_with (fail)
    go_ret
    rw [Hf.out]
    exact ⟨rfl, hw1⟩
  · have hf : (partsB s && restB s) = false := by rw [e2]; rfl
    have Hf := Lib.hid hf
    clear hf e2 Hov Hlr
    go_wp2_with (fail)
    refine hlr1.mono ?_
    rintro e w2 ⟨rfl, hb2⟩
    clear hlr1
    go_wp2_with (fail)
    go_ret
    rw [Hf.out]
    exact ⟨rfl, hw1.trans (hb2.mono (Nat.le_of_lt hs1))⟩
  · have hf : (partsB s && restB s) = false := by rw [e2]; rfl
    have Hf := Lib.hid hf; have K1 := Lib.hid k1
    clear hf e2 Hlr k1
    go_wp2_with (fail)
    refine hlr1.mono ?_
    rintro e w2 ⟨rfl, hb2⟩
    have k2 := (hb2.block w.heap.size hs1).trans K1.out
    have hw2 := hw1.trans (hb2.mono (Nat.le_of_lt hs1))
    have b4 := cell_of_blk (j := 4) k2
    simp only [List.getElem?_toArray, List.getElem?_cons_zero, List.getElem?_cons_succ] at b4
    have hov2 := Hov.out w2 hw2
    clear hlr1 a4 a5 k2 Hov
    go_wp2_with (fail)
    refine hov2.mono ?_
    rintro e w3 ⟨v3, rfl, hO, hb3⟩
    obtain ⟨ao, cap, rfl, _, _, _⟩ := rd_cellsS hO.rd
    have hs2 := hw2.size
    clear hov2 hO b4
    generalize (overL s.nodes).length = L at *
    have e5 : decide (0 < (L : Int)) = true := decide_eq_true (by omega)
    go_wp2_with (fail)
    go_ret
    rw [Hf.out]
    exact ⟨rfl, hw2.trans (hb3.mono hs2)⟩
  · have hf : (partsB s && restB s) = restB s := by rw [e2]; rfl
    have Hf := Lib.hid hf; have K1 := Lib.hid k1
    have E1 := Lib.hid e1; have E4 := Lib.hid e4
    clear e4
    clear hf e2 Hlr k1
    go_wp2_with (fail)
    refine hlr1.mono ?_
    rintro e w2 ⟨rfl, hb2⟩
    have k2 := (hb2.block w.heap.size hs1).trans K1.out
    have hw2 := hw1.trans (hb2.mono (Nat.le_of_lt hs1))
    have b4 := cell_of_blk (j := 4) k2
    simp only [List.getElem?_toArray, List.getElem?_cons_zero, List.getElem?_cons_succ] at b4
    have hov2 := Hov.out w2 hw2
    have hs2 : w.heap.size < w2.heap.size := Nat.lt_of_lt_of_le hs1 hb2.size
    have K2 := Lib.hid k2
    clear hlr1 a4 a5 k2 Hov e1 K1
    go_wp2_with (fail)
    refine hov2.mono ?_
    rintro e w3 ⟨v3, rfl, hO, hb3⟩
    obtain ⟨ao, cap, rfl, _, _, -⟩ := rd_cellsS hO.rd
    have k3 := (hb3.block w.heap.size hs2).trans K2.out
    have hw3 := hw2.trans (hb3.mono (Nat.le_of_lt hs2))
    have hs3 : w.heap.size < w3.heap.size := Nat.lt_of_lt_of_le hs2 hb3.size
    have b4 := cell_of_blk (j := 4) k3
    simp only [List.getElem?_toArray, List.getElem?_cons_zero, List.getElem?_cons_succ] at b4
    clear hov2 hO b4 K2 hw1 hw2 hb2 hb3 hs2 hs1
    generalize (overL s.nodes).length = L at *
    obtain rfl : L = 0 := E4.out
    clear E4
    have hm0 := MapB.made w3
    have hbm : Below w.heap.size w (w3.alloc (.map #[] 0)) := hw3.alloc (Nat.le_of_lt hs3) _
    have k4 := (((Below.refl w3.heap.size w3).alloc (Nat.le_refl _) (.map #[] 0)).block w.heap.size hs3).trans k3
    have b4 := cell_of_blk (j := 4) k4
    simp only [List.getElem?_toArray, List.getElem?_cons_zero, List.getElem?_cons_succ] at b4
    have Hm0 := Lib.hid hm0; have K3 := Lib.hid k3
    have hmm := @run_makeMap Tryz.prog
    obtain ⟨an, cn, hvn, _, _, hcell⟩ := rd_cellsN Hh.out.n.rd
    obtain ⟨_, hl60, _⟩ := Quota.right_node E1.out
    have hfit := fun x hx => right_fit E1.out (x := x) hx
    have hun := fun W (hW : Below w.heap.size w W) c => Lease.until_calls W s.vl s.leases c (Hh.out.l.below hW (Nat.le_refl _)) Hh.out.ln
    have hbl := fun x (hx : x ∈ s.nodes) => rd_cellsB (Hh.out.n.bl x hx)
    have Hcell := Lib.hid hcell; have Hfit := Lib.hid hfit; have Hun := Lib.hid hun; have Hbl := Lib.hid hbl
    rw [hvn] at b4
    clear hm0 k4 k3 hcell hfit hun hbl c2 c3 e3 Hh Hb0 Hk0 hvn
    go_wp2_with (fail)
    clear hmm b4
    have Hw3 := Lib.hid hw3; have Hbm := Lib.hid hbm
    clear hw3 hbm
    generalize hB : w3.heap.size = M at *
    go_loopw [58] (fun vk wr => ∃ k : Nat, vk = .int .i64 k ∧ k ≤ s.nodes.length ∧ MapB wr M (8 * k) (fun i => decide (i ∈ ids (allB (s.nodes.take k)))) ∧ okW s.leases (s.nodes.take k) ∧ okP s.nb s.ng (allB (s.nodes.take k)) ∧ Below M w3 wr) (fun vk _ => s.nodes.length - (intOf vk).toNat)
    case atStart => exact ⟨0, rfl, Nat.zero_le _, Hm0.out, fun x hx => (by cases hx), ⟨List.nodup_nil, fun x hx => (by cases hx)⟩, (by rw [← hB]; exact (Below.refl _ _).alloc (Nat.le_refl _) _)⟩
    case round =>
      obtain ⟨k, rfl, hk, hm, hw, hp, hb⟩ := hrel
      have Hm := Lib.hid hm; have Hw := Lib.hid hw; have Hp := Lib.hid hp
      have hszr : M < wr.heap.size := hm.lt
      clear hm hw hp
      by_cases hlt : k < s.nodes.length
      · obtain ⟨x, hx⟩ : ∃ x, s.nodes[k]? = some x := ⟨s.nodes[k], by simp [hlt]⟩
        have hxm := List.mem_of_getElem? hx
        have hbw : Below w.heap.size w wr := Hw3.out.trans (hb.mono (by omega))
        obtain ⟨b, off, rfl, _, d0, d1, d2, d3, d4⟩ := Hcell.out wr hbw k x hx
        have kr := (hb.block w.heap.size hs3).trans K3.out
        obtain ⟨ax, cx, hbvx, hcx1, hcx2, hbc⟩ := Hbl.out x hxm
        rw [hbvx] at d3
        obtain ⟨hbl8, hbid⟩ := fit_blocks (Hfit.out x hxm)
        have hA : Below wr.heap.size wr (wr.alloc (.cells #[.string x.path, .bool x.dir, .int .i64 x.quota, .slice ax x.blocks.length cx, .int .i64 x.writer] 35 (0, 0))) := (Below.refl _ _).alloc (Nat.le_refl _) _
        have hAk := heap_alloc_new wr (.cells #[.string x.path, .bool x.dir, .int .i64 x.quota, .slice ax x.blocks.length cx, .int .i64 x.writer] 35 (0, 0))
        have hun := Hun.out (wr.alloc (.cells #[.string x.path, .bool x.dir, .int .i64 x.quota, .slice ax x.blocks.length cx, .int .i64 x.writer] 35 (0, 0))) (hbw.trans (hA.mono (by have := hbw.size; omega))) x.writer
        have kA := (hA.block w.heap.size (by omega)).trans kr
        have f5 := cell_of_blk (j := 5) kA
        have f4 := cell_of_blk (j := 4) hAk
        simp only [List.getElem?_toArray, List.getElem?_cons_zero, List.getElem?_cons_succ] at f4 f5
        have hbad := fun h0 hn => rest_no_writer (s := s) hxm h0 hn
        have hokw := fun h => okW_next hx Hw.out h
        have Hx := Lib.hid hx; have Hb := Lib.hid hb; have HA := Lib.hid hA; have HAk := Lib.hid hAk; have Hbc := Lib.hid hbc; have Hbid := Lib.hid hbid; have Hbad := Lib.hid hbad; have Hokw := Lib.hid hokw; have Kr := Lib.hid kr; have KA := Lib.hid kA
        have Hbw := Lib.hid hbw
        clear hx hxm hb hA hAk hbc hbid hbad hokw kr kA hbw hbvx Hw
        go_wp2_with (fail)
        refine hun.mono ?_
        rintro e w5 ⟨rfl, hb5⟩
        have k5 := (hb5.block w.heap.size (by simp; omega)).trans KA.out
        have n5 := (hb5.block wr.heap.size (by simp)).trans HAk.out
        have g4 := cell_of_blk (j := 4) n5
        have g3 := cell_of_blk (j := 3) n5
        simp only [List.getElem?_toArray, List.getElem?_cons_zero, List.getElem?_cons_succ] at g3 g4
        have h5 : Below wr.heap.size wr w5 := HA.out.trans (hb5.mono (by simp))
        have h5M : Below M w3 w5 := Hb.out.trans (h5.mono (by omega))
        have hm5 := Hm.out.below h5 hszr
        have H5M := Lib.hid h5M; have K5 := Lib.hid k5; have H5 := Lib.hid h5
        have hsz5 : M < w5.heap.size := hm5.lt
        have Hm5 := Lib.hid hm5
        clear hun f4 f5 d0 d1 d2 d3 d4 hm5 h5M k5 h5 hb5 n5
        have hways : (decide (x.writer ≥ 0) = true ∧ Lease.untilB x.writer s.leases = false ∧ restB s = false) ∨ (decide (x.writer ≥ 0) = true ∧ Lease.untilB x.writer s.leases = true ∧ okW s.leases (s.nodes.take (k + 1))) ∨ (decide (x.writer ≥ 0) = false ∧ okW s.leases (s.nodes.take (k + 1))) := by
          by_cases h0 : 0 ≤ x.writer
          · cases hu : Lease.untilB x.writer s.leases
            · exact .inl ⟨decide_eq_true h0, rfl, Hbad.out h0 hu⟩
            · exact .inr (.inl ⟨decide_eq_true h0, rfl, Hokw.out fun _ => hu⟩)
          · exact .inr (.inr ⟨decide_eq_false h0, Hokw.out fun h => absurd h h0⟩)
        clear Hbad Hokw Hun Hcell Hbl Hfit
        rcases hways with ⟨v1, v2, v3⟩ | hways
        · have V3 := Lib.hid v3
          clear v3
          go_wp2_with (fail)
          go_ret
          rw [Hf.out, V3.out]
          exact ⟨rfl, Hw3.out.trans (H5M.out.mono (by omega))⟩
        · have hgo : okW s.leases (s.nodes.take (k + 1)) := by rcases hways with ⟨_, _, h⟩ | ⟨_, h⟩ <;> exact h
          have Hgo := Lib.hid hgo
          have hs0 : MapB w5 M (8 * k + 0) (fun i => decide (i ∈ ids (seenL s.nodes k x 0))) := Hm5.out.cong fun i => by simp [seenL]
          have hp0 : okP s.nb s.ng (seenL s.nodes k x 0) := by
            have := Hp.out
            simpa [seenL] using this
          have Hs0 := Lib.hid hs0; have Hp0 := Lib.hid hp0
          clear hgo hs0 hp0 Hm5 Hp Hm
          rcases hways with ⟨v1, v2, -⟩ | ⟨v1, -⟩
          all_goals
            go_wp2_with (fail)
            clear g3 g4
            obtain ⟨w4, rfl⟩ : ∃ w4 : World, w4 = wr := ⟨_, rfl⟩
            go_loopw [80] (fun vj wr => ∃ j : Nat, vj = .int .i64 j ∧ j ≤ x.blocks.length ∧ MapB wr M (8 * k + j) (fun i => decide (i ∈ ids (seenL s.nodes k x j))) ∧ okP s.nb s.ng (seenL s.nodes k x j) ∧ Below M w3 wr) (fun vj _ => x.blocks.length - (intOf vj).toNat)
            case atStart => exact ⟨0, rfl, Nat.zero_le _, Hs0.out, Hp0.out, H5M.out⟩
            case round =>
              obtain ⟨j, rfl, hj, hm, hp, hb⟩ := hrel
              have hsz6 : M < wr.heap.size := hm.lt
              by_cases hjl : j < x.blocks.length
              · obtain ⟨y, hy⟩ : ∃ y, x.blocks[j]? = some y := ⟨x.blocks[j], by simp [hjl]⟩
                obtain ⟨b2, off2, rfl, _, d0, d1, d2⟩ := Hbc.out wr (Hw3.out.trans (hb.mono (by omega))) j y hy
                obtain ⟨y1, y2⟩ := Hbid.out y (List.mem_of_getElem? hy)
                have k6 := (hb.block w.heap.size hs3).trans K3.out
                have hA : Below wr.heap.size wr (wr.alloc (.cells #[.int .i64 y.id, .int .i64 y.gen, .int .i64 y.len] 31 (0, 0))) := (Below.refl _ _).alloc (Nat.le_refl _) _
                have hAk := heap_alloc_new wr (.cells #[.int .i64 y.id, .int .i64 y.gen, .int .i64 y.len] 31 (0, 0))
                have hmA := hm.below hA (by omega)
                have hl := hmA.look (i := y.id) (by constructor <;> omega)
                have kA := (hA.block w.heap.size (by omega)).trans k6
                have f1 := cell_of_blk (j := 1) kA
                have f2 := cell_of_blk (j := 2) kA
                have f3 := cell_of_blk (j := 0) hAk
                have f4 := cell_of_blk (j := 1) hAk
                simp only [List.getElem?_toArray, List.getElem?_cons_zero, List.getElem?_cons_succ] at f1 f2 f3 f4
                have hno := rest_no_block (s := s) Hx.out hy
                have hsn := seen_snoc (l := s.nodes) (k := k) hy
                have HA := Lib.hid hA; have HAk := Lib.hid hAk; have HmA := Lib.hid hmA; have Hno := Lib.hid hno; have Hsn := Lib.hid hsn; have Hb6 := Lib.hid hb; have Hp6 := Lib.hid hp; have KA := Lib.hid kA
                clear hA hAk hmA hno hsn hb hp kA k6 hm hy
                have hw4 : (decide (y.id ∈ ids (seenL s.nodes k x j)) = true ∧ restB s = false) ∨ (decide (y.id ∈ ids (seenL s.nodes k x j)) = false ∧ decide (y.id ≥ s.nb) = true ∧ restB s = false) ∨ (decide (y.id ∈ ids (seenL s.nodes k x j)) = false ∧ decide (y.id ≥ s.nb) = false ∧ decide (y.gen ≥ s.ng) = true ∧ restB s = false) ∨
                    (decide (y.id ∈ ids (seenL s.nodes k x j)) = false ∧ decide (y.id ≥ s.nb) = false ∧ decide (y.gen ≥ s.ng) = false ∧ okP s.nb s.ng (seenL s.nodes k x (j + 1))) := by
                  by_cases z1 : y.id ∈ ids (seenL s.nodes k x j)
                  · exact .inl ⟨decide_eq_true z1, Hno.out (.inl z1)⟩
                  · by_cases z2 : y.id < s.nb
                    · by_cases z3 : y.gen < s.ng
                      · exact .inr (.inr (.inr ⟨decide_eq_false z1, decide_eq_false (by omega), decide_eq_false (by omega), by rw [Hsn.out]; exact ok_snoc.2 ⟨Hp6.out, z1, z2, z3⟩⟩))
                      · exact .inr (.inr (.inl ⟨decide_eq_false z1, decide_eq_false (by omega), decide_eq_true (by omega), Hno.out (.inr (.inr z3))⟩))
                    · exact .inr (.inl ⟨decide_eq_false z1, decide_eq_true (by omega), Hno.out (.inr (.inl z2))⟩)
                clear Hno Hp6
                rcases hw4 with ⟨z1, z4⟩ | ⟨z1, z2, z4⟩ | ⟨z1, z2, z3, z4⟩ | ⟨z1, z2, z3, z4⟩
                · rw [z1] at hl
                  have Hno2 := Lib.hid z4
                  clear z1 z4
                  go_wp2_with (fail); go_ret; rw [Hf.out, Hno2.out]; exact ⟨rfl, Hw3.out.trans ((Hb6.out.trans (HA.out.mono (by omega))).mono (by omega))⟩
                · rw [z1] at hl
                  have Hno2 := Lib.hid z4
                  clear z1 z4
                  go_wp2_with (fail); go_ret; rw [Hf.out, Hno2.out]; exact ⟨rfl, Hw3.out.trans ((Hb6.out.trans (HA.out.mono (by omega))).mono (by omega))⟩
                · rw [z1] at hl
                  have Hno2 := Lib.hid z4
                  clear z1 z4
                  go_wp2_with (fail); go_ret; rw [Hf.out, Hno2.out]; exact ⟨rfl, Hw3.out.trans ((Hb6.out.trans (HA.out.mono (by omega))).mono (by omega))⟩
                · rw [z1] at hl
                  have Hz4 := Lib.hid z4
                  clear z1 z4
                  have hin : inI y.id := by constructor <;> omega
                  go_wp2_with (first | (at_mapUpdate; refine MapB.upd HmA.out (by unfold maxLen; omega) rfl _ _ _ rfl rfl rfl hin rfl ?_; intro w7 hm7 hg7; simp only [Act.put]))
                  go_roundw
                  case rel =>
                    refine ⟨j + 1, by go_num, by omega, ?_, Hz4.out, ?_⟩
                    · rw [← Nat.add_assoc]
                      exact hm7.cong fun i => by rw [Hsn.out, mem_snoc]
                    · exact (Hb6.out.trans (HA.out.mono (by omega))).grown hg7 (by simp; omega) (fun g hg => by cases hg; exact Nat.le_refl _)
                  case measure => simp [intOf]; omega
              · obtain rfl : j = x.blocks.length := by omega
                have hnx := seen_next Hx.out
                rw [hnx] at hm hp
                have Hmm := Lib.hid (hm.mono (n' := 8 * (k + 1)) (by omega)); have Hpp := Lib.hid hp
                clear hm hp hnx
                go_wp2_with (fail)
                go_roundw
                case rel => exact ⟨k + 1, by go_num, by omega, Hmm.out, Hgo.out, Hpp.out, by trivial⟩
                case measure => simp [intOf]; omega
      · obtain rfl : k = s.nodes.length := by omega
        have hend := rest_yes (s := s) (by have := Hw.out; rwa [List.take_length] at this) (by have := Hp.out; rwa [List.take_length] at this)
        have Hend := Lib.hid hend
        clear hend
        go_wp2_with (fail)
        go_ret
        rw [Hf.out, Hend.out]
        exact ⟨rfl, Hw3.out.trans (hb.mono (by omega))⟩
theorem right_calls (w : World) (s : Sp) (h : RdSp w s) (hM : MaxC w) : Calls Tryz.prog 22 #[.agg (spC s)] w fun e w' => e = .returned (.bool (spaceB s)) ∧ Below w.heap.size w w' := by
  cases hN : numsB s
  · exact right_no w s hN
  · exact right_yes w s h hM hN
end Go.Proofs.YtdfckkadmgmcaaaGreatDoor.Space
