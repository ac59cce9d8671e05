/- Spaces, in plain words: which are right. -/
import Derived.Test.YtgpddngbccecfaaDoorVa
namespace Go.Proofs.YtgpddngbccecfaaDoor.Space
open Go.RowKit
open Path (Bs bs mk bs_mk mk_bs tl_bs MaxC)
open Tree
open Quota (overL)
set_option linter.unusedSimpArgs false
set_option linter.unusedVariables false
/-- A space: its numbers, nodes, leases, and the values that the last two have. -/
structure Sp where
  txid : Int
  nb : Int
  ng : Int
  now : Int
  nodes : List Nd
  leases : List Lease.Le
  vn : Value
  vl : Value
def spC (s : Sp) : Array Value := #[.int .i64 s.txid, .int .i64 s.nb, .int .i64 s.ng, .int .i64 s.now, s.vn, s.vl]
structure RdSp (w : World) (s : Sp) : Prop where
  n : RdN w s.vn s.nodes
  l : Rd w 2 Lease.encL s.vl s.leases
  nn : s.nodes.length ≤ 8796093022208
  ln : s.leases.length ≤ 8796093022208
theorem RdSp.below {w w' : World} {s : Sp} (h : RdSp w s) (hb : Below w.heap.size w w') : RdSp w' s := ⟨h.n.below hb, h.l.below hb (Nat.le_refl _), h.nn, h.ln⟩
def inB (n lo hi : Int) : Bool := decide (lo ≤ n) && decide (n ≤ hi)
def numsB (s : Sp) : Bool := inB s.txid 0 300 && inB s.nb 1 9007199254740991 && inB s.ng 1 9007199254740991 && inB s.now 0 9007199254740981
def allB (l : List Nd) : List Bl := l.flatMap fun x => x.blocks
def ids (B : List Bl) : List Int := B.map fun b => b.id
def okP (nb ng : Int) (B : List Bl) : Prop := (ids B).Nodup ∧ ∀ b ∈ B, b.id < nb ∧ b.gen < ng
instance (nb ng : Int) (B : List Bl) : Decidable (okP nb ng B) := by unfold okP; exact inferInstance
def okW (ls : List Lease.Le) (l : List Nd) : Prop := ∀ x ∈ l, 0 ≤ x.writer → Lease.untilB x.writer ls = true
instance (ls : List Lease.Le) (l : List Nd) : Decidable (okW ls l) := by unfold okW; exact inferInstance
def restB (s : Sp) : Bool := decide (okW s.leases s.nodes) && decide (okP s.nb s.ng (allB s.nodes))
def partsB (s : Sp) : Bool := rightT s.nodes && Lease.rightB s.leases && decide ((overL s.nodes).length = 0)
def spaceB (s : Sp) : Bool := numsB s && partsB s && restB s
theorem ok_snoc {nb ng : Int} {B : List Bl} {b : Bl} : okP nb ng (B ++ [b]) ↔ okP nb ng B ∧ b.id ∉ ids B ∧ b.id < nb ∧ b.gen < ng := by
  simp only [okP, ids, List.map_append, List.map_cons, List.map_nil]
  rw [List.nodup_append]
  constructor
  · rintro ⟨⟨h1, _, h2⟩, h3⟩
    exact ⟨⟨h1, fun c hc => h3 c (List.mem_append_left _ hc)⟩, fun hm => h2 _ hm _ (List.mem_singleton.2 rfl) rfl, h3 b (by simp)⟩
  · rintro ⟨⟨h1, h2⟩, h3, h4⟩
    refine ⟨⟨h1, by simp, fun a ha c hc => ?_⟩, fun c hc => ?_⟩
    · rw [List.mem_singleton] at hc
      subst hc
      exact fun e => h3 (e ▸ ha)
    · rcases List.mem_append.1 hc with hc | hc
      · exact h2 c hc
      · rw [List.mem_singleton] at hc; subst hc; exact h4
theorem ok_pre {nb ng : Int} {B C : List Bl} (h : okP nb ng (B ++ C)) : okP nb ng B := by
  obtain ⟨h1, h2⟩ := h
  refine ⟨?_, fun b hb => h2 b (List.mem_append_left _ hb)⟩
  rw [ids, List.map_append, List.nodup_append] at h1
  exact h1.1
/-- The blocks that have been looked at when node k's first j have. -/
def seenL (l : List Nd) (k : Nat) (x : Nd) (j : Nat) : List Bl := allB (l.take k) ++ x.blocks.take j
theorem seen_next {l : List Nd} {k : Nat} {x : Nd} (hx : l[k]? = some x) : seenL l k x x.blocks.length = allB (l.take (k + 1)) := by
  rw [seenL, List.take_add_one, hx, List.take_length]
  simp [allB]
theorem seen_snoc {l : List Nd} {k : Nat} {x : Nd} {j : Nat} {b : Bl} (hb : x.blocks[j]? = some b) : seenL l k x (j + 1) = seenL l k x j ++ [b] := by
  rw [seenL, seenL, List.take_add_one, hb, List.append_assoc]; rfl
theorem seen_pre {l : List Nd} {k : Nat} {x : Nd} (hx : l[k]? = some x) (j : Nat) : ∃ C, allB l = seenL l k x j ++ C := by
  refine ⟨x.blocks.drop j ++ allB (l.drop (k + 1)), ?_⟩
  have hlt := (List.getElem?_eq_some_iff.1 hx).1
  have hd : l = l.take (k + 1) ++ l.drop (k + 1) := (List.take_append_drop _ _).symm
  conv => lhs; rw [hd]
  rw [seenL, List.take_add_one, hx]
  simp [allB]
  rw [← List.append_assoc, List.take_append_drop]
theorem rest_no_writer {s : Sp} {x : Nd} (hx : x ∈ s.nodes) (h0 : 0 ≤ x.writer) (hn : Lease.untilB x.writer s.leases = false) : restB s = false := by
  rw [restB, decide_eq_false (fun h : okW _ _ => by have := h x hx h0; rw [hn] at this; cases this)]; rfl
theorem rest_no_block {s : Sp} {k j : Nat} {x : Nd} {b : Bl} (hx : s.nodes[k]? = some x) (hb : x.blocks[j]? = some b) (hn : b.id ∈ ids (seenL s.nodes k x j) ∨ ¬ b.id < s.nb ∨ ¬ b.gen < s.ng) : restB s = false := by
  rw [restB, decide_eq_false (fun h : okP _ _ _ => by
    obtain ⟨C, hC⟩ := seen_pre hx (j + 1)
    rw [hC] at h
    have h2 := ok_pre h
    rw [seen_snoc hb, ok_snoc] at h2
    rcases hn with h3 | h3 | h3
    · exact h2.2.1 h3
    · exact h3 h2.2.2.1
    · exact h3 h2.2.2.2), Bool.and_false]
theorem rest_yes {s : Sp} (h1 : okW s.leases s.nodes) (h2 : okP s.nb s.ng (allB s.nodes)) : restB s = true := by
  rw [restB, decide_eq_true h1, decide_eq_true h2]; rfl
theorem okW_next {ls : List Lease.Le} {l : List Nd} {k : Nat} {x : Nd} (hx : l[k]? = some x) (h : okW ls (l.take k)) (hw : 0 ≤ x.writer → Lease.untilB x.writer ls = true) : okW ls (l.take (k + 1)) := by
  intro y hy
  rw [List.take_add_one, hx] at hy
  rcases List.mem_append.1 hy with hy | hy
  · exact h y hy
  · have : y = x := by simpa using hy
    subst this; exact hw
theorem right_fit {l : List Nd} (h : rightT l = true) {x : Nd} (hx : x ∈ l) : fitsN x = true := by
  simp only [rightT, rightA, Bool.and_eq_true] at h
  obtain ⟨⟨_, h2⟩, _⟩ := h
  obtain ⟨k, hk⟩ := List.mem_iff_getElem?.1 hx
  exact (rightA_at (fun j hj => List.all_eq_true.1 h2 j (List.mem_range.2 hj)) hk).1
theorem fit_blocks {x : Nd} (h : fitsN x = true) : x.blocks.length ≤ 8 ∧ ∀ b ∈ x.blocks, 1 ≤ b.id ∧ b.id ≤ 9007199254740991 := by
  simp only [fitsN, Bool.and_eq_true] at h
  obtain ⟨_, h⟩ := h
  by_cases hd : x.dir = true
  · rw [if_pos hd] at h
    simp only [Bool.and_eq_true, decide_eq_true_eq] at h
    have h0 : x.blocks = [] := List.eq_nil_of_length_eq_zero h.1.1
    rw [h0]
    exact ⟨by simp, fun b hb => by cases hb⟩
  · rw [if_neg hd] at h
    simp only [Bool.and_eq_true, decide_eq_true_eq] at h
    refine ⟨h.1.2, fun b hb => ?_⟩
    have := List.all_eq_true.1 h.2 b hb
    simp only [okBl, oneB, Bool.and_eq_true, decide_eq_true_eq] at this
    omega
theorem mem_snoc {B : List Bl} {b : Bl} (i : Int) : decide (i ∈ ids (B ++ [b])) = if i = b.id then true else decide (i ∈ ids B) := by
  by_cases e : i = b.id
  · rw [if_pos e, decide_eq_true]; simp [ids, e]
  · rw [if_neg e, Bool.eq_iff_iff]; simp [ids, e]
end Go.Proofs.YtgpddngbccecfaaDoor.Space
