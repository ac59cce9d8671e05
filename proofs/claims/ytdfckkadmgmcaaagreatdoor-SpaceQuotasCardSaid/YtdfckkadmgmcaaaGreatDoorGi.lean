/- Parts of the proof, one behind the other: Za, Zb, Zc, Zd, Ze, Zf, Zg, Zh, Zi, Zj, Zl. -/
import Derived.Test.YtdfckkadmgmcaaaGreatDoorGa
import Derived.Defers
import Derived.Recover
import Derived.Test.YtdfckkadmgmcaaaGreatDoorGh
import Derived.Test.YtdfckkadmgmcaaaGreatDoorGg
import Derived.Deep.RegionHeld3
import Derived.Lib.QuietBelow
import Derived.Deep.DeepCutAuto
import Derived.Test.YtdfckkadmgmcaaaGreatDoorGe
import Derived.StillTail
import Derived.Deep.QuietTactic
import Derived.BigQuiet
/- Edits of spaces: what an edit that can't be made ends with; space.must. -/
namespace Go.Proofs.YtdfckkadmgmcaaaGreatDoor.Space
open Go.RowKit
set_option linter.unusedSimpArgs false
set_option linter.unusedVariables false
/-- What an edit that can't be made ends with. -/
def amissE (E : Int) : Ending := .panicked [{ v := .iface 73 (.int .i64 E), recovered := false }]
theorem must_yes (w : World) (E : Int) : Calls Tryz.prog 45 #[.bool true, .int .i64 E] w fun e w' => e = .returned (.tuple #[]) ∧ w' = w := by
  go_enter Tryz.func45, Tryz.ntmps45
  go_wp2
  go_end0
  exact ⟨rfl, rfl⟩
theorem must_no (w : World) (E : Int) : Calls Tryz.prog 45 #[.bool false, .int .i64 E] w fun e w' => e = .panicked [{ v := .iface 73 (.int .i64 E), recovered := false }] ∧ w' = w := by
  go_enter Tryz.func45, Tryz.ntmps45
  go_wp2
  exact ⟨rfl, rfl, rfl⟩
end Go.Proofs.YtdfckkadmgmcaaaGreatDoor.Space

/- Edits of spaces: an edit's space in memory of its own (package space's 'work'). -/
namespace Go.Proofs.YtdfckkadmgmcaaaGreatDoor.Space
open Go.RowKit
open Path (Bs bs mk bs_mk mk_bs tl_bs MaxC splitE splitL parD)
open Tree
open Quota (overL cntT roomT)
set_option linter.unusedSimpArgs false
set_option linter.unusedVariables false
def wkC (s : Sp) (e : Ed) : Array Value := #[.int .i64 s.txid, .int .i64 s.nb, .int .i64 s.ng, .int .i64 s.now, s.vn, s.vl, .int .i64 e.kind, .string e.path, .string e.dst, .int .i64 e.client, .int .i64 e.call, .int .i64 e.n, e.lv]
/-- An edit's space that can be read. -/
structure WkR (w : World) (g : Nat) (s : Sp) (e : Ed) : Prop where
  blk : w.heap[g]? = some (.cells (wkC s e) 78 (0, 0))
  sp : RdSp w s
  len : Rd w 1 encI e.lv e.lens
theorem WkR.below {w w' : World} {g : Nat} {s : Sp} {e : Ed} (h : WkR w g s e) (hb : Below w.heap.size w w') : WkR w' g s e :=
  ⟨(hb.block _ (lt_of_block h.blk)).trans h.blk, h.sp.below hb, h.len.below hb (Nat.le_refl _)⟩
/-- No two nodes' blocks lie in one place. -/
def Apart (l : List Nd) : Prop := l.Pairwise fun x y => ∀ g, x.bv.ownBlock = some g → y.bv.ownBlock ≠ some g
/-- An edit's space of its own. -/
structure WkO (w0 w : World) (g : Nat) (s : Sp) (e : Ed) : Prop where
  blk : w.heap[g]? = some (.cells (wkC s e) 78 (0, 0))
  nodes : OwnX w0 w s.vn s.nodes
  leases : Lease.OwnL w0 w s.vl s.leases
  len : Rd w0 1 encI e.lv e.lens
  new : w0.heap.size ≤ g
  base : Below w0.heap.size w0 w
  nn : s.nodes.length ≤ 8796093022208
  ln : s.leases.length ≤ 8796093022208
theorem WkO.rd {w0 w : World} {g : Nat} {s : Sp} {e : Ed} (h : WkO w0 w g s e) : WkR w g s e :=
  ⟨h.blk, ⟨h.nodes.rd, Rd.of_own Lease.encL_len h.leases.own, h.nn, h.ln⟩, h.len.below h.base (Nat.le_refl _)⟩
theorem WkO.below {w0 w w' : World} {g : Nat} {s : Sp} {e : Ed} (h : WkO w0 w g s e) (hb : Below w.heap.size w w') : WkO w0 w' g s e :=
  ⟨(hb.block _ (lt_of_block h.blk)).trans h.blk, h.nodes.below hb, ⟨below_ownsRow hb h.leases.own (fun g hg => own_ltN h.leases.own g hg), h.leases.new⟩, h.len, h.new, h.base.trans (hb.mono h.base.size), h.nn, h.ln⟩
set_option maxHeartbeats 2000000 in
theorem cloneN_calls (w : World) (v : Value) (l : List Nd) (h : RdN w v l) (hn : l.length ≤ 2199023255488) :
    Calls Tryz.prog 91 #[v] w fun e w' => ∃ v', e = .returned v' ∧ OwnN w w' v' l ∧ Below w.heap.size w w' := by
  have q50 : ∀ (w : World) (a : Option Addr) (n c n' c' : Nat), (binOp .eql 24 (.slice a n c) (.slice none n' c')).run Tryz.prog w = .ok (.bool a.isNone) w := fun w a n c n' c' => Lib.run_eql_slice_nil w _ _ a n c n' c' Tryz.underlying24
  have hone := flatN_one (l := l) h.bl
  have hbl := h.bl
  obtain ⟨ao', cap', hv', hfl⟩ := rdN_flat h.rd
  obtain ⟨ao, cap, rfl, hcap, hcm, hcell⟩ := rd_cellsN h.rd
  simp only [Value.slice.injEq, true_and] at hv'
  obtain ⟨rfl, rfl⟩ := hv'
  have Hfl := Lib.hid hfl; clear hfl h
  have Hone := Lib.hid hone; clear hone
  have Hbl := Lib.hid hbl; clear hbl
  have Hcell := Lib.hid hcell; clear hcell
  cases ao with
  | none =>
    have hl : l = [] := by
      cases l with
      | nil => rfl
      | cons x t => obtain ⟨b, off, e, _⟩ := Hcell.out w (Below.refl _ _) 0 x rfl; cases e
    subst hl
    clear Hcell Hbl
    go_enter Tryz.func91, Tryz.ntmps91
    go_wp2
    go_ret
    exact ⟨_, rfl, OwnN.nil _ _, Below.refl _ _⟩
  | some ad =>
    clear Hcell
    have hown : (w.alloc (.cells #[] 35)).ownsRow 0 35 5 (.slice (some ⟨w.heap.size, 0, none⟩) 0 0) 0 [] := ⟨rfl, .inr ⟨w.heap.size, 0, #[], rfl, Nat.zero_le _, heap_alloc_new w _, Nat.le_refl _, by decide, rfl, rfl⟩⟩
    have hb : Below w.heap.size w (w.alloc (.cells #[] 35)) := (Below.refl _ _).alloc (Nat.le_refl _) _
    go_enter Tryz.func91, Tryz.ntmps91
    go_wp2_with (at_builtin; (with_reducible refine etN.wpList_app hown (m := l.length) (c := cap) (ao := some ad) (news := flatN l) (flatN_len l) (fun h => by cases h) (fun ad' h => by cases h; exact Hfl.out _ hb ad rfl) Hone.out (by omega) (by unfold maxLen; omega) rfl (.tmp 5) (.tmp 6) rfl rfl rfl ?_); intro v1 w1 own1 grow1 at1 nil1)
    go_ret
    rw [Nat.zero_add, List.nil_append] at own1
    have hb1 := hb.grown grow1 hb.size (fun q hq => by simp [Value.ownBlock] at hq; omega)
    refine ⟨v1, rfl, ⟨own1, fun g hg => ?_, fun x hx => (Hbl.out x hx).below hb1 (Nat.le_refl _)⟩, hb1⟩
    rcases at1 with e | e
    · rw [e] at hg; simp [Value.ownBlock] at hg; omega
    · rw [e] at hg; simp at hg; omega
end Go.Proofs.YtdfckkadmgmcaaaGreatDoor.Space

/- Edits of spaces: space.clone. -/
namespace Go.Proofs.YtdfckkadmgmcaaaGreatDoor.Space
open Go.RowKit
open Path (Bs bs mk bs_mk mk_bs tl_bs MaxC splitE splitL parD)
open Tree
set_option linter.unusedSimpArgs false
set_option linter.unusedVariables false
/-- A cell of a row of nodes that is another one. -/
theorem flatN_put {l : List Nd} {k j : Nat} {x y : Nd} {u : Value} (hx : l[k]? = some x) (hj : j < 5) (hy : encN y = (encN x).set j u) : (flatN l).set (k * 5 + j) u = flatN (l.set k y) := by
  refine flat_ext encN 5 encN_len (by decide) _ _ (by rw [List.length_set, List.length_set, flatN_len]) fun i j' z hz hj' => ?_
  have hkl := (List.getElem?_eq_some_iff.1 hx).1
  have hfl := flatN_len l
  by_cases e : i = k
  · subst e
    rw [List.getElem?_set_self hkl] at hz
    simp only [Option.some.injEq] at hz
    subst hz
    rw [hy]
    by_cases e2 : j' = j
    · subst e2
      rw [List.getElem?_set_self (by omega), List.getElem?_set_self (by rw [encN_len]; exact hj)]
    · rw [List.getElem?_set_ne (by omega), List.getElem?_set_ne (fun h => e2 h.symm), flatN, flat_get encN 5 encN_len l i j' x hx hj']
  · rw [List.getElem?_set_ne (fun h => e h.symm)] at hz
    rw [List.getElem?_set_ne (by omega), flatN, flat_get encN 5 encN_len l i j' z hz hj']
def CloneP (w : World) (s : Sp) (e : Ending) (w' : World) : Prop :=
  (∃ t : Sp, e = .returned (.agg (spC t)) ∧ SameS t s ∧ OwnX w w' t.vn t.nodes ∧ Apart t.nodes ∧ Lease.OwnL w w' t.vl t.leases) ∧ Below w.heap.size w w'
/-- Rows of two kinds never lie in one block. -/
theorem own_kinds {w : World} {e1 e2 s1 s2 n1 n2 : Nat} {v1 v2 : Value} {xs1 xs2 : List Value} (h1 : w.ownsRow 0 e1 s1 v1 n1 xs1) (h2 : w.ownsRow 0 e2 s2 v2 n2 xs2) (hne : e1 ≠ e2) {g : Nat} (hg : v2.ownBlock = some g) : v1.ownBlock ≠ some g := by
  intro hc
  rcases h1.2 with ⟨e, _⟩ | ⟨g1, c1, cur1, e, _, hg1, _⟩
  · rw [e] at hc; cases hc
  rcases h2.2 with ⟨e', _⟩ | ⟨g2, c2, cur2, e', _, hg2, _⟩
  · rw [e'] at hg; cases hg
  rw [e] at hc; rw [e'] at hg
  simp only [Value.ownBlock, Option.some.injEq] at hc hg
  subst hc
  subst hg
  rw [hg1] at hg2
  simp only [Option.some.injEq, Obj.cells.injEq] at hg2
  exact hne hg2.2.1
theorem OwnB.poke {w w' : World} {v : Value} {q : List Bl} (h : OwnB w w' v q) {g j : Nat} {u : Value} (hne : v.ownBlock ≠ some g) : OwnB w (w'.setCell ⟨g, j, none⟩ u) v q := ⟨ownsRow_setCell_other h.own hne _, h.new⟩
theorem OwnL.poke {w w' : World} {v : Value} {q : List Lease.Le} (h : Lease.OwnL w w' v q) {g j : Nat} {u : Value} (hne : v.ownBlock ≠ some g) : Lease.OwnL w (w'.setCell ⟨g, j, none⟩ u) v q := ⟨ownsRow_setCell_other h.own hne _, h.new⟩
theorem OwnL.below {w w' w'' : World} {v : Value} {q : List Lease.Le} (h : Lease.OwnL w w' v q) (hb : Below w'.heap.size w' w'') : Lease.OwnL w w'' v q := ⟨below_ownsRow hb h.own (fun g hg => own_ltN h.own g hg), h.new⟩
/-- What stands behind some rounds: the first k nodes' blocks are the call's own. -/
structure CloI (w : World) (s : Sp) (v3 vl : Value) (k : Nat) (q : List Nd) (wr : World) : Prop where
  pur : q.map pur = s.nodes.map pur
  own : wr.ownsRow 0 35 5 v3 s.nodes.length (flatN q)
  new : ∀ g, v3.ownBlock = some g → w.heap.size + 2 ≤ g
  fst : ∀ x ∈ q.take k, OwnB w wr x.bv x.blocks
  rest : ∀ x ∈ q.drop k, Rd w 3 encB x.bv x.blocks
  apart : Apart (q.take k)
  le : Lease.OwnL w wr vl s.leases
  box : wr.heap[w.heap.size]? = some (.cells #[.int .i64 s.txid, .int .i64 s.nb, .int .i64 s.ng, .int .i64 s.now, v3, vl] 27 (0, 0))
  res : wr.heap[w.heap.size + 1]? = some (.cells #[.int .i64 0, .int .i64 0, .int .i64 0, .int .i64 0, .slice none 0 0, .slice none 0 0] 27 (0, 0))
  bel : Below w.heap.size w wr
theorem clo_start {w w2 w3 w4 : World} {s : Sp} {v v' v3 v4 : Value} (n0 : w2.heap[w.heap.size]? = some (.cells #[.int .i64 s.txid, .int .i64 s.nb, .int .i64 s.ng, .int .i64 s.now, v, v'] 27 (0, 0))) (n1 : w2.heap[w.heap.size + 1]? = some (.cells #[.int .i64 0, .int .i64 0, .int .i64 0, .int .i64 0, .slice none 0 0, .slice none 0 0] 27 (0, 0))) (b2 : Below w.heap.size w w2) (hz : w2.heap.size = w.heap.size + 2)
    (o3 : OwnN w2 w3 v3 s.nodes) (b3 : Below w2.heap.size w2 w3) (o4 : Lease.OwnL w3 w4 v4 s.leases) (b4 : Below w3.heap.size w3 w4) (hrd : ∀ x ∈ s.nodes, Rd w 3 encB x.bv x.blocks) :
    CloI w s v3 v4 0 s.nodes ((w4.setCell ⟨w.heap.size, 4, none⟩ v3).setCell ⟨w.heap.size, 5, none⟩ v4) := by
  have b24 := b3.trans (b4.mono b3.size)
  have hs3 := b3.size
  have ne3 : v3.ownBlock ≠ some w.heap.size := fun e => by have := o3.new _ e; omega
  have ne4 : v4.ownBlock ≠ some w.heap.size := fun e => by have := o4.new _ e; omega
  have hk := heap_setCell_same _ _ 5 _ _ v4 (heap_setCell_same _ _ 4 _ _ v3 ((b24.block _ (by omega)).trans n0))
  refine ⟨rfl, ownsRow_setCell_other (ownsRow_setCell_other (o3.below b4).own ne3 _) ne3 _, fun g hg => by have := o3.new g hg; omega, fun x hx => by simp at hx, fun x hx => hrd x (by simpa using hx), by simp [Apart], OwnL.poke (OwnL.poke ⟨o4.own, fun g hg => by have := o4.new g hg; omega⟩ ne4) ne4, hk, ?_, ((b2.trans (b24.mono b2.size)).setCell (Nat.le_refl _) _).setCell (Nat.le_refl _) _⟩
  exact (heap_setCell_other _ ⟨w.heap.size, 5, none⟩ _ _ (by simp)).trans ((heap_setCell_other _ ⟨w.heap.size, 4, none⟩ _ _ (by simp)).trans ((b24.block _ (by omega)).trans n1))
theorem CloI.len {w wr : World} {s : Sp} {v3 vl : Value} {k : Nat} {q : List Nd} (h : CloI w s v3 vl k q wr) : q.length = s.nodes.length := by have := congrArg List.length h.pur; rwa [List.length_map, List.length_map] at this
theorem clo_step {w wr w4 : World} {s : Sp} {vl v4 : Value} {g cap k : Nat} {q : List Nd} {x : Nd} (h : CloI w s (.slice (some ⟨g, 0, none⟩) s.nodes.length cap) vl k q wr) (hx : q[k]? = some x) (o4 : OwnB wr w4 v4 x.blocks) (b4 : Below wr.heap.size wr w4) :
    CloI w s (.slice (some ⟨g, 0, none⟩) s.nodes.length cap) vl (k + 1) (q.set k { x with bv := v4 }) (w4.setCell ⟨g, k * 5 + 3, none⟩ v4) := by
  have hlen := h.len
  have hk := (List.getElem?_eq_some_iff.1 hx).1
  have hg := h.new g rfl
  have hown := below_ownsRow b4 h.own (fun g hg => own_ltN h.own g hg)
  have hglt := own_ltN h.own g rfl
  have e1 : (q.set k { x with bv := v4 }).take (k + 1) = q.take k ++ [{ x with bv := v4 }] := by
    rw [List.take_add_one, List.take_set_of_le (Nat.le_refl _), List.getElem?_set_self hk]; rfl
  have e2 : (q.set k { x with bv := v4 }).drop (k + 1) = q.drop (k + 1) := List.drop_set_of_lt (by omega)
  have hold : ∀ y ∈ q.take k, OwnB w (w4.setCell ⟨g, k * 5 + 3, none⟩ v4) y.bv y.blocks := fun y hy => by
    have ho := (h.fst y hy).below b4
    exact OwnB.poke ho (own_kinds ho.own hown (by decide) rfl)
  refine ⟨?_, ?_, h.new, ?_, ?_, ?_, ?_, ?_, ?_, ?_⟩
  · rw [List.map_set, ← h.pur]
    exact Lease.set_same (by rw [List.getElem?_map, hx]; rfl)
  · rw [← flatN_put (j := 3) (u := v4) hx (by decide) (by rfl)]
    exact own_poke hown (by omega) _
  · intro y hy
    rw [e1] at hy
    rcases List.mem_append.1 hy with hy | hy
    · exact hold y hy
    · rw [List.mem_singleton] at hy
      subst hy
      have ho := o4.up h.bel.size
      exact OwnB.poke ho (own_kinds ho.own hown (by decide) rfl)
  · intro y hy
    rw [e2] at hy
    exact h.rest y (by rw [show k + 1 = k + 1 from rfl, ← List.drop_drop] at hy; exact List.mem_of_mem_drop hy)
  · rw [e1, Apart, List.pairwise_append]
    refine ⟨h.apart, List.pairwise_singleton _ _, fun y hy z hz g1 hg1 hc => ?_⟩
    rw [List.mem_singleton] at hz
    subst hz
    have a1 := own_ltN (h.fst y hy).own g1 hg1
    have a2 := o4.new g1 hc
    omega
  · have ho := OwnL.below h.le b4
    exact OwnL.poke ho (own_kinds ho.own hown (by decide) rfl)
  · exact (heap_setCell_other _ ⟨g, k * 5 + 3, none⟩ _ _ (by show w.heap.size ≠ g; omega)).trans ((b4.block _ (lt_of_block h.box)).trans h.box)
  · exact (heap_setCell_other _ ⟨g, k * 5 + 3, none⟩ _ _ (by show w.heap.size + 1 ≠ g; omega)).trans ((b4.block _ (lt_of_block h.res)).trans h.res)
  · exact (h.bel.trans (b4.mono h.bel.size)).setCell (show w.heap.size ≤ g by omega) _
theorem blk6c {w : World} {b : Nat} {v0 v1 v2 v3 v4 v5 : Value} {t : TypeId} (h : w.heap[b]? = some (.cells #[v0, v1, v2, v3, v4, v5] t (0, 0))) : w.cell? ⟨b, 0, none⟩ = some v0 ∧ w.cell? ⟨b, 1, none⟩ = some v1 ∧ w.cell? ⟨b, 2, none⟩ = some v2 ∧ w.cell? ⟨b, 3, none⟩ = some v3 ∧ w.cell? ⟨b, 4, none⟩ = some v4 ∧ w.cell? ⟨b, 5, none⟩ = some v5 :=
  ⟨cell_of_blk h, cell_of_blk h, cell_of_blk h, cell_of_blk h, cell_of_blk h, cell_of_blk h⟩
theorem blk6z {w : World} {b : Nat} {cs : Array Value} {t : TypeId} (h : w.heap[b]? = some (.cells cs t (0, 0))) : w.frozen? ⟨b, 0, none⟩ = false ∧ w.frozen? ⟨b, 1, none⟩ = false ∧ w.frozen? ⟨b, 2, none⟩ = false ∧ w.frozen? ⟨b, 3, none⟩ = false ∧ w.frozen? ⟨b, 4, none⟩ = false ∧ w.frozen? ⟨b, 5, none⟩ = false :=
  ⟨free_of_blk h, free_of_blk h, free_of_blk h, free_of_blk h, free_of_blk h, free_of_blk h⟩
/-- Six cells of a block, one behind the other. -/
def set6 (w : World) (b : Nat) (v0 v1 v2 v3 v4 v5 : Value) : World := (((((w.setCell ⟨b, 0, none⟩ v0).setCell ⟨b, 1, none⟩ v1).setCell ⟨b, 2, none⟩ v2).setCell ⟨b, 3, none⟩ v3).setCell ⟨b, 4, none⟩ v4).setCell ⟨b, 5, none⟩ v5
theorem set6_blk {w : World} {b : Nat} {u0 u1 u2 u3 u4 u5 : Value} {t : TypeId} (h : w.heap[b]? = some (.cells #[u0, u1, u2, u3, u4, u5] t (0, 0))) (v0 v1 v2 v3 v4 v5 : Value) : (set6 w b v0 v1 v2 v3 v4 v5).heap[b]? = some (.cells #[v0, v1, v2, v3, v4, v5] t (0, 0)) :=
  heap_setCell_same _ _ 5 _ _ v5 (heap_setCell_same _ _ 4 _ _ v4 (heap_setCell_same _ _ 3 _ _ v3 (heap_setCell_same _ _ 2 _ _ v2 (heap_setCell_same _ _ 1 _ _ v1 (heap_setCell_same _ _ 0 _ _ v0 h)))))
theorem set6_row {w : World} {e size n b : Nat} {v : Value} {xs : List Value} (h : w.ownsRow 0 e size v n xs) (hne : v.ownBlock ≠ some b) (v0 v1 v2 v3 v4 v5 : Value) : (set6 w b v0 v1 v2 v3 v4 v5).ownsRow 0 e size v n xs :=
  ownsRow_setCell_other (ownsRow_setCell_other (ownsRow_setCell_other (ownsRow_setCell_other (ownsRow_setCell_other (ownsRow_setCell_other h hne _) hne _) hne _) hne _) hne _) hne _
theorem set6_below {w0 w : World} {b N : Nat} (h : Below N w0 w) (hb : N ≤ b) (v0 v1 v2 v3 v4 v5 : Value) : Below N w0 (set6 w b v0 v1 v2 v3 v4 v5) :=
  (((((h.setCell hb _).setCell hb _).setCell hb _).setCell hb _).setCell hb _).setCell hb _
set_option maxRecDepth 4000 in
set_option maxHeartbeats 4000000 in
theorem clone_calls (w : World) (s : Sp) (h : RdSp w s) (hn : s.nodes.length ≤ 2199023255488) (hl : s.leases.length ≤ 1000000) (hbl : ∀ x ∈ s.nodes, x.blocks.length ≤ 5864062014805) :
    Calls Tryz.prog 47 #[.agg (spC s)] w (CloneP w s) := by
  have hcn := fun W (hW : Below w.heap.size w W) => cloneN_calls W s.vn s.nodes (h.n.below hW) hn
  have hcl := fun W (hW : Below w.heap.size w W) => Lease.clone_calls W s.vl s.leases (h.l.below hW (Nat.le_refl _)) hl
  have b2 : Below w.heap.size w ((w.alloc (.cells #[.int .i64 s.txid, .int .i64 s.nb, .int .i64 s.ng, .int .i64 s.now, s.vn, s.vl] 27 (0, 0))).alloc (.cells #[.int .i64 0, .int .i64 0, .int .i64 0, .int .i64 0, .slice none 0 0, .slice none 0 0] 27 (0, 0))) := ((Below.refl _ _).alloc (Nat.le_refl _) _).alloc (by simp) _
  have n0 : ((w.alloc (.cells #[.int .i64 s.txid, .int .i64 s.nb, .int .i64 s.ng, .int .i64 s.now, s.vn, s.vl] 27 (0, 0))).alloc (.cells #[.int .i64 0, .int .i64 0, .int .i64 0, .int .i64 0, .slice none 0 0, .slice none 0 0] 27 (0, 0))).heap[w.heap.size]? = some (.cells #[.int .i64 s.txid, .int .i64 s.nb, .int .i64 s.ng, .int .i64 s.now, s.vn, s.vl] 27 (0, 0)) := (heap_alloc_old _ _ (by simp)).trans (heap_alloc_new _ _)
  have n1 : ((w.alloc (.cells #[.int .i64 s.txid, .int .i64 s.nb, .int .i64 s.ng, .int .i64 s.now, s.vn, s.vl] 27 (0, 0))).alloc (.cells #[.int .i64 0, .int .i64 0, .int .i64 0, .int .i64 0, .slice none 0 0, .slice none 0 0] 27 (0, 0))).heap[w.heap.size + 1]? = some (.cells #[.int .i64 0, .int .i64 0, .int .i64 0, .int .i64 0, .slice none 0 0, .slice none 0 0] 27 (0, 0)) := by have := heap_alloc_new (w.alloc (.cells #[.int .i64 s.txid, .int .i64 s.nb, .int .i64 s.ng, .int .i64 s.now, s.vn, s.vl] 27 (0, 0))) (.cells #[.int .i64 0, .int .i64 0, .int .i64 0, .int .i64 0, .slice none 0 0, .slice none 0 0] 27 (0, 0)); simpa using this
  have hz : ((w.alloc (.cells #[.int .i64 s.txid, .int .i64 s.nb, .int .i64 s.ng, .int .i64 s.now, s.vn, s.vl] 27 (0, 0))).alloc (.cells #[.int .i64 0, .int .i64 0, .int .i64 0, .int .i64 0, .slice none 0 0, .slice none 0 0] 27 (0, 0))).heap.size = w.heap.size + 2 := by simp
  have hvn := h.n.rd
  obtain ⟨an, cn, hvn, -⟩ := rd_cellsN hvn
  obtain ⟨al, cl, hvl, -⟩ := Lease.rd_cells h.l
  have Hh := Lib.hid h; clear h
  go_enter Tryz.func47, Tryz.ntmps47
  rw [spC]
  generalize s.vn = vn at *
  generalize s.vl = vl at *
  subst hvn hvl
  go_wp2_with (fail)
  generalize hw2 : (w.alloc (.cells _ _ _)).alloc (.cells #[.int .i64 0, .int .i64 0, .int .i64 0, .int .i64 0, .slice none 0 0, .slice none 0 0] 27 (0, 0)) = w2 at *
  have k4 : w2.cell? ⟨w.heap.size, 4, none⟩ = _ := cell_of_blk n0
  have k5 : w2.cell? ⟨w.heap.size, 5, none⟩ = _ := cell_of_blk n0
  simp only [List.getElem?_toArray, List.getElem?_cons_zero, List.getElem?_cons_succ] at k4 k5
  have hS : ∀ W, Below w2.heap.size w2 W → (W.cell? ⟨w.heap.size, 4, none⟩ = some (.slice an s.nodes.length cn) ∧ W.cell? ⟨w.heap.size, 5, none⟩ = some (.slice al s.leases.length cl)) ∧ W.frozen? ⟨w.heap.size, 4, none⟩ = false ∧ W.frozen? ⟨w.heap.size, 5, none⟩ = false ∧ Below w.heap.size w W := fun W hW => by
    have e0 := (hW.block _ (by omega)).trans n0
    exact ⟨⟨cell_of_blk e0, cell_of_blk e0⟩, free_of_blk e0, free_of_blk e0, b2.trans (hW.mono b2.size)⟩
  have HS := Lib.hid hS; have Hcn := Lib.hid hcn; have Hcl := Lib.hid hcl; have N0 := Lib.hid n0; have N1 := Lib.hid n1; have B2 := Lib.hid b2; have Hz := Lib.hid hz
  clear hS hcn hcl n0 n1 b2 hw2 hz
  have Hbl := Lib.hid hbl; clear hbl
  have hrd := Hh.out.n.bl
  have Hrd := Lib.hid hrd; clear hrd
  go_cut [] (fun wx => ∃ W, W = wx ∧ ∃ a3 c3 a4 c4, CloI w s (.slice a3 s.nodes.length c3) (.slice a4 s.leases.length c4) 0 s.nodes W)
  case first =>
    go_region_law
      (first
        | (go_simp; go_at_call 91; refine (Hcn.out _ ?_).mono ?_; (exact ⟨B2.out.os, B2.out.tape, B2.out.output, B2.out.size, B2.out.block⟩); rintro e w3 ⟨v3, rfl, ho3, hb3⟩; obtain ⟨a3, c3, rfl, -⟩ := own_slice ho3.own; obtain ⟨⟨l4, l5⟩, f4, f5, hB3⟩ := HS.out w3 ⟨hb3.os, hb3.tape, hb3.output, hb3.size, hb3.block⟩; have Ho3 := Lib.hid ho3; have HB3 := Lib.hid hB3; have Hb3 := Lib.hid hb3; clear ho3 hB3 hb3)
        | (go_simp; go_at_call 92; refine (Hcl.out _ HB3.out).mono ?_; rintro e w4 ⟨v4, rfl, ho4, hb4⟩; obtain ⟨a4, c4, rfl, -⟩ := own_slice ho4.own; obtain ⟨⟨m4, m5⟩, g4, g5, hB4⟩ := HS.out w4 (Below.trans ⟨Hb3.out.os, Hb3.out.tape, Hb3.out.output, Hb3.out.size, Hb3.out.block⟩ (hb4.mono Hb3.out.size)); have Ho4 := Lib.hid ho4; have HB4 := Lib.hid hB4; have Hb4 := Lib.hid hb4; clear ho4 hB4 hb4))
    all_goals
      go_wp2_with (fail)
      go_meet
      exact ⟨_, rfl, _, _, _, _, clo_start N0.out N1.out B2.out Hz.out ⟨Ho3.out.own, Ho3.out.new, Ho3.out.bl⟩ ⟨Hb3.out.os, Hb3.out.tape, Hb3.out.output, Hb3.out.size, Hb3.out.block⟩ Ho4.out Hb4.out Hrd.out⟩
  case rest =>
    obtain ⟨W, hW, a3, c3, a4, c4, hI⟩ := hcut
    subst hW
    have HI := Lib.hid hI
    have k4' : W.cell? ⟨w.heap.size, 4, none⟩ = some (.slice a3 s.nodes.length c3) := cell_of_blk hI.box
    have Bl := hI.bel.size
    clear hI
    clear hvn Hcn Hcl HS N0 N1 B2 Hz Hrd
    go_wp2_with (fail)
    go_loopw [15] (fun vk wr => ∃ k : Nat, vk = .int .i64 k ∧ k ≤ s.nodes.length ∧ ∃ q, CloI w s (.slice a3 s.nodes.length c3) (.slice a4 s.leases.length c4) k q wr) (fun vk _ => s.nodes.length - (intOf vk).toNat)
    case atStart => exact ⟨0, rfl, Nat.zero_le _, _, HI.out⟩
    case round =>
      obtain ⟨k, rfl, hk, q, hq⟩ := hrel
      by_cases hlt : k < s.nodes.length
      · obtain ⟨x, hx⟩ : ∃ x, q[k]? = some x := ⟨q[k]'(by rw [hq.len]; exact hlt), by rw [List.getElem?_eq_getElem]⟩
        obtain ⟨g, cap, cur, hv, hgb, -, -⟩ := own_form hq.own (by omega)
        simp only [Value.slice.injEq, true_and] at hv
        obtain ⟨rfl, rfl⟩ := hv
        have hbx := hq.box
        have e4 : wr.cell? ⟨w.heap.size, 4, none⟩ = some (.slice (some ⟨g, 0, none⟩) s.nodes.length c3) := cell_of_blk hbx
        have hrd : Rd wr 3 encB x.bv x.blocks := (hq.rest x (List.mem_of_getElem? (i := 0) (by rw [List.getElem?_drop]; exact hx))).below hq.bel (Nat.le_refl _)
        obtain ⟨ax, cx, hbv⟩ := bv_slice hrd
        have hlen : x.blocks.length ≤ 5864062014805 := by
          have h1 : (q.map pur)[k]? = some (pur x) := by rw [List.getElem?_map, hx]; rfl
          rw [hq.pur, List.getElem?_map] at h1
          cases hy : s.nodes[k]? with
          | none => rw [hy] at h1; cases h1
          | some y =>
            rw [hy] at h1
            have h2 := (pur_same (by simpa using h1 : pur y = pur x)).2.2.2.1
            rw [← h2]; exact Hbl.out y (List.mem_of_getElem? hy)
        have hcb := fun W (hW : Below wr.heap.size wr W) => cloneB_calls W x.bv x.blocks (hrd.below hW (Nat.le_refl _)) hlen
        have ec : wr.cell? ⟨g, k * 5 + 3, none⟩ = some (.slice ax x.blocks.length cx) := by
          have h1 := hq.own.cellAt (k * 5 + 3) (by omega)
          have h2 := flat_get encN 5 encN_len q k 3 x hx (by decide)
          rw [flatN, h2] at h1
          rw [h1, ← hbv]; rfl
        have ez : wr.frozen? ⟨g, k * 5 + 3, none⟩ = false := free_of_blk hgb
        have hcell : ∀ W, Below wr.heap.size wr W → W.cell? ⟨w.heap.size, 4, none⟩ = some (.slice (some ⟨g, 0, none⟩) s.nodes.length c3) ∧ W.cell? ⟨g, k * 5 + 3, none⟩ = some (.slice ax x.blocks.length cx) ∧ W.frozen? ⟨g, k * 5 + 3, none⟩ = false := fun W hW =>
          ⟨(hW.cell (p := ⟨_, _, none⟩) (lt_of_block hbx)).trans e4, (hW.cell (p := ⟨_, _, none⟩) (lt_of_block hgb)).trans ec, (hW.frozen (p := ⟨_, _, none⟩) (lt_of_block hgb)).trans ez⟩
        rw [hbv] at hcb
        have Hcb := Lib.hid hcb; have Hq := Lib.hid hq; have Hx := Lib.hid hx; have Hcell := Lib.hid hcell
        clear hcb hq hx hrd hbv hlen hbx hgb k4' hcell HI
        go_wp2_with (fail)
        go_region_law
          (first
            | (go_simp; go_at_call 50; refine (Hcb.out _ ?_).mono ?_; (exact (Below.refl _ _).drew); rintro e w4 ⟨v4, rfl, ho4, hb4⟩; obtain ⟨a4', c4', rfl, -⟩ := own_slice ho4.own; obtain ⟨l4, l5, l6⟩ := Hcell.out w4 ⟨hb4.os, hb4.tape, hb4.output, hb4.size, hb4.block⟩; have Ho4 := Lib.hid ho4; have Hb4 := Lib.hid hb4; clear ho4 hb4))
        all_goals
          go_wp2_with (fail)
          go_roundw
          case rel => exact ⟨k + 1, by go_num, by omega, _, clo_step Hq.out Hx.out ⟨Ho4.out.own, Ho4.out.new⟩ ⟨Hb4.out.os, Hb4.out.tape, Hb4.out.output, Hb4.out.size, Hb4.out.block⟩⟩
          case measure => simp [intOf]; omega
      · obtain rfl : k = s.nodes.length := by omega
        obtain ⟨p0, p1, p2, p3, p4, p5⟩ := blk6c hq.box
        obtain ⟨r0, r1, r2, r3, r4, r5⟩ := blk6c hq.res
        obtain ⟨z0, z1, z2, z3, z4, z5⟩ := blk6z hq.res
        have Hq := Lib.hid hq
        clear hq k4' HI
        go_wp2_with (fail)
        have hne : ∀ (v : Value), (∀ g, v.ownBlock = some g → wr.heap.size ≤ g ∨ g ≠ w.heap.size + 1) → v.ownBlock ≠ some (w.heap.size + 1) := fun v h e => by
          rcases h _ e with h | h
          · have := lt_of_block Hq.out.res; omega
          · exact h rfl
        have hW := set6_blk Hq.out.res (.int .i64 s.txid) (.int .i64 s.nb) (.int .i64 s.ng) (.int .i64 s.now) (.slice a3 s.nodes.length c3) (.slice a4 s.leases.length c4)
        have hlen := Hq.out.len
        refine bodyPost_ret (results_cell_row rfl _ _ (w.heap.size + 1) _ _ _ _ rfl hW Tryz.underlying27 rfl (by kernel_rfl)) rfl ?_
        have n3 : (Value.slice a3 s.nodes.length c3).ownBlock ≠ some (w.heap.size + 1) := fun e => by have := Hq.out.new _ e; omega
        have hq := Hq.out
        have hfst : ∀ x ∈ q, OwnB w wr x.bv x.blocks := fun x hx => hq.fst x (by rw [← hlen, List.take_length]; exact hx)
        have nb : ∀ x ∈ q, x.bv.ownBlock ≠ some (w.heap.size + 1) := fun x hx e => by
          have h1 := (hfst x hx).own
          rcases h1.2 with ⟨e', _⟩ | ⟨g1, c1, cur1, e', _, hg1, _⟩
          · rw [e'] at e; cases e
          · rw [e'] at e
            simp only [Value.ownBlock, Option.some.injEq] at e
            subst e
            rw [hq.res] at hg1
            simp at hg1
        have nl : (Value.slice a4 s.leases.length c4).ownBlock ≠ some (w.heap.size + 1) := fun e => by
          have h1 := hq.le.own
          rcases h1.2 with ⟨e', _⟩ | ⟨g1, c1, cur1, e', _, hg1, _⟩
          · rw [e'] at e; cases e
          · rw [e'] at e
            simp only [Value.ownBlock, Option.some.injEq] at e
            subst e
            rw [hq.res] at hg1
            simp at hg1
        refine ⟨⟨{ s with nodes := q, vn := .slice a3 s.nodes.length c3, vl := .slice a4 s.leases.length c4 }, rfl, ⟨rfl, rfl, rfl, rfl, hq.pur, rfl⟩, ⟨?_, fun g hg => by have := hq.new g hg; omega, fun x hx => ⟨set6_row (hfst x hx).own (nb x hx) _ _ _ _ _ _, (hfst x hx).new⟩⟩, ?_, ⟨set6_row hq.le.own nl _ _ _ _ _ _, hq.le.new⟩⟩, set6_below hq.bel (by omega) _ _ _ _ _ _⟩
        · have := set6_row hq.own n3 (.int .i64 s.txid) (.int .i64 s.nb) (.int .i64 s.ng) (.int .i64 s.now) (.slice a3 s.nodes.length c3) (.slice a4 s.leases.length c4)
          rw [← hlen] at this ⊢
          exact this
        · have := hq.apart
          rwa [← hlen, List.take_length] at this
end Go.Proofs.YtdfckkadmgmcaaaGreatDoor.Space

/- Edits of spaces: slices.IndexFunc, ContainsFunc over numbers, whatever the choice. -/
namespace Go.Proofs.YtdfckkadmgmcaaaGreatDoor.Space
open Go.RowKit
open Path (Bs bs mk bs_mk mk_bs tl_bs)
open Tree (enters)
set_option linter.unusedSimpArgs false
set_option linter.unusedVariables false
def fiI (q : Int → Bool) (l : List Int) : Int := match l.findIdx? q with
  | none => -1
  | some i => i
theorem fiI_none {q : Int → Bool} {l : List Int} (h : ∀ p x, p < l.length → l[p]? = some x → q x = false) : fiI q l = -1 := by
  have : l.findIdx? q = none := by
    rw [List.findIdx?_eq_none_iff]
    intro x hx
    obtain ⟨p, hp, rfl⟩ := List.mem_iff_getElem.1 hx
    exact h p _ hp (by simp [hp])
  rw [fiI, this]
theorem fiI_some {q : Int → Bool} {l : List Int} {k : Nat} {x : Int} (h : ∀ p x, p < k → l[p]? = some x → q x = false) (hx : l[k]? = some x) (hq : q x = true) : fiI q l = k := by
  obtain ⟨hk, rfl⟩ := List.getElem?_eq_some_iff.1 hx
  have : l.findIdx? q = some k := by
    rw [List.findIdx?_eq_some_iff_getElem]
    refine ⟨hk, hq, fun j hj => ?_⟩
    have hjl : j < l.length := by omega
    have := h j _ hj (show l[j]? = some l[j] by simp [hjl])
    rw [this]; decide
  rw [fiI, this]
theorem fiI_any (q : Int → Bool) (l : List Int) : (l.any q = true ∧ 0 ≤ fiI q l) ∨ (l.any q = false ∧ fiI q l = -1) := by
  rw [fiI]
  cases h : l.findIdx? q with
  | none =>
    rw [List.findIdx?_eq_none_iff] at h
    exact .inr ⟨by rw [List.any_eq_false]; intro x hx; rw [h x hx]; decide, rfl⟩
  | some i =>
    rw [List.findIdx?_eq_some_iff_getElem] at h
    obtain ⟨hi, hq, _⟩ := h
    exact .inl ⟨List.any_eq_true.2 ⟨_, List.getElem_mem hi, hq⟩, Int.natCast_nonneg _⟩

/-- What a choice does to each node of the row. -/
def PicksI1 (w : World) (n : Nat) (c : Value) (q : Int → Bool) (l : List Int) : Prop :=
  ∀ W, Below w.heap.size w W → ∀ x ∈ l, Calls Tryz.prog n #[.int .i64 x, c] W fun e w' => e = .returned (.bool (q x)) ∧ Below W.heap.size W w'

set_option maxRecDepth 4000 in
set_option maxHeartbeats 4000000 in
theorem idxI1_calls (w : World) (n : Nat) (c : Value) (q : Int → Bool) (v : Value) (l : List Int) (eg : ∀ args W, (callFunc n args).run Tryz.prog W = .ok (.enter n args) W) (hp : PicksI1 w n c q l) (h : Rd w 1 encI v l) (hn : l.length ≤ 17592186044416) :
    Calls Tryz.prog 136 #[v, .func (.func n) #[] #[c]] w fun e w' => e = .returned (.int .i64 (fiI q l)) ∧ Below w.heap.size w w' := by
  obtain ⟨ao, cap, rfl, _, hcell⟩ := Lease.rd_cellsI h
  have Hcell := Lib.hid hcell; have Hp := Lib.hid hp; clear hcell h hp
  go_enter Tryz.func136, Tryz.ntmps136
  go_wp2_with (fail)
  go_loopw [8] (fun i wr => ∃ k : Nat, k ≤ l.length ∧ i = .int .i64 k ∧ Below w.heap.size w wr ∧ (∀ p x, p < k → l[p]? = some x → q x = false)) (fun i _ => l.length - (intOf i).toNat)
  case atStart => exact ⟨0, Nat.zero_le _, rfl, Below.refl _ _, fun p x hp => by omega⟩
  case round =>
    obtain ⟨k, hk, rfl, hb, hnone⟩ := hrel
    have Hnone := Lib.hid hnone; clear hnone
    by_cases hlt : k < l.length
    · obtain ⟨x, hx⟩ : ∃ x, l[k]? = some x := ⟨l[k], by simp [hlt]⟩
      obtain ⟨b, off, rfl, hlb, c0⟩ := Hcell.out wr hb k x hx
      have hpx := Hp.out wr hb x (List.mem_of_getElem? hx)
      have Hx := Lib.hid hx; clear hx
      cases hq : q x
      · rw [hq] at hpx
        have Hq := Lib.hid hq; clear hq
        go_wp2_with (fail)
        refine hpx.mono ?_
        rintro e w1 ⟨rfl, hb1⟩
        go_wp2_with (fail)
        go_roundw
        case rel =>
          refine ⟨k + 1, by omega, by go_num, hb.trans (hb1.mono hb.size), fun p y hp hy => ?_⟩
          by_cases e : p = k
          · subst e
            have := Hx.out.symm.trans hy
            simp only [Option.some.injEq] at this
            rw [← this]; exact Hq.out
          · exact Hnone.out p y (by omega) hy
        case measure => simp [intOf]; omega
      · rw [hq] at hpx
        have Hfi := Lib.hid (fiI_some Hnone.out Hx.out hq); clear hq
        go_wp2_with (fail)
        refine hpx.mono ?_
        rintro e w1 ⟨rfl, hb1⟩
        go_wp2_with (fail)
        go_ret
        exact ⟨by rw [Hfi.out]; rfl, hb.trans (hb1.mono hb.size)⟩
    · obtain rfl : k = l.length := by omega
      have Hfi := Lib.hid (fiI_none Hnone.out)
      go_wp2_with (fail)
      go_ret
      exact ⟨by rw [Hfi.out]; rfl, hb⟩

theorem hasI1_calls (w : World) (n : Nat) (c : Value) (q : Int → Bool) (v : Value) (l : List Int) (eg : ∀ args W, (callFunc n args).run Tryz.prog W = .ok (.enter n args) W) (hp : PicksI1 w n c q l) (h : Rd w 1 encI v l) (hn : l.length ≤ 17592186044416) :
    Calls Tryz.prog 90 #[v, .func (.func n) #[] #[c]] w fun e w' => e = .returned (.bool (l.any q)) ∧ Below w.heap.size w w' := by
  have hi := idxI1_calls w n c q v l eg hp h hn
  obtain ⟨ao, cap, rfl, _, _⟩ := Lease.rd_cellsI h
  rcases fiI_any q l with ⟨h1, h2⟩ | ⟨h1, h2⟩
  all_goals
    rw [h1]
    try rw [h2] at hi
    clear h1 hp h
    go_enter Tryz.func90, Tryz.ntmps90
    go_wp2_with (fail)
    refine hi.mono ?_
    rintro e w1 ⟨rfl, hb1⟩
    go_wp2_with (fail)
    go_ret
    exact ⟨rfl, hb1⟩

/-- What a choice does to each node of the row. -/
def PicksI0 (w : World) (n : Nat) (q : Int → Bool) (l : List Int) : Prop :=
  ∀ W, Below w.heap.size w W → ∀ x ∈ l, Calls Tryz.prog n #[.int .i64 x] W fun e w' => e = .returned (.bool (q x)) ∧ Below W.heap.size W w'

set_option maxRecDepth 4000 in
set_option maxHeartbeats 4000000 in
theorem idxI0_calls (w : World) (n : Nat) (q : Int → Bool) (v : Value) (l : List Int) (eg : ∀ args W, (callFunc n args).run Tryz.prog W = .ok (.enter n args) W) (hp : PicksI0 w n q l) (h : Rd w 1 encI v l) (hn : l.length ≤ 17592186044416) :
    Calls Tryz.prog 136 #[v, .func (.func n) #[] #[]] w fun e w' => e = .returned (.int .i64 (fiI q l)) ∧ Below w.heap.size w w' := by
  obtain ⟨ao, cap, rfl, _, hcell⟩ := Lease.rd_cellsI h
  have Hcell := Lib.hid hcell; have Hp := Lib.hid hp; clear hcell h hp
  go_enter Tryz.func136, Tryz.ntmps136
  go_wp2_with (fail)
  go_loopw [8] (fun i wr => ∃ k : Nat, k ≤ l.length ∧ i = .int .i64 k ∧ Below w.heap.size w wr ∧ (∀ p x, p < k → l[p]? = some x → q x = false)) (fun i _ => l.length - (intOf i).toNat)
  case atStart => exact ⟨0, Nat.zero_le _, rfl, Below.refl _ _, fun p x hp => by omega⟩
  case round =>
    obtain ⟨k, hk, rfl, hb, hnone⟩ := hrel
    have Hnone := Lib.hid hnone; clear hnone
    by_cases hlt : k < l.length
    · obtain ⟨x, hx⟩ : ∃ x, l[k]? = some x := ⟨l[k], by simp [hlt]⟩
      obtain ⟨b, off, rfl, hlb, c0⟩ := Hcell.out wr hb k x hx
      have hpx := Hp.out wr hb x (List.mem_of_getElem? hx)
      have Hx := Lib.hid hx; clear hx
      cases hq : q x
      · rw [hq] at hpx
        have Hq := Lib.hid hq; clear hq
        go_wp2_with (fail)
        refine hpx.mono ?_
        rintro e w1 ⟨rfl, hb1⟩
        go_wp2_with (fail)
        go_roundw
        case rel =>
          refine ⟨k + 1, by omega, by go_num, hb.trans (hb1.mono hb.size), fun p y hp hy => ?_⟩
          by_cases e : p = k
          · subst e
            have := Hx.out.symm.trans hy
            simp only [Option.some.injEq] at this
            rw [← this]; exact Hq.out
          · exact Hnone.out p y (by omega) hy
        case measure => simp [intOf]; omega
      · rw [hq] at hpx
        have Hfi := Lib.hid (fiI_some Hnone.out Hx.out hq); clear hq
        go_wp2_with (fail)
        refine hpx.mono ?_
        rintro e w1 ⟨rfl, hb1⟩
        go_wp2_with (fail)
        go_ret
        exact ⟨by rw [Hfi.out]; rfl, hb.trans (hb1.mono hb.size)⟩
    · obtain rfl : k = l.length := by omega
      have Hfi := Lib.hid (fiI_none Hnone.out)
      go_wp2_with (fail)
      go_ret
      exact ⟨by rw [Hfi.out]; rfl, hb⟩

theorem hasI0_calls (w : World) (n : Nat) (q : Int → Bool) (v : Value) (l : List Int) (eg : ∀ args W, (callFunc n args).run Tryz.prog W = .ok (.enter n args) W) (hp : PicksI0 w n q l) (h : Rd w 1 encI v l) (hn : l.length ≤ 17592186044416) :
    Calls Tryz.prog 90 #[v, .func (.func n) #[] #[]] w fun e w' => e = .returned (.bool (l.any q)) ∧ Below w.heap.size w w' := by
  have hi := idxI0_calls w n q v l eg hp h hn
  obtain ⟨ao, cap, rfl, _, _⟩ := Lease.rd_cellsI h
  rcases fiI_any q l with ⟨h1, h2⟩ | ⟨h1, h2⟩
  all_goals
    rw [h1]
    try rw [h2] at hi
    clear h1 hp h
    go_enter Tryz.func90, Tryz.ntmps90
    go_wp2_with (fail)
    refine hi.mono ?_
    rintro e w1 ⟨rfl, hb1⟩
    go_wp2_with (fail)
    go_ret
    exact ⟨rfl, hb1⟩

end Go.Proofs.YtdfckkadmgmcaaaGreatDoor.Space

/- Edits of spaces: (*work).at, file, renew, nodes. -/
namespace Go.Proofs.YtdfckkadmgmcaaaGreatDoor.Space
open Go.RowKit
open Path (Bs bs mk bs_mk mk_bs tl_bs MaxC splitE splitL parD)
open Tree
set_option linter.unusedSimpArgs false
set_option linter.unusedVariables false
def atEnd (s : Sp) (p : Bs) : Ending := if splitE p ≠ 0 then amissE 1 else if findI p s.nodes < 0 then amissE 5 else .returned (.int .i64 (findI p s.nodes))
theorem wkc {w : World} {g : Nat} {s : Sp} {e : Ed} (h : WkR w g s e) : w.cell? ⟨g, 0, none⟩ = some (.int .i64 s.txid) ∧ w.cell? ⟨g, 1, none⟩ = some (.int .i64 s.nb) ∧ w.cell? ⟨g, 2, none⟩ = some (.int .i64 s.ng) ∧ w.cell? ⟨g, 3, none⟩ = some (.int .i64 s.now) ∧ w.cell? ⟨g, 4, none⟩ = some s.vn ∧ w.cell? ⟨g, 5, none⟩ = some s.vl ∧
    w.cell? ⟨g, 6, none⟩ = some (.int .i64 e.kind) ∧ w.cell? ⟨g, 7, none⟩ = some (.string e.path) ∧ w.cell? ⟨g, 8, none⟩ = some (.string e.dst) ∧ w.cell? ⟨g, 9, none⟩ = some (.int .i64 e.client) ∧ w.cell? ⟨g, 10, none⟩ = some (.int .i64 e.call) ∧ w.cell? ⟨g, 11, none⟩ = some (.int .i64 e.n) ∧ w.cell? ⟨g, 12, none⟩ = some e.lv := by
  have hb := h.blk
  rw [wkC] at hb
  exact ⟨cell_of_blk hb, cell_of_blk hb, cell_of_blk hb, cell_of_blk hb, cell_of_blk hb, cell_of_blk hb, cell_of_blk hb, cell_of_blk hb, cell_of_blk hb, cell_of_blk hb, cell_of_blk hb, cell_of_blk hb, cell_of_blk hb⟩
set_option maxRecDepth 4000 in
set_option maxHeartbeats 4000000 in
theorem at_calls (w : World) (g : Nat) (s : Sp) (e : Ed) (h : WkR w g s e) (hM : MaxC w) : Calls Tryz.prog 100 #[.pointer (some ⟨g, 0, none⟩)] w fun e' w' => e' = atEnd s (bs e.path) ∧ Below w.heap.size w w' := by
  have hsp := Path.split_calls w e.path hM
  have hfd := fun W (hW : Below w.heap.size w W) => find_calls W s.vn s.nodes e.path (h.sp.n.below hW) h.sp.nn
  have hc := fun W (hW : Below w.heap.size w W) => wkc (h.below hW)
  obtain ⟨-, -, -, -, -, -, -, c7, -⟩ := wkc h
  obtain ⟨an, cn, hvn, -⟩ := rd_cellsN h.sp.n.rd
  obtain ⟨A, hA⟩ : ∃ A, A = atEnd s (bs e.path) := ⟨_, rfl⟩
  rw [← hA]
  rw [atEnd] at hA
  generalize s.vn = vn at *
  subst hvn
  have Hfd := Lib.hid hfd; have Hc := Lib.hid hc
  clear hfd hc h hM
  generalize splitE (bs e.path) = E at *
  generalize findI (bs e.path) s.nodes = I at *
  have HA := Lib.hid hA
  clear hA
  go_enter Tryz.func100, Tryz.ntmps100
  go_wp2_with (fail)
  refine hsp.mono ?_
  rintro e1 w1 ⟨v1, rfl, ho1, hb1⟩
  obtain ⟨a1, c1, rfl, -⟩ := own_slice ho1.own
  clear hsp c7 ho1
  by_cases hE : E = 0
  · subst hE
    obtain ⟨-, -, -, -, d4, -, -, d7, -⟩ := Hc.out w1 hb1
    go_wp2_with (go_at_call 45; refine (must_yes _ _).mono ?_; rintro e2 w2 ⟨rfl, rfl⟩)
    by_cases hI : I < 0
    · have hI' : decide (0 ≤ I) = false := decide_eq_false (by omega)
      have HA2 := Lib.hid (HA.out.trans (by rw [if_neg (by simp), if_pos hI]))
      clear HA
      go_region_held3 (fun w' => w'.cell? ⟨g, 4, none⟩ = some (.slice an s.nodes.length cn) ∧ w'.cell? ⟨g, 7, none⟩ = some (.string e.path)) (go_keep)
        (first | (go_at_call 27; refine (Hfd.out _ hb1.drew).mono ?_; rintro e3 w3 ⟨rfl, hb3⟩; obtain ⟨-, -, -, -, l4, -, -, l7, -⟩ := Hc.out w3 (hb1.drew.trans (hb3.mono hb1.size))))
      go_wp2_with (go_at_call 45; refine (must_no _ _).mono ?_; rintro e4 w4 ⟨rfl, rfl⟩)
      exact ⟨rfl, HA2.out.symm, hb1.drew.trans (hb3.mono hb1.size)⟩
    · have hI' : decide (0 ≤ I) = true := decide_eq_true (by omega)
      have HA2 := Lib.hid (HA.out.trans (by rw [if_neg (by simp), if_neg hI]))
      clear HA
      go_region_held3 (fun w' => w'.cell? ⟨g, 4, none⟩ = some (.slice an s.nodes.length cn) ∧ w'.cell? ⟨g, 7, none⟩ = some (.string e.path)) (go_keep)
        (first | (go_at_call 27; refine (Hfd.out _ hb1.drew).mono ?_; rintro e3 w3 ⟨rfl, hb3⟩; obtain ⟨-, -, -, -, l4, -, -, l7, -⟩ := Hc.out w3 (hb1.drew.trans (hb3.mono hb1.size))))
      go_wp2_with (go_at_call 45; refine (must_yes _ _).mono ?_; rintro e4 w4 ⟨rfl, rfl⟩)
      go_ret
      exact ⟨HA2.out.symm, hb1.drew.trans (hb3.mono hb1.size)⟩
  · have hE' : (E == 0) = false := by simpa using hE
    have HA2 := Lib.hid (HA.out.trans (by rw [if_pos hE]))
    clear HA
    go_wp2_with (go_at_call 45; refine (must_no _ _).mono ?_; rintro e2 w2 ⟨rfl, rfl⟩)
    exact ⟨rfl, HA2.out.symm, hb1⟩
end Go.Proofs.YtdfckkadmgmcaaaGreatDoor.Space

/- Edits of spaces: (*work).file. -/
namespace Go.Proofs.YtdfckkadmgmcaaaGreatDoor.Space
open Go.RowKit
open Path (Bs bs mk bs_mk mk_bs tl_bs MaxC splitE splitL parD)
open Tree
set_option linter.unusedSimpArgs false
set_option linter.unusedVariables false
/-- A call that ends so, and of what was there changes nothing. -/
def EndP (w : World) (A : Ending) (e : Ending) (w' : World) : Prop := e = A ∧ Below w.heap.size w w'
theorem at_ways (s : Sp) (p : Bs) : (∃ E, (E = 1 ∨ E = 5) ∧ atEnd s p = amissE E ∧ ∀ f, atN s p f = bad s E) ∨ ∃ (i : Nat) (x : Nd), s.nodes[i]? = some x ∧ bs x.path = p ∧ atEnd s p = .returned (.int .i64 (i : Int)) ∧ ∀ f, atN s p f = f i x := by
  by_cases hp : splitE p = 0
  · cases hi : s.nodes.findIdx? (fun x => bs x.path == p) with
    | none =>
      have hI : findI p s.nodes = -1 := by rw [findI, fiN, hi]
      refine .inl ⟨5, .inr rfl, ?_, fun f => ?_⟩
      · rw [atEnd, if_neg (by omega), hI, if_pos (by decide)]
      · rw [atN, if_neg (by omega), hi]
    | some i =>
      have hI : findI p s.nodes = (i : Int) := by rw [findI, fiN, hi]
      obtain ⟨hlt, h1, -⟩ := List.findIdx?_eq_some_iff_getElem.1 hi
      refine .inr ⟨i, s.nodes[i], List.getElem?_eq_getElem hlt, by simpa using h1, ?_, fun f => ?_⟩
      · rw [atEnd, if_neg (by omega), hI, if_neg (by omega)]
      · rw [atN, if_neg (by omega), hi]
        simp only [List.getElem?_eq_getElem hlt]
  · exact .inl ⟨1, .inl rfl, by rw [atEnd, if_pos hp], fun f => by rw [atN, if_pos hp]⟩
set_option maxRecDepth 4000 in
set_option maxHeartbeats 4000000 in
theorem file_bad (w : World) (g : Nat) (s : Sp) (e : Ed) (h : WkR w g s e) (hM : MaxC w) {E : Int} (hE : atEnd s (bs e.path) = amissE E) : Calls Tryz.prog 49 #[.pointer (some ⟨g, 0, none⟩)] w (EndP w (amissE E)) := by
  have hat := fun W (hW : Below w.heap.size w W) => at_calls W g s e (h.below hW) (hM.below hW)
  obtain ⟨-, -, -, -, c4, -⟩ := wkc h
  rw [hE] at hat
  obtain ⟨an, cn, hvn, -⟩ := rd_cellsN h.sp.n.rd
  rw [hvn] at c4
  have hc := fun W (hW : Below w.heap.size w W) => (hW.cell (p := ⟨g, 4, none⟩) (lt_of_block h.blk)).trans c4
  have Hat := Lib.hid hat; have Hc := Lib.hid hc
  clear hat h hM hvn hE hc
  go_enter Tryz.func49, Tryz.ntmps49
  go_wp2_with (fail)
  refine wp_region_any (by kernel_rfl) ?_
  change wpAny _ _ _ _ _ _ _ (World.drew _)
  refine wpAny_take (i := 0) (v := .pointer (some ⟨g, 0, none⟩)) rfl (by kernel_rfl) (by kernel_rfl) (by kernel_rfl) (fun _ _ _ h => h) (Or.inl ⟨by rfl, fun wz => by first | (go_simp; done) | rfl⟩) ?_
  refine wpAny_take (i := 1) (v := .pointer (some ⟨g, 0, none⟩)) rfl (by kernel_rfl) (by kernel_rfl) (by kernel_rfl) (fun _ _ _ h => h) (Or.inl ⟨by rfl, fun wz => by first | (go_simp; done) | rfl⟩) ?_
  refine wpAny_take (i := 2) (v := .pointer (some ⟨g, 0, none⟩)) rfl (by kernel_rfl) (by kernel_rfl) (by kernel_rfl) (fun _ _ _ h => h) (Or.inl ⟨by rfl, fun wz => by first | (go_simp; done) | rfl⟩) ?_
  refine wpAny_take (i := 3) (v := .pointer (some ⟨g, 4, none⟩)) rfl (by kernel_rfl) (by kernel_rfl) (by kernel_rfl) (fun _ _ _ h => h) (Or.inl ⟨by rfl, fun wz => by first | (go_simp; done) | rfl⟩) ?_
  refine wpAny_take (i := 5) (v := .pointer (some ⟨g, 0, none⟩)) rfl (by kernel_rfl) (by kernel_rfl) (by kernel_rfl) (fun _ _ _ h => h) (Or.inl ⟨by rfl, fun wz => by first | (go_simp; done) | rfl⟩) ?_
  simp only [Act.put, List.setIfInBounds_toArray, List.set_cons_zero, List.set_cons_succ]
  refine wpAny_ready (rs := [4, 6]) (by kernel_rfl) (by simp) ?_
  refine AllReady.cons rfl (fun K hK => ?_) ?_
  · go_simp
    refine hK _ _ ?_
    clear hK K
    refine wpAny_ready (rs := [6]) (by kernel_rfl) (by simp) ?_
    refine AllReady.cons rfl (fun K hK => ?_) AllReady.nil
    go_simp
    (refine (Hat.out _ (Below.refl _ _).drew).mono ?_; rintro e3 w3 ⟨he3, hb3⟩; rw [amissE] at he3; subst he3; exact ⟨rfl, rfl, hb3.os, hb3.tape, hb3.output, hb3.size, hb3.block⟩)
  · refine AllReady.cons rfl (fun K hK => ?_) AllReady.nil
    go_simp
    (refine (Hat.out _ (Below.refl _ _).drew).mono ?_; rintro e3 w3 ⟨he3, hb3⟩; rw [amissE] at he3; subst he3; exact ⟨rfl, rfl, hb3.os, hb3.tape, hb3.output, hb3.size, hb3.block⟩)
set_option maxRecDepth 4000 in
set_option maxHeartbeats 4000000 in
theorem file_at (w : World) (g : Nat) (s : Sp) (e : Ed) (h : WkR w g s e) (hM : MaxC w) {gn cap i : Nat} {x : Nd} (hv : s.vn = .slice (some ⟨gn, 0, none⟩) s.nodes.length cap) (hi : atEnd s (bs e.path) = .returned (.int .i64 (i : Int))) (hx : s.nodes[i]? = some x) :
    Calls Tryz.prog 49 #[.pointer (some ⟨g, 0, none⟩)] w (EndP w (if x.dir = true then amissE 7 else .returned (.pointer (some ⟨gn, i * 5, none⟩)))) := by
  have hat := fun W (hW : Below w.heap.size w W) => at_calls W g s e (h.below hW) (hM.below hW)
  obtain ⟨-, -, -, -, c4, -⟩ := wkc h
  rw [hi] at hat
  have hlt := (List.getElem?_eq_some_iff.1 hx).1
  have hrn := h.sp.n.rd
  obtain ⟨ao, cp, hv', -, -, hcell⟩ := hrn
  rw [hv] at hv' c4
  simp only [Value.slice.injEq, true_and] at hv'
  obtain ⟨rfl, rfl⟩ := hv'
  obtain ⟨b, off, hbo, hblt, hcx⟩ := hcell i x hx
  simp only [Option.some.injEq, Addr.mk.injEq, and_true] at hbo
  obtain ⟨rfl, rfl⟩ := hbo
  have hd := hcx 1 _ rfl
  rw [show 0 + i * 5 + 1 = i * 5 + 1 by omega] at hd
  have hc := fun W (hW : Below w.heap.size w W) => (show W.cell? ⟨g, 4, none⟩ = some (.slice (some ⟨gn, 0, none⟩) s.nodes.length cap) ∧ W.cell? ⟨gn, i * 5 + 1, none⟩ = some (.bool x.dir) from ⟨(hW.cell (p := ⟨g, 4, none⟩) (lt_of_block h.blk)).trans c4, (hW.cell (p := ⟨gn, i * 5 + 1, none⟩) hblt).trans hd⟩)
  have hln := h.sp.nn
  have Hat := Lib.hid hat; have Hc := Lib.hid hc
  clear hat h hM hv hi hc hcell hcx hd hx
  cases hxd : x.dir
  · rw [hxd] at Hc
    clear hxd
    go_enter Tryz.func49, Tryz.ntmps49
    go_wp2_with (fail)
    go_region_held3 (fun w' => w'.cell? ⟨g, 4, none⟩ = some (.slice (some ⟨gn, 0, none⟩) s.nodes.length cap)) (go_keep)
      (first | (go_at_call 100; refine (Hat.out _ (Below.refl _ _).drew).mono ?_; rintro e3 w3 ⟨rfl, hb3⟩; obtain ⟨l4, l5⟩ := Hc.out w3 ⟨hb3.os, hb3.tape, hb3.output, hb3.size, hb3.block⟩))
    go_wp2_with (go_at_call 45; refine (must_yes _ _).mono ?_; rintro e4 w4 ⟨rfl, rfl⟩)
    go_ret
    exact ⟨rfl, hb3.os, hb3.tape, hb3.output, hb3.size, hb3.block⟩
  · rw [hxd] at Hc
    clear hxd
    go_enter Tryz.func49, Tryz.ntmps49
    go_wp2_with (fail)
    go_region_held3 (fun w' => w'.cell? ⟨g, 4, none⟩ = some (.slice (some ⟨gn, 0, none⟩) s.nodes.length cap)) (go_keep)
      (first | (go_at_call 100; refine (Hat.out _ (Below.refl _ _).drew).mono ?_; rintro e3 w3 ⟨rfl, hb3⟩; obtain ⟨l4, l5⟩ := Hc.out w3 ⟨hb3.os, hb3.tape, hb3.output, hb3.size, hb3.block⟩))
    go_wp2_with (go_at_call 45; refine (must_no _ _).mono ?_; rintro e4 w4 ⟨rfl, rfl⟩)
    exact ⟨rfl, rfl, hb3.os, hb3.tape, hb3.output, hb3.size, hb3.block⟩
end Go.Proofs.YtdfckkadmgmcaaaGreatDoor.Space

/- A region that draws its order: all ahead of its end reads, or makes memory; what stands at its end may do whatever it likes (end the call, too). -/
namespace Go.Proofs.YtdfckkadmgmcaaaGreatDoor.Rtail
open Go.RowKit Go.Sort
set_option linter.unusedVariables false
section
variable {P : Program} {ops : Array Oper} {md : Region.Mode} {C : World → Prop}
/-- Whatever order is picked for what stands ahead of the end (number n), each is quiet; then L. -/
def ahead (P : Program) (md : Region.Mode) (ops : Array Oper) (C : World → Prop) (n : Nat) (L : Array Bool → Act → Prop) : Nat → Array Bool → Act → Prop
  | 0, ls, a => L ls a
  | k + 1, ls, a => Region.ready md ops ls ≠ [] ∧ ∀ j ∈ Region.ready md ops ls, j < n ∧ qOp P ops C j (ahead P md ops C n L k (ls.setIfInBounds j true)) a
theorem any_of_ahead {n m : Nat} {L : Array Bool → Act → Prop} {Q : Exit → Act → World → Prop} (hL : ∀ ls a w, C w → L ls a → wpAny P md ops Q m ls a w) : ∀ (k : Nat) (ls : Array Bool) (a : Act) (w : World), C w → ahead P md ops C n L k ls a → wpAny P md ops Q (k + m) ls a w := by
  intro k
  induction k with
  | zero => intro ls a w hw h; rw [Nat.zero_add]; exact hL _ _ _ hw h
  | succ k ih =>
    intro ls a w hw h
    have e : k + 1 + m = (k + m) + 1 := by omega
    rw [e]
    exact ⟨fun h0 => absurd h0 h.1, fun j hj => wpOp_of_qOp hw (fun a' w' hw' h' => ih _ _ _ hw' h') (h.2 j hj).2⟩
theorem unlisted {ls : Array Bool} {i : Nat} {oj : Oper} (hi : ls.getD i true = false) (hall : ∀ e ∈ oj.after, Region.binds md e = true → ls.getD e.on false = true) : ∀ e ∈ oj.after, Region.binds md e = true → e.on ≠ i := by
  intro e he hb heq
  have h1 := hall e he hb
  rw [heq, getD_both hi] at h1
  cases h1
/-- What may come up, and is apart from all others, may be taken first. -/
theorem ahead_take {n i : Nat} {oi : Oper} {v : Value} {L : Array Bool → Act → Prop} (hi : ops[i]? = some oi) (hsel : ∀ (j : Nat) (o : Oper) cs b, ops[j]? = some o → o.op ≠ .select cs b)
    (hs : Region.sinkB md ops n = true) (hc : Region.chainB md ops n = true) (hn : n < ops.size) (hin : i < n) (hL : ∀ ls a, L ls a → ∀ j ∈ Region.ready md ops ls, n ≤ j) :
    ∀ (k : Nat) (ls : Array Bool) (a : Act), HeadInv md ops n ls →
      (∀ j oj, ops[j]? = some oj → j ≠ i → ls.getD j true = false → (∀ e ∈ oj.after, Region.binds md e = true → e.on ≠ i) → oi.apart ops oj = true) →
      i ∈ Region.ready md ops ls → YieldsIn P ops C oi v a → ahead P md ops C n L k (ls.setIfInBounds i true) (a.put oi.dst v) → ahead P md ops C n L (k + 1) ls a := by
  intro k
  induction k with
  | zero =>
    intro ls a inv _ hr hy H
    have hu := (mem_ready.1 hr).1
    refine ⟨fun h => (by rw [h] at hr; cases hr), fun j hj => ?_⟩
    have hjn : j < n := Nat.lt_of_not_le fun h => tail_waits hs hc hn inv _ i rfl hin hu j h hj
    refine ⟨hjn, ?_⟩
    by_cases e : j = i
    · subst e; exact hy.qOp hi H
    · exact absurd (hL _ _ H j (ready_mono hj e)) (by omega)
  | succ k ih =>
    intro ls a inv hfree hr hy H
    have hu := (mem_ready.1 hr).1
    refine ⟨fun h => (by rw [h] at hr; cases hr), fun j hj => ?_⟩
    have hjn : j < n := Nat.lt_of_not_le fun h => tail_waits hs hc hn inv _ i rfl hin hu j h hj
    refine ⟨hjn, ?_⟩
    by_cases e : j = i
    · subst e; exact hy.qOp hi H
    · obtain ⟨hju, oj, hoj, hall⟩ := mem_ready.1 hj
      have hq := qOp_put hoj (hfree j oj hoj e hju (unlisted hu hall)) (fun cs b => hsel i oi cs b hi) (fun cs b => hsel j oj cs b hoj) hy (H.2 j (ready_mono hj e)).2
      refine qOp_mono (fun a' h3 => ih _ a' (inv.set hj hjn) (fun m om hm hmi hmu hno => hfree m om hm hmi ?_ hno) (ready_mono hr (Ne.symm e)) h3.1 ?_) hq
      · by_cases e2 : j = m
        · subst e2; exact hju
        · rwa [getD_set_ne true e2] at hmu
      · rw [Array.setIfInBounds_comm _ _ e]; exact h3.2
theorem ahead_lex {n m : Nat} {Lq : Act → Prop} (hsel : Region.noSelect ops = true) (hs : Region.sinkB md ops n = true) (hc : Region.chainB md ops n = true) (hn : n < ops.size) :
    ∀ (l : List Oper) (k : Nat) (ls : Array Bool) (a : Act), (∀ j, j < l.length → l[j]? = ops[k + j]?) → k + l.length = n → HeadInv md ops n ls →
    Region.lexHead md ops m l.length k ls = true → wpQuiet P ops C Lq l a → ahead P md ops C n (fun ls' a' => Region.seqB md ops m n ls' = true ∧ Lq a') l.length ls a := by
  intro l
  induction l with
  | nil =>
    intro k ls a _ hk _ hB h
    obtain rfl : k = n := by simpa using hk
    exact ⟨by simpa [Region.lexHead] using hB, h⟩
  | cons o l ih =>
    intro k ls a hl hk inv hB h
    have h0 : ops[k]? = some o := by simpa using (hl 0 (by simp)).symm
    simp only [List.length_cons, Region.lexHead, Bool.and_eq_true] at hB hk
    obtain ⟨⟨hr, hf⟩, hB'⟩ := hB
    have hr' : k ∈ Region.ready md ops ls := by simpa using hr
    have hq : qOp P ops C k (wpQuiet P ops C Lq l) a := by unfold qOp; simp only [h0]; exact h
    obtain ⟨v, hy, hK⟩ := yieldsIn_of_qOp h0 hq
    refine ahead_take h0 (Region.noSelect_spec hsel) hs hc hn (by omega) (fun ls' a' hL => seqB_ready hL.1) l.length ls a inv (Region.free_spec h0 hf) hr' hy ?_
    refine ih (k + 1) _ _ (fun j hj => ?_) (by omega) (inv.set hr' (by omega)) hB' hK
    have := hl (j + 1) (by simp; omega)
    simpa [Nat.add_assoc, Nat.add_comm 1 j] using this
/-- The region: what stands ahead of number n reads, or makes memory; the end is walked in the order of the text. -/
theorem wp_tail {id : Nat} {Q : Exit → Act → World → Prop} {a : Act} {w : World} {l : List Oper} (n : Nat) (hm : P.follows .mixedOrders = true) (hB : Region.lexTailB .any l.toArray n = true)
    (h : wpQuiet P l.toArray (fun w' => ∃ p : Regrown, w' = grow (redrawn w p.d) p.os) (fun a' => ∀ w', (∃ p : Regrown, w' = grow (redrawn w p.d) p.os) → wpList P l.toArray Q (l.drop n) a' w') (l.take n) a) : (Code.region id l.toArray true).wp P Q a w := by
  simp only [Region.lexTailB, Bool.and_eq_true, decide_eq_true_eq] at hB
  obtain ⟨⟨⟨⟨hsel, hn⟩, hs⟩, hc⟩, hlex⟩ := hB
  have hn' : n < l.length := by simpa using hn
  have htl : (l.take n).length = n := by rw [List.length_take]; omega
  have hdl : (l.drop n).length = l.toArray.size - n := by simp
  have inv0 : HeadInv .any l.toArray n (Array.replicate l.toArray.size false) := by
    refine ⟨by simp, fun j oj _ hl => ?_, fun t _ ht => getD_in (by simpa using ht) (getD_replicate_false _ _)⟩
    rw [getD_replicate_false] at hl; cases hl
  have H := ahead_lex (md := .any) (m := l.toArray.size - n) hsel hs hc hn (l.take n) 0 _ a (fun j hj => by
    rw [htl] at hj
    rw [List.getElem?_take, if_pos hj]; simp) (by rw [htl, Nat.zero_add]) inv0 (by rw [htl]; exact hlex) h
  refine wp_region_any hm ?_
  have hC : ∃ p : Regrown, ({ w with drawn := w.drawn + 1 } : World) = grow (redrawn w p.d) p.os := ⟨⟨w.drawn + 1, #[]⟩, by rw [grow_empty]; rfl⟩
  have R := any_of_ahead (Q := Q) (m := l.toArray.size - n) (fun ls a' w' hw' hL => by
    have := wpAny_of_seq (md := .any) (Q' := Q) (l.drop n) n ls a' w' (fun j => by simp [List.getElem?_drop]) (by rw [hdl]; exact hL.1) (hL.2 w' hw')
    rwa [hdl] at this) _ _ _ _ hC H
  rw [htl, show n + (l.toArray.size - n) = l.toArray.size by omega] at R
  exact R
end
end Go.Proofs.YtdfckkadmgmcaaaGreatDoor.Rtail

/- Edits of spaces: (*work).nodes, renew. -/
namespace Go.Proofs.YtdfckkadmgmcaaaGreatDoor.Space
open Go.RowKit
open Path (Bs bs mk bs_mk mk_bs tl_bs MaxC splitE splitL parD)
open Tree
set_option linter.unusedSimpArgs false
set_option linter.unusedVariables false
/-- A row never lies in a block of another kind. -/
theorem own_ne_blk {w : World} {e size n g : Nat} {v : Value} {xs : List Value} {cs : Array Value} {t : TypeId} (h : w.ownsRow 0 e size v n xs) (hg : w.heap[g]? = some (.cells cs t (0, 0))) (hne : e ≠ t) : v.ownBlock ≠ some g := by
  intro hc
  rcases h.2 with ⟨e', _⟩ | ⟨g1, c1, cur1, e', _, hg1, _⟩
  · rw [e'] at hc; cases hc
  · rw [e'] at hc
    simp only [Value.ownBlock, Option.some.injEq] at hc
    subst hc
    rw [hg] at hg1
    simp only [Option.some.injEq, Obj.cells.injEq] at hg1
    exact hne hg1.2.1.symm
theorem OwnX.poke {w w' : World} {v : Value} {q : List Nd} (h : OwnX w w' v q) {g j : Nat} {u : Value} (hv : v.ownBlock ≠ some g) (hb : ∀ x ∈ q, x.bv.ownBlock ≠ some g) : OwnX w (w'.setCell ⟨g, j, none⟩ u) v q :=
  ⟨ownsRow_setCell_other h.own hv _, h.new, fun x hx => OwnB.poke (h.bl x hx) (hb x hx)⟩
/-- A field of the edit's space that is another one. -/
theorem WkO.poke {w0 w : World} {g j : Nat} {s s' : Sp} {e : Ed} {u : Value} (h : WkO w0 w g s e) (hc : wkC s' e = (wkC s e).setIfInBounds j u) (hn : OwnX w0 w s'.vn s'.nodes) (hl : Lease.OwnL w0 w s'.vl s'.leases) (nn : s'.nodes.length ≤ 8796093022208) (ln : s'.leases.length ≤ 8796093022208) :
    WkO w0 (w.setCell ⟨g, j, none⟩ u) g s' e := by
  have hb := h.blk
  refine ⟨?_, OwnX.poke hn (own_ne_blk hn.own hb (by decide)) (fun x hx => own_ne_blk (hn.bl x hx).own hb (by decide)), OwnL.poke hl (own_ne_blk hl.own hb (by decide)), h.len, h.new, h.base.setCell h.new _, nn, ln⟩
  rw [hc]
  exact heap_setCell_same _ _ _ _ _ _ hb
set_option maxHeartbeats 2000000 in
theorem nodes_yes (w : World) (g : Nat) (u : Value) (a : Option Addr) (n c : Nat) (hc : w.cell? ⟨g, 4, none⟩ = some u) (hz : w.frozen? ⟨g, 4, none⟩ = false) : Calls Tryz.prog 97 #[.pointer (some ⟨g, 0, none⟩), .slice a n c, .int .i64 0] w fun e w' => e = .returned (.tuple #[]) ∧ w' = w.setCell ⟨g, 4, none⟩ (.slice a n c) := by
  go_enter Tryz.func97, Tryz.ntmps97
  go_wp2_with (go_at_call 45; refine (must_yes _ _).mono ?_; rintro e1 w1 ⟨rfl, rfl⟩)
  go_end0
  exact ⟨rfl, rfl⟩
set_option maxHeartbeats 2000000 in
theorem nodes_no (w : World) (g : Nat) (v : Value) (E : Int) (hE : E ≠ 0) : Calls Tryz.prog 97 #[.pointer (some ⟨g, 0, none⟩), v, .int .i64 E] w fun e w' => e = .panicked [{ v := .iface 73 (.int .i64 E), recovered := false }] ∧ w' = w := by
  have hE' : (E == 0) = false := by simpa using hE
  go_enter Tryz.func97, Tryz.ntmps97
  go_wp2_with (go_at_call 45; refine (must_no _ _).mono ?_; rintro e1 w1 ⟨rfl, rfl⟩)
  exact ⟨rfl, rfl, rfl⟩
/-- A lease renewed in the edit's space. -/
def RenP (w0 w : World) (g : Nat) (s : Sp) (e : Ed) (e' : Ending) (w' : World) : Prop :=
  e' = .returned (.tuple #[]) ∧ (∃ vl, WkO w0 w' g { renS s e.client with vl := vl } e) ∧ Upd (· = g) w w'
set_option maxRecDepth 4000 in
set_option maxHeartbeats 4000000 in
theorem renew_calls (w0 w : World) (g : Nat) (s : Sp) (e : Ed) (h : WkO w0 w g s e) (hok : Lease.renOk e.client s.now s.leases = true) : Calls Tryz.prog 96 #[.pointer (some ⟨g, 0, none⟩)] w (RenP w0 w g s e) := by
  have hlr := fun W (hW : Below w.heap.size w W) => Lease.renew_calls W s.vl s.leases e.client s.now (h.rd.sp.l.below hW (Nat.le_refl _)) h.ln
  rw [if_pos hok] at hlr
  obtain ⟨al, cl, hvl, -⟩ := Lease.rd_cells h.rd.sp.l
  have hc := fun W (hW : Below w.heap.size w W) => (show W.cell? ⟨g, 5, none⟩ = some s.vl ∧ W.cell? ⟨g, 9, none⟩ = some (.int .i64 e.client) ∧ W.cell? ⟨g, 3, none⟩ = some (.int .i64 s.now) ∧ W.frozen? ⟨g, 5, none⟩ = false from by
    obtain ⟨-, -, -, c3, -, c5, -, -, -, c9, -⟩ := wkc (h.rd.below hW)
    exact ⟨c5, c9, c3, free_of_blk (h.rd.below hW).blk⟩)
  have hlen : (Lease.renR e.client s.now s.leases).length ≤ 8796093022208 := by
    rw [ren_is hok]
    have := Lease.right_len (Lease.ren_right hok)
    omega
  rw [hvl] at hlr hc
  have Hlr := Lib.hid hlr; have Hc := Lib.hid hc; have Hh := Lib.hid h; have Hlen := Lib.hid hlen
  obtain ⟨c5, c9, c3, z5⟩ := hc w (Below.refl _ _)
  clear hlr hc h hok hvl hlen
  go_enter Tryz.func96, Tryz.ntmps96
  go_wp2_with (fail)
  go_region_held3 (fun w' => w'.cell? ⟨g, 5, none⟩ = some (.slice al s.leases.length cl) ∧ w'.cell? ⟨g, 9, none⟩ = some (.int .i64 e.client) ∧ w'.cell? ⟨g, 3, none⟩ = some (.int .i64 s.now)) (go_keep)
    (first | (go_at_call 142; refine (Hlr.out _ (Below.refl _ _).drew).mono ?_; rintro e3 w3 ⟨v3, rfl, ho3, hb3⟩; obtain ⟨a3, c3', rfl, -⟩ := own_slice ho3.own; obtain ⟨l5, l9, l3, lz⟩ := Hc.out w3 ⟨hb3.os, hb3.tape, hb3.output, hb3.size, hb3.block⟩; have Ho3 := Lib.hid ho3; have Hb3 := Lib.hid hb3; clear ho3 hb3))
  go_wp2_with (go_at_call 45; refine (must_yes _ _).mono ?_; rintro e1 w1 ⟨rfl, rfl⟩)
  go_end0
  have hb : Below w.heap.size w w1 := ⟨Hb3.out.os, Hb3.out.tape, Hb3.out.output, Hb3.out.size, Hb3.out.block⟩
  have hW := Hh.out.below hb
  have hs := Hh.out.base.size
  refine ⟨rfl, ⟨_, WkO.poke (s' := { renS s e.client with vl := .slice a3 (Lease.renR e.client s.now s.leases).length c3' }) (j := 5) hW rfl hW.nodes ⟨Ho3.out.own, fun k hk => Nat.le_trans hs (Ho3.out.new k hk)⟩ hW.nn Hlen.out⟩, (Upd.of_below hb (· = g)).setCell (p := ⟨g, 5, none⟩) (.inl rfl) _⟩
end Go.Proofs.YtdfckkadmgmcaaaGreatDoor.Space

/- Edits of spaces: cells of nodes and of blocks that are other ones; (*work).lengths. -/
namespace Go.Proofs.YtdfckkadmgmcaaaGreatDoor.Space
open Go.RowKit
open Path (Bs bs mk bs_mk mk_bs tl_bs MaxC splitE splitL parD)
open Tree
set_option linter.unusedSimpArgs false
set_option linter.unusedVariables false
theorem apart_ne {l : List Nd} (h : Apart l) {i j : Nat} {x y : Nd} (hx : l[i]? = some x) (hy : l[j]? = some y) (hne : j ≠ i) {g : Nat} (hg : x.bv.ownBlock = some g) : y.bv.ownBlock ≠ some g := by
  obtain ⟨hi, rfl⟩ := List.getElem?_eq_some_iff.1 hx
  obtain ⟨hj, rfl⟩ := List.getElem?_eq_some_iff.1 hy
  rw [Apart, List.pairwise_iff_getElem] at h
  rcases Nat.lt_or_gt_of_ne hne with hlt | hlt
  · exact fun hc => h j i hj hi hlt g hc hg
  · exact h i j hi hj hlt g hg
theorem apart_set {l : List Nd} (h : Apart l) {i : Nat} {x y : Nd} (hx : l[i]? = some x) (hb : y.bv = x.bv) : Apart (l.set i y) := by
  have key : ∀ l : List Nd, Apart l ↔ (l.map fun x => x.bv).Pairwise fun a b => ∀ g, a.ownBlock = some g → b.ownBlock ≠ some g := fun l => by rw [Apart, List.pairwise_map]
  rw [key, List.map_set, hb, Lease.set_same (by rw [List.getElem?_map, hx]; rfl), ← key]
  exact h
theorem set_at {l : List Nd} {i : Nat} {x y z : Nd} (hx : l[i]? = some x) (hz : z ∈ l.set i y) : z = y ∨ ∃ j, j ≠ i ∧ l[j]? = some z := by
  obtain ⟨j, hj⟩ := List.mem_iff_getElem?.1 hz
  by_cases e : j = i
  · subst e
    rw [List.getElem?_set_self (List.getElem?_eq_some_iff.1 hx).1] at hj
    exact .inl (Option.some.inj hj).symm
  · rw [List.getElem?_set_ne (fun h => e h.symm)] at hj
    exact .inr ⟨j, e, hj⟩
theorem flatN_same {l : List Nd} {i : Nat} {x y : Nd} (hx : l[i]? = some x) (hy : encN y = encN x) : flatN (l.set i y) = flatN l := by
  have hk := (List.getElem?_eq_some_iff.1 hx).1
  refine (flat_ext encN 5 encN_len (by decide) _ _ (by rw [List.length_set, flatN_len]) fun k j z hz hj => ?_).symm
  by_cases e : k = i
  · subst e
    rw [List.getElem?_set_self hk] at hz
    simp only [Option.some.injEq] at hz
    subst hz
    rw [flatN, flat_get encN 5 encN_len l k j x hx hj, hy]
  · rw [List.getElem?_set_ne (fun h => e h.symm)] at hz
    rw [flatN, flat_get encN 5 encN_len l k j z hz hj]
/-- A cell of a node's blocks that is another one. -/
theorem WkO.bl {w0 w : World} {g gb cap i j : Nat} {s : Sp} {e : Ed} {x : Nd} {B : List Bl} {u : Value} (h : WkO w0 w g s e) (hA : Apart s.nodes) (hx : s.nodes[i]? = some x) (hbv : x.bv = .slice (some ⟨gb, 0, none⟩) x.blocks.length cap) (hlen : B.length = x.blocks.length) (hj : j < x.blocks.length * 3) (hB : flatB B = (flatB x.blocks).set j u) :
    WkO w0 (w.setCell ⟨gb, j, none⟩ u) g (setN s i { x with blocks := B }) e := by
  have hxm := List.mem_of_getElem? hx
  have hxo := h.nodes.bl x hxm
  have hob : x.bv.ownBlock = some gb := by rw [hbv]; rfl
  have hgb := hxo.new gb hob
  have hne : g ≠ gb := fun e => by
    subst e
    exact own_ne_blk hxo.own h.blk (by decide) hob
  refine ⟨(heap_setCell_other w ⟨gb, j, none⟩ g u hne).trans h.blk, ⟨?_, h.nodes.new, fun y hy => ?_⟩, OwnL.poke h.leases (own_kinds h.leases.own hxo.own (by decide) hob), h.len, h.new, h.base.setCell hgb _, ?_, h.ln⟩
  · show (w.setCell ⟨gb, j, none⟩ u).ownsRow 0 _ 5 s.vn (s.nodes.set i _).length (flatN (s.nodes.set i _))
    rw [List.length_set, flatN_same hx (y := { x with blocks := B }) rfl]
    exact ownsRow_setCell_other h.nodes.own (own_kinds h.nodes.own hxo.own (by decide) hob) _
  · rcases set_at hx hy with rfl | ⟨k, hk, hky⟩
    · refine ⟨?_, hxo.new⟩
      show (w.setCell ⟨gb, j, none⟩ u).ownsRow 0 _ 3 x.bv B.length (flatB B)
      have ho := hxo.own
      rw [hlen, hB]
      rw [hbv] at ho ⊢
      exact own_poke ho hj u
    · exact OwnB.poke (h.nodes.bl y (List.mem_of_getElem? hky)) (apart_ne hA hx hky hk hob)
  · show (s.nodes.set i _).length ≤ _
    rw [List.length_set]; exact h.nn
/-- A cell of a node that is another one. -/
theorem WkO.nd {w0 w : World} {g gn cap i j : Nat} {s : Sp} {e : Ed} {x y : Nd} {u : Value} (h : WkO w0 w g s e) (hx : s.nodes[i]? = some x) (hv : s.vn = .slice (some ⟨gn, 0, none⟩) s.nodes.length cap) (hj : j < 5) (hy : encN y = (encN x).set j u) (hb : OwnB w0 w y.bv y.blocks) :
    WkO w0 (w.setCell ⟨gn, i * 5 + j, none⟩ u) g (setN s i y) e := by
  have hk := (List.getElem?_eq_some_iff.1 hx).1
  have hob : s.vn.ownBlock = some gn := by rw [hv]; rfl
  have hgn := h.nodes.new gn hob
  have hne : g ≠ gn := fun e => by
    subst e
    exact own_ne_blk h.nodes.own h.blk (by decide) hob
  refine ⟨(heap_setCell_other w ⟨gn, i * 5 + j, none⟩ g u hne).trans h.blk, ⟨?_, h.nodes.new, fun z hz => ?_⟩, OwnL.poke h.leases (own_kinds h.leases.own h.nodes.own (by decide) hob), h.len, h.new, h.base.setCell hgn _, ?_, h.ln⟩
  · show (w.setCell ⟨gn, i * 5 + j, none⟩ u).ownsRow 0 _ 5 s.vn (s.nodes.set i y).length (flatN (s.nodes.set i y))
    have ho := h.nodes.own
    rw [List.length_set, ← flatN_put hx hj hy]
    rw [hv] at ho ⊢
    exact own_poke ho (by omega) u
  · have hz' : OwnB w0 w z.bv z.blocks := by
      rcases set_at hx hz with rfl | ⟨k, _, hky⟩
      · exact hb
      · exact h.nodes.bl z (List.mem_of_getElem? hky)
    exact OwnB.poke hz' (own_kinds hz'.own h.nodes.own (by decide) hob)
  · show (s.nodes.set i y).length ≤ _
    rw [List.length_set]; exact h.nn
/-- A block more behind a node's blocks: the row of them is laid anew, or in its own place. -/
theorem WkO.app {w0 w w4 : World} {g gn cap i : Nat} {s : Sp} {e : Ed} {x : Nd} {b : Bl} {v' : Value} (h : WkO w0 w g s e) (hA : Apart s.nodes) (hx : s.nodes[i]? = some x) (hv : s.vn = .slice (some ⟨gn, 0, none⟩) s.nodes.length cap)
    (own : w4.ownsRow 0 31 3 v' (x.blocks.length + 1) (flatB x.blocks ++ encB b)) (grow : w.grownBy w4 x.bv.ownBlock) (hat : v'.ownBlock = x.bv.ownBlock ∨ v'.ownBlock = some w.heap.size) :
    WkO w0 (w4.setCell ⟨gn, i * 5 + 3, none⟩ v') g (setN s i { x with bv := v', blocks := x.blocks ++ [b] }) e := by
  have hk := (List.getElem?_eq_some_iff.1 hx).1
  have hxo := h.nodes.bl x (List.mem_of_getElem? hx)
  have hob : s.vn.ownBlock = some gn := by rw [hv]; rfl
  have hgn := h.nodes.new gn hob
  have kN := h.nodes.own.kept grow (apart h.nodes.own hxo |>.elim (fun e => .inr (by rw [e, hob]; simp)) (fun e => .inr (Ne.symm e)))
  have hgr : ∀ k, x.bv.ownBlock = some k → g ≠ k := fun k hk e => own_ne_blk hxo.own h.blk (by decide) (e ▸ hk)
  have kG : w4.heap[g]? = some (.cells (wkC s e) 78 (0, 0)) := (grow.block g (lt_of_block h.blk) (fun e => hgr g e.symm rfl)).trans h.blk
  have hgne : g ≠ gn := fun e => own_ne_blk h.nodes.own h.blk (by decide) (e ▸ hob)
  have hnewv : ∀ k, v'.ownBlock = some k → w0.heap.size ≤ k := fun k hk => by
    rcases hat with e | e
    · exact hxo.new k (e ▸ hk)
    · rw [e] at hk; cases hk; exact h.base.size
  have kL := h.leases.own.kept grow (by
    cases hb : x.bv.ownBlock with
    | none => cases hzb : s.vl.ownBlock with
      | none => exact .inl rfl
      | some k => exact .inr (by simp)
    | some k => exact .inr (own_kinds h.leases.own hxo.own (by decide) hb))
  have hbase := h.base.grown grow h.base.size (fun k hk => hxo.new k hk)
  refine ⟨(heap_setCell_other w4 ⟨gn, i * 5 + 3, none⟩ g v' hgne).trans kG, ⟨?_, h.nodes.new, fun z hz => ?_⟩, ⟨ownsRow_setCell_other kL (own_kinds h.leases.own h.nodes.own (by decide) hob) _, h.leases.new⟩, h.len, h.new, hbase.setCell hgn _, ?_, h.ln⟩
  · show (w4.setCell ⟨gn, i * 5 + 3, none⟩ v').ownsRow 0 _ 5 s.vn (s.nodes.set i _).length (flatN (s.nodes.set i _))
    rw [List.length_set, ← flatN_put (j := 3) (u := v') hx (by decide) rfl]
    rw [hv] at kN ⊢
    exact own_poke kN (by omega) v'
  · rcases set_at hx hz with rfl | ⟨k, hki, hky⟩
    · refine ⟨?_, hnewv⟩
      show (w4.setCell ⟨gn, i * 5 + 3, none⟩ v').ownsRow 0 _ 3 v' (x.blocks ++ [b]).length (flatB (x.blocks ++ [b]))
      have e1 : flatB (x.blocks ++ [b]) = flatB x.blocks ++ encB b := by simp [flatB]
      rw [List.length_append, e1]
      exact ownsRow_setCell_other own (own_kinds own kN (by decide) hob) _
    · have hzo := h.nodes.bl z (List.mem_of_getElem? hky)
      have hz4 : OwnB w0 w4 z.bv z.blocks := hzo.grown grow (by
        cases hb : x.bv.ownBlock with
        | none => cases hzb : z.bv.ownBlock with
          | none => exact .inl rfl
          | some k => exact .inr (by simp)
        | some k => exact .inr (apart_ne hA hx hky hki hb))
      exact OwnB.poke hz4 (own_kinds hz4.own kN (by decide) hob)
  · show (s.nodes.set i _).length ≤ _
    rw [List.length_set]; exact h.nn
theorem flatB_put {l : List Bl} {k j : Nat} {b c : Bl} {u : Value} (hb : l[k]? = some b) (hj : j < 3) (hc : encB c = (encB b).set j u) : flatB (l.set k c) = (flatB l).set (k * 3 + j) u := by
  symm
  refine flat_ext encB 3 encB_len (by decide) _ _ (by rw [List.length_set, List.length_set, flatB_len]) fun i j' z hz hj' => ?_
  have hkl := (List.getElem?_eq_some_iff.1 hb).1
  have hfl := flatB_len l
  by_cases e : i = k
  · subst e
    rw [List.getElem?_set_self hkl] at hz
    simp only [Option.some.injEq] at hz
    subst hz
    rw [hc]
    by_cases e2 : j' = j
    · subst e2
      rw [List.getElem?_set_self (by omega), List.getElem?_set_self (by rw [encB_len]; exact hj)]
    · rw [List.getElem?_set_ne (by omega), List.getElem?_set_ne (fun h => e2 h.symm), flatB, flat_get encB 3 encB_len l i j' b hb hj']
  · rw [List.getElem?_set_ne (fun h => e h.symm)] at hz
    rw [List.getElem?_set_ne (by omega), flatB, flat_get encB 3 encB_len l i j' z hz hj']
theorem zip_next : ∀ (l : List Bl) (m : List Int) (k : Nat) (b : Bl) (n : Int), l[k]? = some b → m[k]? = some n → zipLen l (m.take (k + 1)) = (zipLen l (m.take k)).set k { b with len := n } ∧ (zipLen l (m.take k))[k]? = some b
  | [], m, k, b, n, hb, _ => by simp at hb
  | x :: t, [], k, b, n, _, hn => by simp at hn
  | x :: t, y :: m, 0, b, n, hb, hn => by
    simp at hb hn
    subst hb hn
    simp [zipLen]
  | x :: t, y :: m, k + 1, b, n, hb, hn => by
    obtain ⟨h1, h2⟩ := zip_next t m k b n (by simpa using hb) (by simpa using hn)
    rw [List.take_succ_cons, List.take_succ_cons, zipLen, zipLen, h1]
    exact ⟨rfl, by simpa using h2⟩
set_option maxHeartbeats 2000000 in
theorem odd_calls (w : World) (n : Int) : Calls Tryz.prog 180 #[.int .i64 n] w fun e w' => e = .returned (.bool (decide (64 < n))) ∧ Below w.heap.size w w' := by
  go_enter Tryz.func180, Tryz.ntmps180
  go_wp2_with (fail)
  go_ret
  exact ⟨rfl, Below.refl _ _⟩
end Go.Proofs.YtdfckkadmgmcaaaGreatDoor.Space

/- Edits of spaces: (*work).lengths, walked. -/
namespace Go.Proofs.YtdfckkadmgmcaaaGreatDoor.Space
open Go.RowKit
open Path (Bs bs mk bs_mk mk_bs tl_bs MaxC splitE splitL parD)
open Tree
set_option linter.unusedSimpArgs false
set_option linter.unusedVariables false
set_option maxRecDepth 8000 in
set_option maxHeartbeats 4000000 in
theorem lens_no (w : World) (g : Nat) (s : Sp) (e : Ed) (h : WkR w g s e) {gn o : Nat} {x : Nd} (hx : w.cell? ⟨gn, o + 3, none⟩ = some x.bv) (hb : Rd w 3 encB x.bv x.blocks) (hn : x.blocks.length ≤ 8) (hm : e.lens.length ≤ 8) (hno : lensOk e x = false) :
    Calls Tryz.prog 146 #[.pointer (some ⟨g, 0, none⟩), .pointer (some ⟨gn, o, none⟩)] w (EndP w (amissE 1)) := by
  obtain ⟨-, -, -, -, -, -, -, -, -, -, -, -, c12⟩ := wkc h
  obtain ⟨al, cl, hlv, -⟩ := Lease.rd_cellsI h.len
  obtain ⟨ax, cx, hbv⟩ := bv_slice hb
  have hany := fun d os => Calls.regrown_of (hasI0_calls (Go.Sort.grow (redrawn w d) os) 180 (fun n => decide (64 < n)) e.lv e.lens (enters Tryz.func180 (by kernel_rfl) rfl) (fun W hW y hy => odd_calls W y) (h.len.below (below_regrown w d os) (Nat.le_refl _)) (by omega))
  rw [hlv] at c12 hany
  rw [hbv] at hx
  rw [lensOk] at hno
  rw [amissE]
  clear h hb hbv hlv
  by_cases hl : e.lens.length = x.blocks.length
  · have hany1 : e.lens.any (fun n => decide (64 < n)) = true := by
      rw [decide_eq_true hl, Bool.true_and] at hno
      simpa using hno
    rw [hany1] at hany
    have q1 : ((e.lens.length : Int) == (x.blocks.length : Int)) = true := by rw [hl]; simp
    have Hany := Lib.hid hany
    clear hany hno hl hany1
    have C12 := fun d os => cell_regrown c12 d os
    have CX := fun d os => cell_regrown hx d os
    have cF := Hany.out
    go_enter Tryz.func146, Tryz.ntmps146
    go_wp2_with (fail)
    refine Rtail.wp_tail 22 (by kernel_rfl) (by kernel_rfl) ?_; simp only [List.take_succ_cons, List.take_zero, List.drop_succ_cons, List.drop_zero]; (repeat (go_big_quiet_step ((exact cF _ _)))); refine wpQuiet_nil ?_; intro _ hw'; obtain ⟨⟨dq, osq⟩, hw''⟩ := hw'; subst hw''
    go_wp2_with (go_at_call 45; refine (must_no _ _).mono ?_; rintro e2 w2 ⟨rfl, rfl⟩)
    exact ⟨rfl, rfl, below_regrown _ _ _⟩
  · have q1 : ((e.lens.length : Int) == (x.blocks.length : Int)) = false := by simp; omega
    have C12 := fun d os => cell_regrown c12 d os
    have CX := fun d os => cell_regrown hx d os
    clear hany hno hl
    go_enter Tryz.func146, Tryz.ntmps146
    go_wp2_with (fail)
    refine Rtail.wp_tail 22 (by kernel_rfl) (by kernel_rfl) ?_; simp only [List.take_succ_cons, List.take_zero, List.drop_succ_cons, List.drop_zero]; (repeat (go_big_quiet_step (fail))); refine wpQuiet_nil ?_; intro _ hw'; obtain ⟨⟨dq, osq⟩, hw''⟩ := hw'; subst hw''
    go_wp2_with (go_at_call 45; refine (must_no _ _).mono ?_; rintro e2 w2 ⟨rfl, rfl⟩)
    exact ⟨rfl, rfl, below_regrown _ _ _⟩
theorem zip_nil (l : List Bl) : zipLen l [] = l := by cases l <;> rfl
theorem setN_same {s : Sp} {i : Nat} {x : Nd} (hx : s.nodes[i]? = some x) : setN s i x = s := by rw [setN, Lease.set_same hx]
theorem setN_set (s : Sp) (i : Nat) (x y : Nd) : setN (setN s i x) i y = setN s i y := by
  show { s with nodes := (s.nodes.set i x).set i y } = { s with nodes := s.nodes.set i y }
  rw [List.set_set]
theorem setN_at {s : Sp} {i : Nat} {x : Nd} (hx : s.nodes[i]? = some x) (y : Nd) : (setN s i y).nodes[i]? = some y := List.getElem?_set_self (List.getElem?_eq_some_iff.1 hx).1
/-- A cell of a node in the edit's space. -/
theorem WkO.cell {w0 w : World} {g gn cap i j : Nat} {s : Sp} {e : Ed} {x : Nd} {u : Value} (h : WkO w0 w g s e) (hv : s.vn = .slice (some ⟨gn, 0, none⟩) s.nodes.length cap) (hx : s.nodes[i]? = some x) (hu : (encN x)[j]? = some u) (hj : j < 5) : w.cell? ⟨gn, i * 5 + j, none⟩ = some u ∧ w.frozen? ⟨gn, i * 5 + j, none⟩ = false := by
  have hi := (List.getElem?_eq_some_iff.1 hx).1
  have ho := h.nodes.own
  obtain ⟨g', c', cur, hv', hg', -⟩ := own_form ho (by omega)
  rw [hv] at hv' ho
  simp only [Value.slice.injEq, Option.some.injEq, Addr.mk.injEq, and_true, true_and] at hv'
  obtain ⟨rfl, -⟩ := hv'
  refine ⟨?_, free_of_blk hg'⟩
  rw [ho.cellAt (i * 5 + j) (by omega), flatN, flat_get encN 5 encN_len s.nodes i j x hx hj, hu]
theorem own_cellB {w0 w : World} {gb cap k j : Nat} {l : List Bl} {b : Bl} {u : Value} {n : Nat} (h : OwnB w0 w (.slice (some ⟨gb, 0, none⟩) n cap) l) (hb : l[k]? = some b) (hu : (encB b)[j]? = some u) (hj : j < 3) : w.cell? ⟨gb, k * 3 + j, none⟩ = some u ∧ w.frozen? ⟨gb, k * 3 + j, none⟩ = false := by
  have hk := (List.getElem?_eq_some_iff.1 hb).1
  have ho := h.own
  obtain ⟨g', c', cur, hv', hg', -⟩ := own_form ho (by omega)
  simp only [Value.slice.injEq, Option.some.injEq, Addr.mk.injEq, and_true, true_and] at hv'
  obtain ⟨rfl, hn, rfl⟩ := hv'
  refine ⟨?_, free_of_blk hg'⟩
  rw [hn] at ho
  rw [ho.cellAt (k * 3 + j) (by omega), flatB, flat_get encB 3 encB_len l k j b hb hj, hu]
/-- Whose blocks have changed. -/
def bvF (x : Nd) (k : Nat) : Prop := x.bv.ownBlock = some k
def LensP (w0 w : World) (g i : Nat) (s : Sp) (e : Ed) (x : Nd) (e' : Ending) (w' : World) : Prop :=
  e' = .returned (.tuple #[]) ∧ WkO w0 w' g (setN s i { x with blocks := zipLen x.blocks e.lens }) e ∧ Upd (bvF x) w w'
set_option maxRecDepth 8000 in
set_option maxHeartbeats 4000000 in
theorem lens_yes (w0 w : World) (g : Nat) (s : Sp) (e : Ed) (h : WkO w0 w g s e) (hA : Apart s.nodes) {gn cap i : Nat} {x : Nd} (hv : s.vn = .slice (some ⟨gn, 0, none⟩) s.nodes.length cap) (hx : s.nodes[i]? = some x) (hn : x.blocks.length ≤ 8) (hyes : lensOk e x = true) :
    Calls Tryz.prog 146 #[.pointer (some ⟨g, 0, none⟩), .pointer (some ⟨gn, i * 5, none⟩)] w (LensP w0 w g i s e x) := by
  have hxm := List.mem_of_getElem? hx
  have hxo := h.nodes.bl x hxm
  have hrl := h.rd.len
  obtain ⟨-, -, -, -, -, -, -, -, -, -, -, -, c12⟩ := wkc h.rd
  have cX : w.cell? ⟨gn, i * 5 + 3, none⟩ = some x.bv := by
    have ho := h.nodes.own
    rw [hv] at ho
    have h1 := ho.cellAt (i * 5 + 3) (by have := (List.getElem?_eq_some_iff.1 hx).1; omega)
    rw [h1, flatN, flat_get encN 5 encN_len s.nodes i 3 x hx (by decide)]; rfl
  have hl : e.lens.length = x.blocks.length := by
    simp only [lensOk, Bool.and_eq_true, decide_eq_true_eq] at hyes; exact hyes.1
  have hany1 : e.lens.any (fun n => decide (64 < n)) = false := by
    simp only [lensOk, Bool.and_eq_true, Bool.not_eq_true'] at hyes; exact hyes.2
  obtain ⟨al, cl, hlv, -, hlc⟩ := Lease.rd_cellsI hrl
  obtain ⟨ax, cx, hbv⟩ := bv_slice hxo.rd
  have hany := fun d os => Calls.regrown_of (hasI0_calls (Go.Sort.grow (redrawn w d) os) 180 (fun n => decide (64 < n)) e.lv e.lens (enters Tryz.func180 (by kernel_rfl) rfl) (fun W hW y hy => odd_calls W y) (hrl.below (below_regrown w d os) (Nat.le_refl _)) (by omega))
  rw [hany1] at hany
  have q1 : ((e.lens.length : Int) == (x.blocks.length : Int)) = true := by rw [hl]; simp
  have hc := fun W (hW : WkO w0 W g s e) => (wkc hW.rd).2.2.2.2.2.2.2.2.2.2.2.2
  have cXb := cX
  have c12b := c12
  rw [hlv] at c12 hany
  rw [hbv] at cX
  have C12 := fun d os => cell_regrown c12 d os
  have CX := fun d os => cell_regrown cX d os
  have cF := fun d os => hany d os
  have Hh := Lib.hid h; have HA := Lib.hid hA; have Hx := Lib.hid hx; have Hl := Lib.hid hl; have Hbv := Lib.hid hbv; have Hv := Lib.hid hv; have Hlv := Lib.hid hlv; have Hlc := Lib.hid hlc; have Hxo := Lib.hid hxo
  clear h hA hx hl hbv hv hlv hlc hxo hyes hany1 hany c12b cXb hc hrl hxm
  have hm8 : e.lens.length ≤ 8 := by have := Hl.out; omega
  go_enter Tryz.func146, Tryz.ntmps146
  go_wp2_with (fail)
  refine Rtail.wp_tail 22 (by kernel_rfl) (by kernel_rfl) ?_; simp only [List.take_succ_cons, List.take_zero, List.drop_succ_cons, List.drop_zero]; (repeat (go_big_quiet_step ((exact cF _ _)))); refine wpQuiet_nil ?_; intro _ hw'; obtain ⟨⟨dq, osq⟩, hw''⟩ := hw'; subst hw''
  clear cF
  go_wp2_with (go_at_call 45; refine (must_yes _ _).mono ?_; rintro e2 w2 ⟨rfl, rfl⟩)
  have d12 := C12 dq osq
  have hb2 := below_regrown w dq osq
  generalize Go.Sort.grow (redrawn w dq) osq = w2 at *
  have hW2 := Hh.out.below hb2
  have HW2 := Lib.hid hW2; have Hb2 := Lib.hid hb2
  clear hW2 hb2 C12 CX c12 cX
  go_wp2_with (fail)
  go_loopw [36] (fun vk wr => ∃ k : Nat, vk = .int .i64 k ∧ k ≤ e.lens.length ∧ WkO w0 wr g (setN s i { x with blocks := zipLen x.blocks (e.lens.take k) }) e ∧ Upd (bvF x) w wr) (fun vk _ => e.lens.length - (intOf vk).toNat)
  case atStart =>
    refine ⟨0, rfl, Nat.zero_le _, ?_, Upd.of_below Hb2.out _⟩
    rw [List.take_zero, zip_nil, setN_same (show s.nodes[i]? = some { x with blocks := x.blocks } from Hx.out)]
    exact HW2.out
  case round =>
    obtain ⟨k, rfl, hk, hO, hU⟩ := hrel
    by_cases hlt : k < e.lens.length
    · obtain ⟨n, hn'⟩ : ∃ n, e.lens[k]? = some n := ⟨e.lens[k], by rw [List.getElem?_eq_getElem]⟩
      obtain ⟨b, hb'⟩ : ∃ b, x.blocks[k]? = some b := ⟨x.blocks[k]'(by rw [← Hl.out]; exact hlt), by rw [List.getElem?_eq_getElem]⟩
      obtain ⟨hz1, hz2⟩ := zip_next x.blocks e.lens k b n hb' hn'
      have hlz : (zipLen x.blocks (e.lens.take k)).length = x.blocks.length := zip_length _ _
      have hx' := setN_at Hx.out { x with blocks := zipLen x.blocks (e.lens.take k) }
      obtain ⟨gb, cb, cur, hbv', -, -, -⟩ := own_form Hxo.out.own (by have := Hl.out; omega)
      have hgb : ax = some ⟨gb, 0, none⟩ ∧ cx = cb := by
        have := Hbv.out
        rw [hbv'] at this
        simp only [Value.slice.injEq, true_and] at this
        exact ⟨this.1.symm, this.2.symm⟩
      obtain ⟨rfl, rfl⟩ := hgb
      obtain ⟨al2, cl2, hlv2, -, hlc2⟩ := Lease.rd_cellsI hO.rd.len
      have hal : al2 = al := by
        rw [Hlv.out] at hlv2
        simp only [Value.slice.injEq, true_and] at hlv2
        exact hlv2.1.symm
      subst hal
      obtain ⟨bl, ol, rfl, -, cn⟩ := hlc2 wr (Below.refl _ _) k n hn'
      obtain ⟨c3, -⟩ := hO.cell (j := 3) (by rw [show (setN s i { x with blocks := zipLen x.blocks (e.lens.take k) }).vn = s.vn from rfl, Hv.out]; rw [show (setN s i { x with blocks := zipLen x.blocks (e.lens.take k) }).nodes.length = s.nodes.length from List.length_set]) hx' rfl (by decide)
      have hxo' := hO.nodes.bl _ (List.mem_of_getElem? hx')
      have hxo2 : OwnB w0 wr (.slice (some ⟨gb, 0, none⟩) x.blocks.length cx) (zipLen x.blocks (e.lens.take k)) := by rw [← Hbv.out]; exact hxo'
      obtain ⟨cs, zs⟩ := own_cellB (j := 2) hxo2 hz2 rfl (by decide)
      have c3' : wr.cell? ⟨gn, i * 5 + 3, none⟩ = some (.slice (some ⟨gb, 0, none⟩) x.blocks.length cx) := by rw [← Hbv.out]; exact c3
      have HO := Lib.hid hO; have Hz1 := Lib.hid hz1; have Hz2 := Lib.hid hz2; have Hx' := Lib.hid hx'; have Hlz := Lib.hid hlz
      have hk8 : k < x.blocks.length := by have := Hl.out; omega
      clear hO hz1 hz2 hx' hlz hlc2 hlv2 c3 hxo' hxo2 hb' hn' hbv'
      go_wp2_with (fail)
      go_roundw
      case rel =>
        refine ⟨k + 1, by go_num, by omega, ?_, hU.setCell (p := ⟨gb, k * 3 + 2, none⟩) (.inl (by show x.bv.ownBlock = some gb; rw [Hbv.out]; rfl)) _⟩
        have hA' : Apart (setN s i { x with blocks := zipLen x.blocks (e.lens.take k) }).nodes := apart_set HA.out Hx.out rfl
        have := WkO.bl (x := { x with blocks := zipLen x.blocks (e.lens.take k) }) (B := zipLen x.blocks (e.lens.take (k + 1))) (cap := cx) (j := k * 3 + 2) (u := .int .i64 n) HO.out hA' Hx'.out (by show x.bv = .slice _ (zipLen x.blocks (e.lens.take k)).length cx; rw [Hlz.out]; exact Hbv.out) (by rw [zip_length]; exact Hlz.out.symm) (by show _ < (zipLen x.blocks (e.lens.take k)).length * 3; rw [Hlz.out]; omega) (by rw [Hz1.out]; exact flatB_put Hz2.out (by decide) rfl)
        rw [setN_set] at this
        exact this
      case measure => simp [intOf]; omega
    · obtain rfl : k = e.lens.length := by omega
      rw [List.take_length] at hO
      have HO := Lib.hid hO
      clear hO
      go_wp2_with (fail)
      go_end0
      exact ⟨rfl, HO.out, hU⟩
end Go.Proofs.YtdfckkadmgmcaaaGreatDoor.Space

/- Edits of spaces: (*work).write, walked. -/
namespace Go.Proofs.YtdfckkadmgmcaaaGreatDoor.Space
open Go.RowKit
open Path (Bs bs mk bs_mk mk_bs tl_bs MaxC splitE splitL parD)
open Tree
set_option linter.unusedSimpArgs false
set_option linter.unusedVariables false
/-- A cell beside the edit's space. -/
theorem WkO.side {w0 w : World} {g N j : Nat} {s : Sp} {e : Ed} {u : Value} (h : WkO w0 w g s e) (h0 : w0.heap.size ≤ N) (hg : g ≠ N) (hn : s.vn.ownBlock ≠ some N) (hl : s.vl.ownBlock ≠ some N) (hb : ∀ x ∈ s.nodes, x.bv.ownBlock ≠ some N) : WkO w0 (w.setCell ⟨N, j, none⟩ u) g s e :=
  ⟨(heap_setCell_other w ⟨N, j, none⟩ g u hg).trans h.blk, OwnX.poke h.nodes hn hb, OwnL.poke h.leases hl, h.len, h.new, h.base.setCell h0 _, h.nn, h.ln⟩
def set3 (w : World) (b : Nat) (v0 v1 v2 : Value) : World := ((w.setCell ⟨b, 0, none⟩ v0).setCell ⟨b, 1, none⟩ v1).setCell ⟨b, 2, none⟩ v2
theorem set3_blk {w : World} {b : Nat} {u0 u1 u2 : Value} {t : TypeId} (h : w.heap[b]? = some (.cells #[u0, u1, u2] t (0, 0))) (v0 v1 v2 : Value) : (set3 w b v0 v1 v2).heap[b]? = some (.cells #[v0, v1, v2] t (0, 0)) :=
  heap_setCell_same _ _ 2 _ _ v2 (heap_setCell_same _ _ 1 _ _ v1 (heap_setCell_same _ _ 0 _ _ v0 h))
theorem WkO.side3 {w0 w : World} {g N : Nat} {s : Sp} {e : Ed} (h : WkO w0 w g s e) (h0 : w0.heap.size ≤ N) (hg : g ≠ N) (hn : s.vn.ownBlock ≠ some N) (hl : s.vl.ownBlock ≠ some N) (hb : ∀ x ∈ s.nodes, x.bv.ownBlock ≠ some N) (v0 v1 v2 : Value) : WkO w0 (set3 w N v0 v1 v2) g s e :=
  ((h.side h0 hg hn hl hb).side h0 hg hn hl hb).side h0 hg hn hl hb
theorem Upd.set3 {F : Nat → Prop} {w w1 : World} {N : Nat} (h : Upd F w w1) (hN : w.heap.size ≤ N) (v0 v1 v2 : Value) : Upd F w (Space.set3 w1 N v0 v1 v2) :=
  ((h.setCell (p := ⟨N, 0, none⟩) (.inr hN) _).setCell (p := ⟨N, 1, none⟩) (.inr hN) _).setCell (p := ⟨N, 2, none⟩) (.inr hN) _
theorem WkO.drew {w0 w : World} {g : Nat} {s : Sp} {e : Ed} (h : WkO w0 w g s e) : WkO w0 w.drew g s e := ⟨h.blk, ⟨h.nodes.own, h.nodes.new, fun x hx => ⟨(h.nodes.bl x hx).own, (h.nodes.bl x hx).new⟩⟩, ⟨h.leases.own, h.leases.new⟩, h.len, h.new, h.base.drew, h.nn, h.ln⟩
/-- What stood there ahead lies below. -/
theorem WkO.lt {w0 w : World} {g : Nat} {s : Sp} {e : Ed} (h : WkO w0 w g s e) : g < w.heap.size ∧ (∀ k, s.vn.ownBlock = some k → k < w.heap.size) ∧ (∀ k, s.vl.ownBlock = some k → k < w.heap.size) ∧ ∀ x ∈ s.nodes, ∀ k, x.bv.ownBlock = some k → k < w.heap.size :=
  ⟨lt_of_block h.blk, fun k hk => own_ltN h.nodes.own k hk, fun k hk => own_ltN h.leases.own k hk, fun x hx k hk => own_ltN (h.nodes.bl x hx).own k hk⟩
def wrF (g gn : Nat) (x : Nd) (k : Nat) : Prop := k = g ∨ k = gn ∨ x.bv.ownBlock = some k
/-- No node's row of blocks came to lie on an older place that was no node's. -/
def NewB (w : World) (s t : Sp) : Prop := ∀ N, N < w.heap.size → (∀ z ∈ s.nodes, z.bv.ownBlock ≠ some N) → ∀ y ∈ t.nodes, y.bv.ownBlock ≠ some N
theorem NewB.set {w : World} {s s' : Sp} {i : Nat} {x y : Nd} (hx : s.nodes[i]? = some x) (hs : s'.nodes = s.nodes.set i y) (hy : ∀ N, y.bv.ownBlock = some N → x.bv.ownBlock = some N ∨ w.heap.size ≤ N) : NewB w s s' := fun N hN hz z hzz h => by
  rw [hs] at hzz
  rcases set_at hx hzz with rfl | ⟨k, _, hk⟩
  · rcases hy N h with h1 | h1
    · exact hz x (List.mem_of_getElem? hx) h1
    · omega
  · exact hz z (List.mem_of_getElem? hk) h
def WriteP (w0 w : World) (g gn : Nat) (s : Sp) (x : Nd) (R : Res) (e : Ed) (e' : Ending) (w' : World) : Prop :=
  Upd (wrF g gn x) w w' ∧ (if R.err ≠ 0 then e' = amissE R.err else (∃ t, SameS t R.s ∧ WkO w0 w' g t e ∧ NewB w s t) ∧ e' = .returned (.agg #[.int .i64 R.b.id, .int .i64 R.b.gen, .int .i64 R.b.len]))
set_option maxRecDepth 8000 in
set_option maxHeartbeats 8000000 in
theorem bump_calls (w0 w : World) (g : Nat) (s : Sp) (e : Ed) (h : WkO w0 w g s e) (hA : Apart s.nodes) (hk : e.kind = 9) (hn0 : 0 ≤ e.n ∧ e.n ≤ 9007199254740991) (hng : s.ng ≤ 9007199254740991 ∧ 1 ≤ s.ng) {gn cap i : Nat} {x : Nd} (hv : s.vn = .slice (some ⟨gn, 0, none⟩) s.nodes.length cap) (hx : s.nodes[i]? = some x) (hn : x.blocks.length ≤ 8) :
    Calls Tryz.prog 101 #[.pointer (some ⟨g, 0, none⟩), .pointer (some ⟨gn, i * 5, none⟩)] w (WriteP w0 w g gn s x (doWrite s e i x) e) := by
  obtain ⟨c0, c1, c2, c3, c4, c5, c6, c7, c8, c9, c10, c11, c12⟩ := wkc h.rd
  obtain ⟨al, cl, hlv, -, -⟩ := Lease.rd_cellsI h.rd.len
  rw [hlv] at c12
  obtain ⟨R, hR0⟩ : ∃ R, R = doWrite s e i x := ⟨_, rfl⟩
  rw [← hR0]
  rw [doWrite, if_pos hk] at hR0
  have HR0 := Lib.hid hR0
  clear hR0
  have Hh := Lib.hid h; have HA := Lib.hid hA; have Hx := Lib.hid hx; have Hv := Lib.hid hv; have Hk := Lib.hid hk; have Hlv := Lib.hid hlv
  clear h hA hx hv hk hlv
  go_enter Tryz.func101, Tryz.ntmps101
  go_wp2_with (fail)
  go_region_held3 (fun w' => w'.cell? ⟨g, 6, none⟩ = some (.int .i64 e.kind) ∧ w'.cell? ⟨g, 7, none⟩ = some (.string e.path) ∧ w'.cell? ⟨g, 8, none⟩ = some (.string e.dst) ∧ w'.cell? ⟨g, 9, none⟩ = some (.int .i64 e.client) ∧ w'.cell? ⟨g, 10, none⟩ = some (.int .i64 e.call) ∧ w'.cell? ⟨g, 11, none⟩ = some (.int .i64 e.n) ∧ w'.cell? ⟨g, 12, none⟩ = some (.slice al e.lens.length cl)) (go_keep) (fail)
  have hb1 : Below w.heap.size w (((w.alloc (.cells #[.int .i64 0, .int .i64 0, .int .i64 0] 31 (0, 0))).alloc (.cells #[.int .i64 e.kind, .string e.path, .string e.dst, .int .i64 e.client, .int .i64 e.call, .int .i64 e.n, .slice al e.lens.length cl] 42 (0, 0))).drew) := (((Below.refl _ _).alloc (Nat.le_refl _) _).alloc (by simp) _).drew
  have hk0 : (((w.alloc (.cells #[.int .i64 0, .int .i64 0, .int .i64 0] 31 (0, 0))).alloc (.cells #[.int .i64 e.kind, .string e.path, .string e.dst, .int .i64 e.client, .int .i64 e.call, .int .i64 e.n, .slice al e.lens.length cl] 42 (0, 0))).drew).heap[w.heap.size]? = some (.cells #[.int .i64 0, .int .i64 0, .int .i64 0] 31 (0, 0)) := (heap_alloc_old _ _ (by simp)).trans (heap_alloc_new _ _)
  have hk1 : (((w.alloc (.cells #[.int .i64 0, .int .i64 0, .int .i64 0] 31 (0, 0))).alloc (.cells #[.int .i64 e.kind, .string e.path, .string e.dst, .int .i64 e.client, .int .i64 e.call, .int .i64 e.n, .slice al e.lens.length cl] 42 (0, 0))).drew).heap[w.heap.size + 1]? = some (.cells #[.int .i64 e.kind, .string e.path, .string e.dst, .int .i64 e.client, .int .i64 e.call, .int .i64 e.n, .slice al e.lens.length cl] 42 (0, 0)) := by
    have h1 := heap_alloc_new (w.alloc (.cells #[.int .i64 0, .int .i64 0, .int .i64 0] 31 (0, 0))) (.cells #[.int .i64 e.kind, .string e.path, .string e.dst, .int .i64 e.client, .int .i64 e.call, .int .i64 e.n, .slice al e.lens.length cl] 42 (0, 0))
    have h2 : (w.alloc (.cells #[.int .i64 0, .int .i64 0, .int .i64 0] 31 (0, 0))).heap.size = w.heap.size + 1 := by simp
    rw [h2] at h1; exact h1
  have hz1 : (((w.alloc (.cells #[.int .i64 0, .int .i64 0, .int .i64 0] 31 (0, 0))).alloc (.cells #[.int .i64 e.kind, .string e.path, .string e.dst, .int .i64 e.client, .int .i64 e.call, .int .i64 e.n, .slice al e.lens.length cl] 42 (0, 0))).drew).heap.size = w.heap.size + 2 := by simp
  clear c0 c1 c2 c3 c4 c5 c6 c7 c8 c9 c10 c11 c12
  generalize ((w.alloc (.cells #[.int .i64 0, .int .i64 0, .int .i64 0] 31 (0, 0))).alloc (.cells #[.int .i64 e.kind, .string e.path, .string e.dst, .int .i64 e.client, .int .i64 e.call, .int .i64 e.n, .slice al e.lens.length cl] 42 (0, 0))).drew = w1 at *
  have hW := Hh.out.below hb1
  obtain ⟨m, hm⟩ : ∃ m : Nat, e.n = (m : Int) := ⟨e.n.toNat, by omega⟩
  have hxo := hW.nodes.bl x (List.mem_of_getElem? Hx.out)
  obtain ⟨ax, cx, hbv⟩ := bv_slice hxo.rd
  obtain ⟨d3, dz3⟩ := hW.cell (j := 3) Hv.out Hx.out rfl (by decide)
  have d2 := (wkc hW.rd).2.2.1
  have e0 : w1.cell? ⟨w.heap.size + 1, 0, none⟩ = some (.int .i64 e.kind) := cell_of_blk hk1
  have e5 : w1.cell? ⟨w.heap.size + 1, 5, none⟩ = some (.int .i64 e.n) := cell_of_blk hk1
  rw [hm] at e5
  rw [Hk.out] at e0
  rw [hbv] at d3
  have hgk := lt_of_block Hh.out.blk
  have hR := HR0.out
  rw [hm] at hR
  have HR := Lib.hid hR; clear HR0; have HW := Lib.hid hW; have Hb1 := Lib.hid hb1; have K0 := Lib.hid hk0; have K1 := Lib.hid hk1; have Hz1 := Lib.hid hz1; have Hbv := Lib.hid hbv; have Hxo := Lib.hid hxo; have Hm := Lib.hid hm
  clear hR hW hb1 hk0 hk1 hz1 hbv hxo hm
  have C5 := fun d os => cell_regrown e5 d os
  have C3 := fun d os => cell_regrown d3 d os
  go_wp2_with (fail)
  by_cases hlt : m < x.blocks.length
  · have q1 : decide (m < x.blocks.length) = true := decide_eq_true hlt
    have HR2 := Lib.hid (HR.out.trans (if_neg (by omega)))
    clear HR
    have C2 := fun d os => cell_regrown d2 d os
    by_cases hg : s.ng < 9007199254740991
    · have HR3 := Lib.hid (HR2.out.trans (if_neg (by omega)))
      clear HR2
      refine Rtail.wp_tail 8 (by kernel_rfl) (by kernel_rfl) ?_; simp only [List.take_succ_cons, List.take_zero, List.drop_succ_cons, List.drop_zero]; (repeat (go_big_quiet_step (fail))); refine wpQuiet_nil ?_; intro _ hw'; obtain ⟨⟨dq, osq⟩, hw''⟩ := hw'; subst hw''
      go_wp2_with (go_at_call 45; refine (must_yes _ _).mono ?_; rintro e2 w2 ⟨rfl, rfl⟩)
      have b2 := below_regrown w1 dq osq
      have hW2 := HW.out.below b2
      have k0' := (b2.block _ (by have := Hz1.out; omega)).trans K0.out
      have k1' := (b2.block _ (by have := Hz1.out; omega)).trans K1.out
      have B2 := Lib.hid (Hb1.out.trans (b2.mono Hb1.out.size))
      generalize Go.Sort.grow (redrawn w1 dq) osq = w2 at *
      obtain ⟨b, hb⟩ : ∃ b, x.blocks[m]? = some b := ⟨x.blocks[m], by rw [List.getElem?_eq_getElem]⟩
      have hxo2 := hW2.nodes.bl x (List.mem_of_getElem? Hx.out)
      obtain ⟨gb, cb, cur, hbv', -, -, -⟩ := own_form hxo2.own (by omega)
      have hgb : ax = some ⟨gb, 0, none⟩ ∧ cx = cb := by
        have := Hbv.out
        rw [hbv'] at this
        simp only [Value.slice.injEq, true_and] at this
        exact ⟨this.1.symm, this.2.symm⟩
      obtain ⟨rfl, rfl⟩ := hgb
      have hxo3 : OwnB w0 w2 (.slice (some ⟨gb, 0, none⟩) x.blocks.length cx) x.blocks := by rw [← Hbv.out]; exact hxo2
      obtain ⟨r0, -⟩ := own_cellB (j := 0) hxo3 hb rfl (by decide)
      obtain ⟨r1, y1⟩ := own_cellB (j := 1) hxo3 hb rfl (by decide)
      obtain ⟨r2, -⟩ := own_cellB (j := 2) hxo3 hb rfl (by decide)
      have hob : x.bv.ownBlock = some gb := by rw [Hbv.out]; rfl
      have n1 : gb ≠ g := fun h => own_ne_blk hxo2.own hW2.blk (by decide) (h ▸ hob)
      have n2 : gb ≠ gn := fun h => own_kinds hxo2.own hW2.nodes.own (by decide) (by rw [Hv.out]; rfl) (h ▸ hob)
      have n3 : gb ≠ w.heap.size + 1 := fun h => own_ne_blk hxo2.own k1' (by decide) (h ▸ hob)
      have n4 : gb ≠ w.heap.size := by
        have h1 := Hh.out.nodes.bl x (List.mem_of_getElem? Hx.out)
        have := own_ltN h1.own gb hob
        omega
      have d3' := (hW2.cell (j := 3) Hv.out Hx.out rfl (by decide)).1
      have d3'' : w2.cell? ⟨gn, i * 5 + 3, none⟩ = some (.slice (some ⟨gb, 0, none⟩) x.blocks.length cx) := by rw [← Hbv.out]; exact d3'
      obtain ⟨-, -, d2', -⟩ := wkc hW2.rd
      have z2 : w2.frozen? ⟨g, 2, none⟩ = false := free_of_blk hW2.blk
      have e5' : w2.cell? ⟨w.heap.size + 1, 5, none⟩ = some (.int .i64 e.n) := cell_of_blk k1'
      rw [Hm.out] at e5'
      obtain ⟨b0, b1, b2'⟩ := (show w2.cell? ⟨w.heap.size, 0, none⟩ = some (.int .i64 0) ∧ w2.cell? ⟨w.heap.size, 1, none⟩ = some (.int .i64 0) ∧ w2.cell? ⟨w.heap.size, 2, none⟩ = some (.int .i64 0) from ⟨cell_of_blk k0', cell_of_blk k0', cell_of_blk k0'⟩)
      obtain ⟨f0, f1, f2⟩ := (show w2.frozen? ⟨w.heap.size, 0, none⟩ = false ∧ w2.frozen? ⟨w.heap.size, 1, none⟩ = false ∧ w2.frozen? ⟨w.heap.size, 2, none⟩ = false from ⟨free_of_blk k0', free_of_blk k0', free_of_blk k0'⟩)
      have hgk1 : g ≠ w.heap.size := by omega
      have hgk2 : g ≠ w.heap.size + 1 := by omega
      have hgng : gn ≠ g := fun h => own_ne_blk hW2.nodes.own hW2.blk (by decide) (by rw [Hv.out]; rw [h]; rfl)
      have hgnl : gn < w.heap.size := own_ltN Hh.out.nodes.own gn (by rw [Hv.out]; rfl)
      have hgn1 : gn ≠ w.heap.size := by omega
      have hgn2 : gn ≠ w.heap.size + 1 := by omega
      have HW2 := Lib.hid hW2; have K0' := Lib.hid k0'; have K1' := Lib.hid k1'; have Hb := Lib.hid hb; have Hob := Lib.hid hob
      clear hW2 k0' k1' C5 C3 C2 d2 d3 d3' dz3 e0 e5 HW K0 K1 Hb1 b2 hxo2 hxo3 hbv' hb hob q1
      go_region_held3 (fun w' => w'.cell? ⟨gn, i * 5 + 3, none⟩ = some (.slice (some ⟨gb, 0, none⟩) x.blocks.length cx) ∧ w'.cell? ⟨w.heap.size + 1, 5, none⟩ = some (.int .i64 (m : Int)) ∧ w'.cell? ⟨g, 2, none⟩ = some (.int .i64 s.ng)) (go_keep) (fail)
      go_wp2_with (fail)
      have hbl : m * 3 + 1 < x.blocks.length * 3 := by omega
      have hB := WkO.bl (B := x.blocks.set m { b with gen := s.ng }) (cap := cx) (j := m * 3 + 1) (u := .int .i64 s.ng) HW2.out HA.out Hx.out Hbv.out List.length_set hbl (flatB_put Hb.out (by decide) rfl)
      have hC := WkO.poke (s' := { setN s i { x with blocks := x.blocks.set m { b with gen := s.ng } } with ng := s.ng + 1 }) (j := 2) (u := .int .i64 (s.ng + 1)) hB rfl hB.nodes hB.leases hB.nn hB.ln
      have hU : Upd (wrF g gn x) w ((w2.setCell ⟨gb, m * 3 + 1, none⟩ (.int .i64 s.ng)).setCell ⟨g, 2, none⟩ (.int .i64 (s.ng + 1))) := ((Upd.of_below B2.out _).setCell (p := ⟨gb, m * 3 + 1, none⟩) (.inl (.inr (.inr Hob.out))) _).setCell (p := ⟨g, 2, none⟩) (.inl (.inl rfl)) _
      have k0'' : ((w2.setCell ⟨gb, m * 3 + 1, none⟩ (.int .i64 s.ng)).setCell ⟨g, 2, none⟩ (.int .i64 (s.ng + 1))).heap[w.heap.size]? = some (.cells #[.int .i64 0, .int .i64 0, .int .i64 0] 31 (0, 0)) := (heap_setCell_other _ ⟨g, 2, none⟩ _ _ (fun h => hgk1 h.symm)).trans ((heap_setCell_other _ ⟨gb, m * 3 + 1, none⟩ _ _ (fun h => n4 h.symm)).trans K0'.out)
      have k1'' : ((w2.setCell ⟨gb, m * 3 + 1, none⟩ (.int .i64 s.ng)).setCell ⟨g, 2, none⟩ (.int .i64 (s.ng + 1))).heap[w.heap.size + 1]? = some (.cells #[.int .i64 e.kind, .string e.path, .string e.dst, .int .i64 e.client, .int .i64 e.call, .int .i64 e.n, .slice al e.lens.length cl] 42 (0, 0)) := (heap_setCell_other _ ⟨g, 2, none⟩ _ _ (fun h => hgk2 h.symm)).trans ((heap_setCell_other _ ⟨gb, m * 3 + 1, none⟩ _ _ (fun h => n3 h.symm)).trans K1'.out)
      clear r0 r1 r2 y1 d3'' d2' z2 e5' b0 b1 b2' f0 f1 f2 hB
      generalize (w2.setCell ⟨gb, m * 3 + 1, none⟩ (.int .i64 s.ng)).setCell ⟨g, 2, none⟩ (.int .i64 (s.ng + 1)) = w4 at *
      have hx4 : ({ setN s i { x with blocks := x.blocks.set m { b with gen := s.ng } } with ng := s.ng + 1 } : Sp).nodes[i]? = some { x with blocks := x.blocks.set m { b with gen := s.ng } } := setN_at Hx.out _
      have hv4 : ({ setN s i { x with blocks := x.blocks.set m { b with gen := s.ng } } with ng := s.ng + 1 } : Sp).vn = .slice (some ⟨gn, 0, none⟩) ({ setN s i { x with blocks := x.blocks.set m { b with gen := s.ng } } with ng := s.ng + 1 } : Sp).nodes.length cap := by
        show s.vn = .slice _ (s.nodes.set i _).length cap
        rw [List.length_set]; exact Hv.out
      obtain ⟨c3, -⟩ := hC.cell (j := 3) hv4 hx4 rfl (by decide)
      have hxo4 := hC.nodes.bl _ (List.mem_of_getElem? hx4)
      have hb4 : (x.blocks.set m { b with gen := s.ng })[m]? = some { b with gen := s.ng } := List.getElem?_set_self (List.getElem?_eq_some_iff.1 Hb.out).1
      have c3' : w4.cell? ⟨gn, i * 5 + 3, none⟩ = some (.slice (some ⟨gb, 0, none⟩) x.blocks.length cx) := by rw [← Hbv.out]; exact c3
      have hxo5 : OwnB w0 w4 (.slice (some ⟨gb, 0, none⟩) x.blocks.length cx) (x.blocks.set m { b with gen := s.ng }) := by rw [← Hbv.out]; exact hxo4
      have r0 : w4.cell? ⟨gb, m * 3, none⟩ = some (.int .i64 b.id) := (own_cellB (j := 0) hxo5 hb4 rfl (by decide)).1
      have r1 : w4.cell? ⟨gb, m * 3 + 1, none⟩ = some (.int .i64 s.ng) := (own_cellB (j := 1) hxo5 hb4 rfl (by decide)).1
      have r2 : w4.cell? ⟨gb, m * 3 + 2, none⟩ = some (.int .i64 b.len) := (own_cellB (j := 2) hxo5 hb4 rfl (by decide)).1
      have e5' : w4.cell? ⟨w.heap.size + 1, 5, none⟩ = some (.int .i64 e.n) := cell_of_blk k1''
      rw [Hm.out] at e5'
      obtain ⟨b0, b1, b2'⟩ := (show w4.cell? ⟨w.heap.size, 0, none⟩ = some (.int .i64 0) ∧ w4.cell? ⟨w.heap.size, 1, none⟩ = some (.int .i64 0) ∧ w4.cell? ⟨w.heap.size, 2, none⟩ = some (.int .i64 0) from ⟨cell_of_blk k0'', cell_of_blk k0'', cell_of_blk k0''⟩)
      obtain ⟨f0, f1, f2⟩ := (show w4.frozen? ⟨w.heap.size, 0, none⟩ = false ∧ w4.frozen? ⟨w.heap.size, 1, none⟩ = false ∧ w4.frozen? ⟨w.heap.size, 2, none⟩ = false from ⟨free_of_blk k0'', free_of_blk k0'', free_of_blk k0''⟩)
      have HC := Lib.hid hC; have HU := Lib.hid hU; have HK0 := Lib.hid k0''
      have hmb : m < x.blocks.length := by omega
      have n4' : w.heap.size ≠ gb := fun h => n4 h.symm
      have hgn1' : w.heap.size ≠ gn := fun h => hgn1 h.symm
      clear hC hU k0'' k1'' hx4 hv4 c3 hxo4 hb4 hxo5 hbl
      go_region_held3 (fun w' => w'.cell? ⟨gn, i * 5 + 3, none⟩ = some (.slice (some ⟨gb, 0, none⟩) x.blocks.length cx) ∧ w'.cell? ⟨w.heap.size + 1, 5, none⟩ = some (.int .i64 (m : Int)) ∧ w'.cell? ⟨gb, m * 3, none⟩ = some (.int .i64 b.id) ∧ w'.cell? ⟨gb, m * 3 + 1, none⟩ = some (.int .i64 s.ng) ∧ w'.cell? ⟨gb, m * 3 + 2, none⟩ = some (.int .i64 b.len)) (go_keep) (fail)
      go_wp2_with (fail)
      have hf := set3_blk HK0.out (.int .i64 b.id) (.int .i64 s.ng) (.int .i64 b.len)
      obtain ⟨t1, t2, t3, t4⟩ := Hh.out.lt
      have hfin := HC.out.side3 (N := w.heap.size) Hh.out.base.size (by omega) (fun h => by have := t2 _ h; omega) (fun h => by have := t3 _ h; omega) (fun y hy h => by
        rcases set_at Hx.out hy with rfl | ⟨k, _, hky⟩
        · have := t4 x (List.mem_of_getElem? Hx.out) _ h; omega
        · have := t4 y (List.mem_of_getElem? hky) _ h; omega) (.int .i64 b.id) (.int .i64 s.ng) (.int .i64 b.len)
      refine bodyPost_ret (results_cell_row rfl _ _ w.heap.size _ _ _ _ rfl hf Tryz.underlying31 rfl (by kernel_rfl)) rfl ⟨(Upd.set3 HU.out (Nat.le_refl _) _ _ _).drew.drew, ?_⟩
      have hRR : R = ⟨0, { setN s i { x with blocks := x.blocks.set m { b with gen := s.ng } } with ng := s.ng + 1 }, { b with gen := s.ng }⟩ := by
        rw [HR3.out, Int.toNat_natCast, Hb.out]
      rw [hRR, if_neg (by simp)]
      exact ⟨⟨_, .refl _, hfin.drew.drew, NewB.set Hx.out rfl (fun N h => .inl h)⟩, rfl⟩
    · have hg' : decide (s.ng < 9007199254740991) = false := decide_eq_false hg
      have HR3 := Lib.hid (HR2.out.trans (if_pos (by omega)))
      clear HR2
      refine Rtail.wp_tail 8 (by kernel_rfl) (by kernel_rfl) ?_; simp only [List.take_succ_cons, List.take_zero, List.drop_succ_cons, List.drop_zero]; (repeat (go_big_quiet_step (fail))); refine wpQuiet_nil ?_; intro _ hw'; obtain ⟨⟨dq, osq⟩, hw''⟩ := hw'; subst hw''
      go_wp2_with (first | (go_at_call 45; (with_reducible refine (must_yes _ _).mono ?_); rintro e2 w2 ⟨rfl, rfl⟩) | (go_at_call 45; (with_reducible refine (must_no _ _).mono ?_); rintro e2 w2 ⟨rfl, rfl⟩))
      refine ⟨rfl, Upd.of_below (Hb1.out.trans ((below_regrown _ _ _).mono Hb1.out.size)) _, ?_⟩
      rw [HR3.out]
      rfl
  · have q1 : decide (m < x.blocks.length) = false := decide_eq_false hlt
    have HR2 := Lib.hid (HR.out.trans (if_pos (by omega)))
    clear HR hlt
    refine Rtail.wp_tail 8 (by kernel_rfl) (by kernel_rfl) ?_; simp only [List.take_succ_cons, List.take_zero, List.drop_succ_cons, List.drop_zero]; (repeat (go_big_quiet_step (fail))); refine wpQuiet_nil ?_; intro _ hw'; obtain ⟨⟨dq, osq⟩, hw''⟩ := hw'; subst hw''
    go_wp2_with (go_at_call 45; refine (must_no _ _).mono ?_; rintro e2 w2 ⟨rfl, rfl⟩)
    refine ⟨rfl, Upd.of_below (Hb1.out.trans ((below_regrown _ _ _).mono Hb1.out.size)) _, ?_⟩
    rw [HR2.out]
    rfl
end Go.Proofs.YtdfckkadmgmcaaaGreatDoor.Space
