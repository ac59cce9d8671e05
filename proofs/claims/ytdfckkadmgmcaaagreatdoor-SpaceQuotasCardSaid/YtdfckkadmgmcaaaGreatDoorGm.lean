/- Parts of the proof, one behind the other: Aa, Ba, Ae. -/
import Derived.Test.YtdfckkadmgmcaaaGreatDoorGi
import Derived.Test.YtdfckkadmgmcaaaGreatDoorGh
import Derived.Test.YtdfckkadmgmcaaaGreatDoorGk
/- Edits of spaces: space.Apply's deferred closure. -/
namespace Go.Proofs.YtdfckkadmgmcaaaGreatDoor.Space
open Go.RowKit
open Path (Bs bs mk bs_mk mk_bs tl_bs MaxC splitE splitL parD)
open Tree
set_option linter.unusedSimpArgs false
set_option linter.unusedVariables false
theorem amiss_yes (W : World) (v : Value) : (Instr.typeAssert (.iface 73 v) 20 73 true).run Tryz.prog W = .ok (.tuple #[v, .bool true]) W := by kernel_rfl
theorem undo_tmps (a b v : Value) : #[a, b] ++ (Array.replicate 12 undef).setIfInBounds 3 v = #[a, b, undef, undef, undef, v, undef, undef, undef, undef, undef, undef, undef, undef] := rfl
set_option maxHeartbeats 1000000 in
theorem undo_idle (p q : Addr) (w : World) :
    CallsD Tryz.prog 44 #[.pointer (some p), .pointer (some q)] .returning w fun e u' w' => e = .returned (.tuple #[]) ∧ u' = .returning ∧ w' = w := by
  refine callsD_of_wpS Tryz.func44 rfl fun c₀ cs hu => ?_
  apply wpS_seq
  apply wpS_region
  simp [wpOpsS, go_sem, recoverD, hu, Tryz.ntmps44, Exit.thenS]
  rw [undo_tmps]
  refine wpS_of_wp ?_
  go_wp2
  cases c₀
  simp_all [bodyPostS, results, Tryz.results44]
/-- Some cells of a block, one behind the other. -/
def setL (b : Nat) : Nat → List Value → World → World
  | _, [], w => w
  | j, v :: t, w => setL b (j + 1) t (w.setCell ⟨b, j, none⟩ v)
def putL : Nat → List Value → Array Value → Array Value
  | _, [], cs => cs
  | j, v :: t, cs => putL (j + 1) t (cs.setIfInBounds j v)
theorem setL_blk {b : Nat} {t : TypeId} : ∀ (vs : List Value) (j : Nat) (w : World) (cs : Array Value), w.heap[b]? = some (.cells cs t (0, 0)) → (setL b j vs w).heap[b]? = some (.cells (putL j vs cs) t (0, 0))
  | [], _, _, _, h => h
  | v :: r, j, w, cs, h => setL_blk r (j + 1) _ _ (heap_setCell_same w b j _ _ v h)
theorem setL_other {b k : Nat} (hne : k ≠ b) : ∀ (vs : List Value) (j : Nat) (w : World), (setL b j vs w).heap[k]? = w.heap[k]?
  | [], _, _ => rfl
  | v :: r, j, w => (setL_other hne r (j + 1) _).trans (heap_setCell_other w ⟨b, j, none⟩ k v hne)
theorem setL_upd {F : Nat → Prop} {b : Nat} {w : World} (hb : F b) : ∀ (vs : List Value) (j : Nat) (w1 : World), Upd F w w1 → Upd F w (setL b j vs w1)
  | [], _, _, h => h
  | v :: r, j, w1, h => setL_upd hb r (j + 1) _ (h.setCell (p := ⟨b, j, none⟩) (.inl hb) v)
def ansC (a : Ans) : Array Value := #[.int .i64 a.err, .int .i64 a.b.id, .int .i64 a.b.gen, .int .i64 a.b.len, .slice none 0 0, .string a.n.path, .bool a.n.dir, .int .i64 a.n.quota, a.n.bv, .int .i64 a.n.writer, .int .i64 0]
set_option maxRecDepth 8000 in
set_option maxHeartbeats 4000000 in
theorem undo_panicking (g h : Nat) (E : Int) (w : World) (hg : w.heap[g]? = some (.cells #[.int .i64 0, .int .i64 0, .int .i64 0, .int .i64 0, .slice none 0 0, .slice none 0 0] 27 (0, 0))) (hh : w.heap[h]? = some (.cells #[.int .i64 0, .int .i64 0, .int .i64 0, .int .i64 0, .slice none 0 0, .string ⟨#[]⟩, .bool false, .int .i64 0, .slice none 0 0, .int .i64 0, .int .i64 0] 37 (0, 0))) (hne : g ≠ h) :
    CallsD Tryz.prog 44 #[.pointer (some ⟨g, 0, none⟩), .pointer (some ⟨h, 0, none⟩)] (.panicking ({ v := .iface 73 (.int .i64 E), recovered := false } :: [])) w fun e u' w' => e = .returned (.tuple #[]) ∧ u' = .panicking [{ v := .iface 73 (.int .i64 E), recovered := true }] ∧
      w'.heap[g]? = some (.cells #[.int .i64 0, .int .i64 0, .int .i64 0, .int .i64 0, .slice none 0 0, .slice none 0 0] 27 (0, 0)) ∧ w'.heap[h]? = some (.cells (ansC (noAns E)) 37 (0, 0)) ∧ Upd (fun k => k = g ∨ k = h) w w' := by
  have hne' := Ne.symm hne
  obtain ⟨a0, a1, a2, a3, a4, a5⟩ := (show w.cell? ⟨g, 0, none⟩ = some (.int .i64 0) ∧ w.cell? ⟨g, 1, none⟩ = some (.int .i64 0) ∧ w.cell? ⟨g, 2, none⟩ = some (.int .i64 0) ∧ w.cell? ⟨g, 3, none⟩ = some (.int .i64 0) ∧ w.cell? ⟨g, 4, none⟩ = some (.slice none 0 0) ∧ w.cell? ⟨g, 5, none⟩ = some (.slice none 0 0) from ⟨cell_of_blk hg, cell_of_blk hg, cell_of_blk hg, cell_of_blk hg, cell_of_blk hg, cell_of_blk hg⟩)
  have fz : ∀ j, w.frozen? ⟨g, j, none⟩ = false := fun j => free_of_blk hg
  have fy : ∀ j, w.frozen? ⟨h, j, none⟩ = false := fun j => free_of_blk hh
  have z0 := fz 0; have z1 := fz 1; have z2 := fz 2; have z3 := fz 3; have z4 := fz 4; have z5 := fz 5
  have y0 := fy 0; have y1 := fy 1; have y2 := fy 2; have y3 := fy 3; have y4 := fy 4; have y5 := fy 5; have y6 := fy 6; have y7 := fy 7; have y8 := fy 8; have y9 := fy 9; have y10 := fy 10
  clear fz fy
  obtain ⟨b0, b1, b2, b3, b4, b5, b6, b7, b8, b9, b10⟩ := (show w.cell? ⟨h, 0, none⟩ = some (.int .i64 0) ∧ w.cell? ⟨h, 1, none⟩ = some (.int .i64 0) ∧ w.cell? ⟨h, 2, none⟩ = some (.int .i64 0) ∧ w.cell? ⟨h, 3, none⟩ = some (.int .i64 0) ∧ w.cell? ⟨h, 4, none⟩ = some (.slice none 0 0) ∧ w.cell? ⟨h, 5, none⟩ = some (.string ⟨#[]⟩) ∧ w.cell? ⟨h, 6, none⟩ = some (.bool false) ∧ w.cell? ⟨h, 7, none⟩ = some (.int .i64 0) ∧ w.cell? ⟨h, 8, none⟩ = some (.slice none 0 0) ∧ w.cell? ⟨h, 9, none⟩ = some (.int .i64 0) ∧ w.cell? ⟨h, 10, none⟩ = some (.int .i64 0) from
    ⟨cell_of_blk hh, cell_of_blk hh, cell_of_blk hh, cell_of_blk hh, cell_of_blk hh, cell_of_blk hh, cell_of_blk hh, cell_of_blk hh, cell_of_blk hh, cell_of_blk hh, cell_of_blk hh⟩)
  have Hg := Lib.hid hg; have Hh := Lib.hid hh
  clear hg hh
  refine callsD_of_wpS Tryz.func44 rfl fun c₀ cs hu => ?_
  apply wpS_seq
  apply wpS_region
  simp [wpOpsS, go_sem, recoverD, hu, Tryz.ntmps44, Exit.thenS]
  rw [undo_tmps]
  refine wpS_of_wp ?_
  clear hu
  have hta := amiss_yes
  go_wp2
  clear a0 a1 a2 a3 a4 a5 z0 z1 z2 z3 z4 z5 y0 y1 y2 y3 y4 y5 y6 y7 y8 y9 y10 b0 b1 b2 b3 b4 b5 b6 b7 b8 b9 b10
  have k6 := setL_blk [.int .i64 0, .int .i64 0, .int .i64 0, .int .i64 0, .slice none 0 0, .slice none 0 0] 0 w _ Hg.out
  have kh6 := (setL_other (Ne.symm hne) [.int .i64 0, .int .i64 0, .int .i64 0, .int .i64 0, .slice none 0 0, .slice none 0 0] 0 w).trans Hh.out
  have k11 := setL_blk [.int .i64 E, .int .i64 0, .int .i64 0, .int .i64 0, .slice none 0 0, .string ⟨#[]⟩, .bool false, .int .i64 0, .slice none 0 0, .int .i64 0, .int .i64 0] 0 _ _ kh6
  have kg := (setL_other hne [.int .i64 E, .int .i64 0, .int .i64 0, .int .i64 0, .slice none 0 0, .string ⟨#[]⟩, .bool false, .int .i64 0, .slice none 0 0, .int .i64 0, .int .i64 0] 0 _).trans k6
  have hU : Upd (fun k => k = g ∨ k = h) w _ := setL_upd (b := h) (.inr rfl) [.int .i64 E, .int .i64 0, .int .i64 0, .int .i64 0, .slice none 0 0, .string ⟨#[]⟩, .bool false, .int .i64 0, .slice none 0 0, .int .i64 0, .int .i64 0] 0 _ (setL_upd (b := g) (.inl rfl) [.int .i64 0, .int .i64 0, .int .i64 0, .int .i64 0, .slice none 0 0, .slice none 0 0] 0 w (Upd.refl _ _))
  simp only [setL, putL, Nat.reduceAdd, Nat.zero_add, List.setIfInBounds_toArray, List.set_cons_zero, List.set_cons_succ] at k11 kg hU
  refine ⟨rfl, _, rfl, _, results_none rfl _ _ _, rfl, rfl, ?_, ?_, ?_⟩
  · exact kg
  · exact k11
  · exact hU
end Go.Proofs.YtdfckkadmgmcaaaGreatDoor.Space

/- Edits of spaces, in plain words: the chapter's examples. -/
namespace Go.Proofs.YtdfckkadmgmcaaaGreatDoor.Space
open Go.RowKit
open Path (Bs bs mk bs_mk mk_bs tl_bs MaxC splitE splitL parD)
open Tree
set_option linter.unusedSimpArgs false
set_option linter.unusedVariables false
def rootN : Nd := ⟨⟨#[47]⟩, true, -1, [], .slice none 0 0, -1⟩
def newS (v : Value) : Sp := ⟨0, 1, 1, 0, [rootN], [], v, .slice none 0 0⟩
theorem new_same (v v' : Value) : SameS (newS v) (newS v') := ⟨rfl, rfl, rfl, rfl, rfl, rfl⟩
theorem new_right (v : Value) : spaceB (newS v) = true := by
  show spaceB (newS (.slice none 0 0)) = true
  decide +kernel
theorem new_rightS (v : Value) : RightS (newS v) := (right_iff _).1 (new_right v)
/-- An edit, whatever value its lengths have. -/
theorem apply_lv (s : Sp) (k : Int) (p d : ByteArray) (c ca n : Int) (l : List Int) (v v' : Value) : applyE s ⟨k, p, d, c, ca, n, l, v⟩ = applyE s ⟨k, p, d, c, ca, n, l, v'⟩ := rfl
def fP : ByteArray := ⟨#[47, 102]⟩
def exE (k c : Int) (l : List Int) (v : Value) : Ed := ⟨k, fP, ⟨#[]⟩, c, 0, 0, l, v⟩
def nilV : Value := .slice none 0 0
def exA : Ans := applyE (newS nilV) (exE 2 1 [] nilV)
def exB : Ans := applyE exA.s (exE 5 1 [] nilV)
def exC : Ans := applyE exA.s (exE 5 2 [] nilV)
def exD : Ans := applyE exB.s (exE 6 1 [5] nilV)
def exF : Ans := applyE exD.s (exE 10 2 [] nilV)
theorem ex_facts : exA.err = 0 ∧ exB.err = 0 ∧ exB.b = ⟨1, 1, 0⟩ ∧ exC.err = 9 ∧ exD.err = 0 ∧ exF.err = 0 ∧ statE exF.s (bs fP) = 0 ∧ (statN exF.s (bs fP)).writer = 2 ∧ (statN exF.s (bs fP)).blocks = [⟨1, 1, 5⟩] := by
  refine ⟨by kernel_rfl, by kernel_rfl, by kernel_rfl, by kernel_rfl, by kernel_rfl, by kernel_rfl, by kernel_rfl, by kernel_rfl, by kernel_rfl⟩
end Go.Proofs.YtdfckkadmgmcaaaGreatDoor.Space

/- Edits of spaces: what space.Apply's answer takes (its node), in plain words and in memory. -/
namespace Go.Proofs.YtdfckkadmgmcaaaGreatDoor.Space
open Go.RowKit
open Path (Bs bs mk bs_mk mk_bs tl_bs MaxC splitE splitL parD)
open Tree
open Quota (overL overP cntN cntT roomT)
set_option linter.unusedSimpArgs false
set_option linter.unusedVariables false
theorem WkO.setL {w0 : World} {g N : Nat} {s : Sp} {e : Ed} (h0 : w0.heap.size ≤ N) (hg : g ≠ N) (hn : s.vn.ownBlock ≠ some N) (hl : s.vl.ownBlock ≠ some N) (hb : ∀ x ∈ s.nodes, x.bv.ownBlock ≠ some N) : ∀ (vs : List Value) (j : Nat) (w : World), WkO w0 w g s e → WkO w0 (Space.setL N j vs w) g s e
  | [], _, _, h => h
  | v :: r, j, w, h => WkO.setL h0 hg hn hl hb r (j + 1) _ (h.side (j := j) (u := v) h0 hg hn hl hb)
theorem setL_size (b : Nat) : ∀ (vs : List Value) (j : Nat) (w : World), (Space.setL b j vs w).heap.size = w.heap.size
  | [], _, _ => rfl
  | v :: r, j, w => (setL_size b r (j + 1) _).trans (by simp)
theorem OwnB.setL {w w' : World} {N : Nat} {v : Value} {q : List Bl} (hne : v.ownBlock ≠ some N) : ∀ (vs : List Value) (j : Nat) (w' : World), OwnB w w' v q → OwnB w (Space.setL N j vs w') v q
  | [], _, _, h => h
  | u :: r, j, w', h => OwnB.setL (w' := w') hne r (j + 1) _ (OwnB.poke h hne)
theorem ans_cells {w : World} {N : Nat} {u0 u1 u2 u3 u4 u5 u6 u7 u8 u9 u10 : Value} {t : TypeId} (h : w.heap[N]? = some (.cells #[u0, u1, u2, u3, u4, u5, u6, u7, u8, u9, u10] t (0, 0))) : w.cell? ⟨N, 0, none⟩ = some u0 ∧ w.cell? ⟨N, 1, none⟩ = some u1 ∧ w.cell? ⟨N, 2, none⟩ = some u2 ∧ w.cell? ⟨N, 3, none⟩ = some u3 ∧ w.cell? ⟨N, 4, none⟩ = some u4 ∧ w.cell? ⟨N, 5, none⟩ = some u5 ∧ w.cell? ⟨N, 6, none⟩ = some u6 ∧ w.cell? ⟨N, 7, none⟩ = some u7 ∧ w.cell? ⟨N, 8, none⟩ = some u8 ∧ w.cell? ⟨N, 9, none⟩ = some u9 ∧ w.cell? ⟨N, 10, none⟩ = some u10 :=
  ⟨cell_of_blk h, cell_of_blk h, cell_of_blk h, cell_of_blk h, cell_of_blk h, cell_of_blk h, cell_of_blk h, cell_of_blk h, cell_of_blk h, cell_of_blk h, cell_of_blk h⟩
theorem sp_cells6 {w : World} {N : Nat} {u0 u1 u2 u3 u4 u5 : Value} {t : TypeId} (h : w.heap[N]? = some (.cells #[u0, u1, u2, u3, u4, u5] t (0, 0))) : w.cell? ⟨N, 0, none⟩ = some u0 ∧ w.cell? ⟨N, 1, none⟩ = some u1 ∧ w.cell? ⟨N, 2, none⟩ = some u2 ∧ w.cell? ⟨N, 3, none⟩ = some u3 ∧ w.cell? ⟨N, 4, none⟩ = some u4 ∧ w.cell? ⟨N, 5, none⟩ = some u5 :=
  ⟨cell_of_blk h, cell_of_blk h, cell_of_blk h, cell_of_blk h, cell_of_blk h, cell_of_blk h⟩
theorem tells_ways (k : Int) : ((k == 2) = true ∧ tells k = true) ∨ ((k == 2) = false ∧ (k == 5) = true ∧ tells k = true) ∨ ((k == 2) = false ∧ (k == 5) = false ∧ (k == 6) = true ∧ tells k = true) ∨ ((k == 2) = false ∧ (k == 5) = false ∧ (k == 6) = false ∧ (k == 9) = true ∧ tells k = true) ∨ ((k == 2) = false ∧ (k == 5) = false ∧ (k == 6) = false ∧ (k == 9) = false ∧ (k == 10) = true ∧ tells k = true) ∨ ((k == 2) = false ∧ (k == 5) = false ∧ (k == 6) = false ∧ (k == 9) = false ∧ (k == 10) = false ∧ tells k = false) := by
  by_cases h2 : k = 2
  · exact .inl ⟨by simpa using h2, by simp [tells, h2]⟩
  by_cases h5 : k = 5
  · exact .inr (.inl ⟨by simpa using h2, by simpa using h5, by simp [tells, h5]⟩)
  by_cases h6 : k = 6
  · exact .inr (.inr (.inl ⟨by simpa using h2, by simpa using h5, by simpa using h6, by simp [tells, h6]⟩))
  by_cases h9 : k = 9
  · exact .inr (.inr (.inr (.inl ⟨by simpa using h2, by simpa using h5, by simpa using h6, by simpa using h9, by simp [tells, h9]⟩)))
  by_cases h10 : k = 10
  · exact .inr (.inr (.inr (.inr (.inl ⟨by simpa using h2, by simpa using h5, by simpa using h6, by simpa using h9, by simpa using h10, by simp [tells, h10]⟩))))
  exact .inr (.inr (.inr (.inr (.inr ⟨by simpa using h2, by simpa using h5, by simpa using h6, by simpa using h9, by simpa using h10, by simp [tells, h2, h5, h6, h9, h10]⟩))))
/-- The node of an edit that tells it. -/
theorem write_dir {s : Sp} {e : Ed} {i : Nat} {x : Nd} (h : (doWrite s e i x).err = 0) : ∃ y, (doWrite s e i x).s.nodes = s.nodes.set i y ∧ y.path = x.path ∧ y.dir = x.dir := by
  rw [doWrite] at h ⊢
  by_cases h9 : e.kind = 9
  · rw [if_pos h9] at h ⊢
    by_cases c1 : (x.blocks.length : Int) ≤ e.n
    · rw [if_pos c1] at h; cases h
    rw [if_neg c1] at h ⊢
    by_cases c2 : s.ng = 9007199254740991
    · rw [if_pos c2] at h; cases h
    rw [if_neg c2] at h ⊢
    cases hb : x.blocks[e.n.toNat]? with
    | none => rw [hb] at h; cases h
    | some b => exact ⟨{ x with blocks := x.blocks.set e.n.toNat { b with gen := s.ng } }, rfl, rfl, rfl⟩
  · rw [if_neg h9] at h ⊢
    by_cases c1 : lensOk e x = false
    · rw [if_pos c1] at h; cases h
    rw [if_neg c1] at h ⊢
    by_cases h6 : e.kind = 6
    · rw [if_pos h6]; exact ⟨{ x with blocks := zipLen x.blocks e.lens, writer := -1 }, rfl, rfl, rfl⟩
    · rw [if_neg h6] at h ⊢
      by_cases c2 : 8 ≤ x.blocks.length ∨ s.nb = 9007199254740991 ∨ s.ng = 9007199254740991
      · rw [if_pos c2] at h; cases h
      rw [if_neg c2]
      exact ⟨{ x with blocks := zipLen x.blocks e.lens ++ [⟨s.nb, s.ng, 0⟩] }, rfl, rfl, rfl⟩
theorem tells_node {s : Sp} {e : Ed} (hk : tells e.kind = true) (h : (doE s e).err = 0) : splitE (bs e.path) = 0 ∧ ∃ y ∈ (doE s e).s.nodes, bs y.path = bs e.path ∧ y.dir = false := by
  have hk' : e.kind = 2 ∨ e.kind = 5 ∨ e.kind = 6 ∨ e.kind = 9 ∨ e.kind = 10 := by
    simp only [tells, Bool.or_eq_true, decide_eq_true_eq] at hk; omega
  have set_mem : ∀ {l : List Nd} {i : Nat} {x y : Nd}, l[i]? = some x → y ∈ l.set i y := fun {l i x y} hx => List.mem_iff_getElem?.2 ⟨i, List.getElem?_set_self (List.getElem?_eq_some_iff.1 hx).1⟩
  by_cases h2 : e.kind = 2
  · have e0 : doE s e = if addE s.nodes (newN e) ≠ 0 then bad s (addE s.nodes (newN e))
        else if roomT s.nodes (parD (bs e.path)) < 1 then bad s 8
        else if e.kind = 1 then ⟨0, { s with nodes := addL s.nodes (newN e) }, noBl⟩
        else ⟨0, renS { s with nodes := addL s.nodes (newN e) } e.client, noBl⟩ := by rw [doE, if_pos (.inr h2)]
    rw [e0] at h ⊢
    by_cases c1 : addE s.nodes (newN e) ≠ 0
    · rw [if_pos c1] at h; exact absurd h c1
    rw [if_neg c1] at h ⊢
    by_cases c2 : roomT s.nodes (parD (bs e.path)) < 1
    · rw [if_pos c2] at h; cases h
    rw [if_neg c2, if_neg (by omega)]
    obtain ⟨_, hf, _⟩ := addE_zero (by omega : addE s.nodes (newN e) = 0)
    refine ⟨fits_split hf, pur (newN e), ?_, rfl, ?_⟩
    · show pur (newN e) ∈ addL s.nodes (newN e)
      rw [addL]
      exact List.mem_map_of_mem ((ins_perm (newN e) s.nodes).symm.subset (List.mem_cons_self ..))
    · show decide (e.kind = 1) = false
      exact decide_eq_false (by omega)
  by_cases h10 : e.kind = 10
  · have e0 : doE s e = fileN s (bs e.path) fun i x => if 0 ≤ x.writer then bad s 9 else ⟨0, renS (setN s i { x with writer := e.client }) e.client, noBl⟩ := by
      rw [doE, if_neg (by omega), if_neg (by omega), if_neg (by omega), if_neg (by omega), if_neg (by omega), if_pos h10]
    rw [e0] at h ⊢
    obtain ⟨g1, i, x, _, g3, g4, hd, h5⟩ := file_zero h
    rw [h5] at h ⊢
    by_cases c1 : 0 ≤ x.writer
    · rw [if_pos c1] at h; cases h
    rw [if_neg c1]
    exact ⟨g1, { x with writer := e.client }, set_mem g3, g4, hd⟩
  have e0 : doE s e = fileN s (bs e.path) fun i x => if x.writer ≠ e.client then bad s 9 else doWrite s e i x := by rw [doE, if_neg (by omega), if_neg (by omega), if_neg (by omega), if_neg (by omega), if_neg (by omega), if_neg (by omega)]
  rw [e0] at h ⊢
  obtain ⟨g1, i, x, g2, g3, g4, hd, g5⟩ := file_zero h
  rw [g5] at h ⊢
  by_cases hw : x.writer = e.client
  · rw [if_neg (by omega)] at h ⊢
    obtain ⟨y, h1, h2, h3⟩ := write_dir h
    exact ⟨g1, y, by rw [h1]; exact set_mem g3, by rw [h2]; exact g4, by rw [h3]; exact hd⟩
  · rw [if_pos hw] at h; cases h
theorem tells_at {s t2 : Sp} {e : Ed} (hs : RightS s) (he : EdOk e) (hk : tells e.kind = true) (h : (doE s e).err = 0) (hst : t2.nodes.map pur = (doE s e).s.nodes.map pur) :
    ∃ (k : Nat) (x : Nd), atEnd t2 (bs e.path) = .returned (.int .i64 (k : Int)) ∧ t2.nodes[k]? = some x ∧ x.dir = false ∧ x.blocks.length ≤ 8 ∧ pur x = pur (((doE s e).s.nodes.find? fun x => bs x.path == bs e.path).getD zeroN) := by
  obtain ⟨hE, y, hy, hyp, hyd⟩ := tells_node hk h
  have hR := (do_right hs he h).right
  have hT : RightP t2.nodes := right_p (by rw [right_same hst]; exact p_right hR.tree)
  obtain ⟨z, hz, hzy⟩ := List.mem_map.1 (show pur y ∈ t2.nodes.map pur by rw [hst]; exact List.mem_map_of_mem hy)
  obtain ⟨e1, e2, -, -, -⟩ := pur_same hzy
  have hzp : bs z.path = bs e.path := by rw [e1]; exact hyp
  rcases fi_ways t2.nodes (bs e.path) with ⟨h1, h2⟩ | ⟨k, x, h1, h2, h3⟩
  · exact absurd hzp (h2 z hz)
  · have hxz : x = z := at_one hT.rises (List.mem_of_getElem? h2) hz (by rw [h3, hzp])
    refine ⟨k, x, ?_, h2, by rw [hxz, e2]; exact hyd, fits_blocks (hT.fits x (List.mem_of_getElem? h2)), ?_⟩
    · rw [atEnd, if_neg (by omega), h1, if_neg (by omega)]
    · have hf : t2.nodes.find? (fun x => bs x.path == bs e.path) = some x := by
        cases hc : t2.nodes.find? (fun x => bs x.path == bs e.path) with
        | none =>
          have := List.find?_eq_none.1 hc z hz
          rw [hzp] at this; simp at this
        | some u =>
          have hu := List.find?_some hc
          have hum := List.mem_of_find?_eq_some hc
          have : u = x := at_one hT.rises hum (List.mem_of_getElem? h2) (by rw [h3]; simpa using hu)
          rw [this]
      rw [← found_same hst, hf]; rfl
/-- A node that is laid into the answer. -/
theorem node_put {w w9 w10 : World} {g N Z : Nat} {s : Sp} {e : Ed} {x : Nd} {c0 c1 c2 c3 c4 u5 u6 u7 u8 u9 c10 v5 v6 v7 v8 v9 : Value} {oz : Obj} (hO : WkO w w9 g s e) (kA : w9.heap[N]? = some (.cells #[c0, c1, c2, c3, c4, u5, u6, u7, u8, u9, c10] 37 (0, 0))) (kZ : w9.heap[Z]? = some oz)
    (hN : w.heap.size ≤ N) (hg : g ≠ N) (hZ : Z ≠ N) (hb : Below w9.heap.size w9 w10) (hx : OwnB w w9 x.bv x.blocks) :
    (setL N 5 [v5, v6, v7, v8, v9] w10).heap[N]? = some (.cells #[c0, c1, c2, c3, c4, v5, v6, v7, v8, v9, c10] 37 (0, 0)) ∧ (setL N 5 [v5, v6, v7, v8, v9] w10).heap[Z]? = some oz ∧ WkO w (setL N 5 [v5, v6, v7, v8, v9] w10) g s e ∧ OwnB w (setL N 5 [v5, v6, v7, v8, v9] w10) x.bv x.blocks := by
  have k1 := (hb.block _ (lt_of_block kA)).trans kA
  have k2 := (hb.block _ (lt_of_block kZ)).trans kZ
  have h1 := hO.below hb
  have h2 := hx.below hb
  refine ⟨?_, (setL_other hZ _ _ _).trans k2, WkO.setL hN hg (own_ne_blk h1.nodes.own k1 (by decide)) (own_ne_blk h1.leases.own k1 (by decide)) (fun y hy => own_ne_blk (h1.nodes.bl y hy).own k1 (by decide)) _ _ _ h1, OwnB.setL (w' := w10) (own_ne_blk h2.own k1 (by decide)) _ _ _ h2⟩
  have k3 := setL_blk [v5, v6, v7, v8, v9] 5 _ _ k1
  simpa only [putL, Nat.reduceAdd, List.setIfInBounds_toArray, List.set_cons_zero, List.set_cons_succ] using k3
/-- Its blocks made new. -/
theorem node_end {w w5 w11 : World} {g N Z : Nat} {s : Sp} {e : Ed} {x : Nd} {c0 c1 c2 c3 c4 c5 c6 c7 c8 c9 c10 v : Value} {oz : Obj} (hO : WkO w w5 g s e) (kA : w5.heap[N]? = some (.cells #[c0, c1, c2, c3, c4, c5, c6, c7, c8, c9, c10] 37 (0, 0))) (kZ : w5.heap[Z]? = some oz)
    (hN : w.heap.size ≤ N) (hg : g ≠ N) (hZ : Z ≠ N) (hb : Below w5.heap.size w5 w11) (hx : OwnB w5 w11 v x.blocks) :
    (w11.setCell ⟨N, 8, none⟩ v).heap[N]? = some (.cells #[c0, c1, c2, c3, c4, c5, c6, c7, v, c9, c10] 37 (0, 0)) ∧ (w11.setCell ⟨N, 8, none⟩ v).heap[Z]? = some oz ∧ WkO w (w11.setCell ⟨N, 8, none⟩ v) g s e ∧ OwnB w (w11.setCell ⟨N, 8, none⟩ v) v x.blocks := by
  have k1 := (hb.block _ (lt_of_block kA)).trans kA
  have k2 := (hb.block _ (lt_of_block kZ)).trans kZ
  have h1 := hO.below hb
  refine ⟨?_, (heap_setCell_other _ ⟨N, 8, none⟩ _ v hZ).trans k2, h1.side hN hg (own_ne_blk h1.nodes.own k1 (by decide)) (own_ne_blk h1.leases.own k1 (by decide)) (fun y hy => own_ne_blk (h1.nodes.bl y hy).own k1 (by decide)), (OwnB.poke hx (own_ne_blk hx.own k1 (by decide))).up hO.base.size⟩
  have k3 := heap_setCell_same _ _ 8 _ _ v k1
  simpa only [List.setIfInBounds_toArray, List.set_cons_zero, List.set_cons_succ] using k3
end Go.Proofs.YtdfckkadmgmcaaaGreatDoor.Space
