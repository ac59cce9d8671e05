/- Images: image.read, the words of its walk. -/
import Derived.Test.YtgpddngbccecfaaDoorJa
namespace Go.Proofs.YtgpddngbccecfaaDoor.Image
open Go.RowKit
open Path (Bs bs mk bs_mk mk_bs tl_bs MaxC rd_cellsS)
open Tree Space
open Wire (numB textB sealB takeN textT)
set_option linter.unusedSimpArgs false
set_option linter.unusedVariables false
/-- The variables of the reading: the parts, the space, whether all is fine, what is left. -/
structure Mem (w0 W : World) (vp : Value) (cs : Array Value) (fine : Bool) (left : Bs) : Prop where
  P : W.heap[w0.heap.size]? = some (.cells #[vp] 59 (0, 0))
  R : W.heap[w0.heap.size + 1]? = some (.cells cs 25 (0, 0))
  F : W.heap[w0.heap.size + 2]? = some (.cells #[.bool fine] 4 (0, 0))
  L : W.heap[w0.heap.size + 3]? = some (.cells #[.string (mk left)] 9 (0, 0))
  below : Below w0.heap.size w0 W
/-- Those blocks. -/
def Vs (w0 : World) (i : Nat) : Prop := w0.heap.size ≤ i ∧ i < w0.heap.size + 4
theorem Mem.lt {w0 W : World} {vp : Value} {cs : Array Value} {fine : Bool} {left : Bs} (h : Mem w0 W vp cs fine left) : w0.heap.size + 3 < W.heap.size := lt_of_block h.L
theorem below_vs {w0 W W' : World} (h : Below w0.heap.size w0 W) (hu : Upd (Vs w0) W W') : Below w0.heap.size w0 W' :=
  h.trans (hu.toBelow (fun k hk => hk.1) h.size)
theorem mnum_calls {w0 W : World} {vp : Value} {cs : Array Value} {fine : Bool} {left : Bs} (M : Mem w0 W vp cs fine left) (hl : left.length ≤ 10000000) :
    Calls Tryd.prog 37 #[.pointer (some ⟨w0.heap.size + 3, 0, none⟩), .pointer (some ⟨w0.heap.size + 2, 0, none⟩)] W fun e W' => e = .returned (.int .i64 (numV left)) ∧ Mem w0 W' vp cs (fine && numK left) (numR left) ∧ Upd (Vs w0) W W' := by
  refine (rdnum_calls W _ _ left fine M.L M.F (by omega)).mono ?_
  rintro e W' ⟨rfl, hL, hF, hU⟩
  have hU' : Upd (Vs w0) W W' := hU.mono fun b _ hb => by
    rcases hb with rfl | rfl
    · exact ⟨by omega, by omega⟩
    · exact ⟨by omega, by omega⟩
  refine ⟨rfl, ⟨?_, ?_, hF, hL, below_vs M.below hU'⟩, hU'⟩
  · exact hU.block_eq M.P (fun h => by rcases h with h | h <;> omega)
  · exact hU.block_eq M.R (fun h => by rcases h with h | h <;> omega)
def MPart (w0 W : World) (cs : Array Value) (f : Bool) (l : Bs) (ps : List ByteArray) (e : Ending) (W' : World) : Prop :=
  e = .returned (.tuple #[]) ∧ (∃ vp', Mem w0 W' vp' cs f l ∧ Rd w0 1 Path.encS vp' ps) ∧ Upd (Vs w0) W W'
theorem mpart_calls {w0 W : World} {vp : Value} {cs : Array Value} {fine : Bool} {left : Bs} (M : Mem w0 W vp cs fine left) {ps : List ByteArray} (hR : Rd w0 1 Path.encS vp ps) :
    Calls Tryd.prog 39 #[.pointer (some ⟨w0.heap.size + 2, 0, none⟩), .pointer (some ⟨w0.heap.size, 0, none⟩), .pointer (some ⟨w0.heap.size + 3, 0, none⟩)] W (MPart w0 W cs (partF fine ps) (partL fine ps left) (partP fine ps)) := by
  refine (rdpart_calls w0 W M.below _ _ _ left fine ps vp M.L M.F M.P hR (by omega) (by omega) (Nat.le_refl _)).mono ?_
  rintro e W' ⟨rfl, hL, hF, ⟨vp', hP, hR'⟩, hU⟩
  have hU' : Upd (Vs w0) W W' := hU.mono fun b _ hb => by
    rcases hb with rfl | rfl | rfl
    · exact ⟨by omega, by omega⟩
    · exact ⟨by omega, by omega⟩
    · exact ⟨by omega, by omega⟩
  exact ⟨rfl, ⟨vp', ⟨hP, hU.block_eq M.R (fun h => by rcases h with h | h | h <;> omega), hF, hL, below_vs M.below hU'⟩, hR'⟩, hU'⟩
/-- A store into the space. -/
theorem Mem.setR {w0 W : World} {vp : Value} {cs : Array Value} {fine : Bool} {left : Bs} (h : Mem w0 W vp cs fine left) (i : Nat) (u : Value) : Mem w0 (W.setCell ⟨w0.heap.size + 1, i, none⟩ u) vp (cs.setIfInBounds i u) fine left :=
  ⟨(heap_setCell_other _ ⟨w0.heap.size + 1, i, none⟩ _ _ (by simp)).trans h.P, heap_setCell_same _ _ i _ _ u h.R, (heap_setCell_other _ ⟨w0.heap.size + 1, i, none⟩ _ _ (by simp)).trans h.F, (heap_setCell_other _ ⟨w0.heap.size + 1, i, none⟩ _ _ (by simp)).trans h.L, h.below.setCell (by simp) _⟩
/-- A store into the text that is left, and into whether all is fine. -/
theorem Mem.setL {w0 W : World} {vp : Value} {cs : Array Value} {fine : Bool} {left : Bs} (h : Mem w0 W vp cs fine left) (l : Bs) : Mem w0 (W.setCell ⟨w0.heap.size + 3, 0, none⟩ (.string (Path.mk l))) vp cs fine l :=
  ⟨(heap_setCell_other _ ⟨w0.heap.size + 3, 0, none⟩ _ _ (by simp)).trans h.P, (heap_setCell_other _ ⟨w0.heap.size + 3, 0, none⟩ _ _ (by simp)).trans h.R, (heap_setCell_other _ ⟨w0.heap.size + 3, 0, none⟩ _ _ (by simp)).trans h.F, heap_setCell_same _ _ 0 _ _ _ h.L, h.below.setCell (by simp) _⟩
theorem Mem.setF {w0 W : World} {vp : Value} {cs : Array Value} {fine : Bool} {left : Bs} (h : Mem w0 W vp cs fine left) (f : Bool) : Mem w0 (W.setCell ⟨w0.heap.size + 2, 0, none⟩ (.bool f)) vp cs f left :=
  ⟨(heap_setCell_other _ ⟨w0.heap.size + 2, 0, none⟩ _ _ (by simp)).trans h.P, (heap_setCell_other _ ⟨w0.heap.size + 2, 0, none⟩ _ _ (by simp)).trans h.R, heap_setCell_same _ _ 0 _ _ _ h.F, (heap_setCell_other _ ⟨w0.heap.size + 2, 0, none⟩ _ _ (by simp)).trans h.L, h.below.setCell (by simp) _⟩
/-- What turns none of these blocks keeps them. -/
theorem Mem.kept {w0 W W' : World} {vp : Value} {cs : Array Value} {fine : Bool} {left : Bs} (h : Mem w0 W vp cs fine left) {F : Nat → Prop} (hu : Upd F W W') (hF : ∀ i, F i → w0.heap.size + 4 ≤ i) : Mem w0 W' vp cs fine left := by
  have key : ∀ i, i < w0.heap.size + 4 → ¬ F i := fun i hi hf => by have := hF i hf; omega
  refine ⟨hu.block_eq h.P (key _ (by omega)), hu.block_eq h.R (key _ (by omega)), hu.block_eq h.F (key _ (by omega)), hu.block_eq h.L (key _ (by omega)), h.below.trans (hu.toBelow (fun k hk => by have := hF k hk; omega) h.below.size)⟩
theorem Mem.up {w0 W W' : World} {vp : Value} {cs : Array Value} {fine : Bool} {left : Bs} (h : Mem w0 W vp cs fine left) (hb : Below W.heap.size W W') : Mem w0 W' vp cs fine left :=
  h.kept (F := fun _ => False) (Upd.of_below hb _) (fun i hi => False.elim hi)
theorem Mem.cell {w0 W : World} {vp : Value} {cs : Array Value} {fine : Bool} {left : Bs} (h : Mem w0 W vp cs fine left) : W.cell? ⟨w0.heap.size + 2, 0, none⟩ = some (.bool fine) ∧ W.cell? ⟨w0.heap.size + 3, 0, none⟩ = some (.string (Path.mk left)) ∧ W.frozen? ⟨w0.heap.size + 2, 0, none⟩ = false ∧ W.frozen? ⟨w0.heap.size + 3, 0, none⟩ = false ∧ ∀ i, W.frozen? ⟨w0.heap.size + 1, i, none⟩ = false :=
  ⟨cell_of_blk h.F, cell_of_blk h.L, free_of_blk h.F, free_of_blk h.L, fun i => free_of_blk h.R⟩
/-! Plain words of the loops. -/
theorem takeNs_succ (k : Nat) (b : Bs) : takeNs (k + 1) b = if numK b = true then (match takeNs k (numR b) with | none => none | some (l, r) => some (numV b :: l, r)) else none := by
  rw [takeNs]
  cases hk : numK b
  · rw [num_no hk]; rfl
  · rw [num_is hk, if_pos rfl]; rfl
theorem blocksR_succ (k : Nat) (b : Bs) : blocksR (k + 1) b = if (numK b && numK (numR b) && numK (numR (numR b))) = true then (match blocksR k (numR (numR (numR b))) with | none => none | some (l, r) => some (⟨numV b, numV (numR b), numV (numR (numR b))⟩ :: l, r)) else none := by
  rw [blocksR, takeNs_succ, takeNs_succ, takeNs_succ, takeNs]
  cases numK b <;> cases numK (numR b) <;> cases numK (numR (numR b)) <;> rfl
theorem blocksR_snoc : ∀ (k : Nat) (b : Bs), blocksR (k + 1) b = match blocksR k b with
    | none => none
    | some (l, r) => if (numK r && numK (numR r) && numK (numR (numR r))) = true then some (l ++ [⟨numV r, numV (numR r), numV (numR (numR r))⟩], numR (numR (numR r))) else none
  | 0, b => by rw [blocksR_succ]; rfl
  | k + 1, b => by
    rw [blocksR_succ (k + 1) b, blocksR_succ k b]
    by_cases hc : (numK b && numK (numR b) && numK (numR (numR b))) = true
    · rw [if_pos hc, if_pos hc, blocksR_snoc k]
      cases blocksR k (numR (numR (numR b))) with
      | none => rfl
      | some x =>
        obtain ⟨l, r⟩ := x
        simp only []
        by_cases hd : (numK r && numK (numR r) && numK (numR (numR r))) = true
        · rw [if_pos hd, if_pos hd]; rfl
        · rw [if_neg hd, if_neg hd]
    · rw [if_neg hc, if_neg hc]
theorem blocksR_none {b : Bs} : ∀ {k m : Nat}, k ≤ m → blocksR k b = none → blocksR m b = none
  | k, m, h, hn => by
    induction h with
    | refl => exact hn
    | step _ ih => rw [blocksR_snoc, ih]
/-- The inner loop's rounds. -/
structure BlkI (l0 : Bs) (f0 : Bool) (k : Nat) (bl : List Bl) (left : Bs) (fine : Bool) : Prop where
  yes : fine = true → f0 = true ∧ blocksR k l0 = some (bl, left) ∧ k + left.length ≤ l0.length
  no : fine = false → f0 = false ∨ blocksR k l0 = none
  len : bl.length = k
  few : k ≤ l0.length + 1
  left : left.length ≤ l0.length
theorem BlkI.start (l0 : Bs) (f0 : Bool) : BlkI l0 f0 0 [] l0 f0 := ⟨fun h => ⟨h, rfl, by omega⟩, fun h => .inl h, rfl, by omega, Nat.le_refl _⟩
theorem numR_lt {l : Bs} (h : numK l = true) : (numR l).length < l.length := take_lt (num_is h)
theorem BlkI.next {l0 : Bs} {f0 : Bool} {k : Nat} {bl : List Bl} {left : Bs} (h : BlkI l0 f0 k bl left true) :
    BlkI l0 f0 (k + 1) (bl ++ [⟨numV left, numV (numR left), numV (numR (numR left))⟩]) (numR (numR (numR left))) (true && numK left && numK (numR left) && numK (numR (numR left))) := by
  obtain ⟨h1, h2, h3⟩ := h.yes rfl
  have e := blocksR_snoc k l0
  rw [h2] at e
  simp only [] at e
  have e1 := numR_len left
  have e2 := numR_len (numR left)
  have e3 := numR_len (numR (numR left))
  refine ⟨fun hf => ?_, fun hf => ?_, by rw [List.length_append, h.len]; rfl, by omega, by have := h.left; omega⟩
  · rw [Bool.true_and] at hf
    rw [if_pos hf] at e
    simp only [Bool.and_eq_true] at hf
    have := numR_lt hf.1.1
    exact ⟨h1, e, by omega⟩
  · rw [Bool.true_and] at hf
    rw [if_neg (by rw [hf]; simp)] at e
    exact .inr e
theorem nodeR_eq (t : Bs) : nodeR t = if (txtK t && numK (txtR t) && numK (numR (txtR t)) && numK (numR (numR (txtR t))) && numK (numR (numR (numR (txtR t))))) = true then
    (match blocksR (numV (numR (numR (numR (txtR t))))).toNat (numR (numR (numR (numR (txtR t))))) with
      | none => none
      | some (bl, r) => some (⟨mk (txtV t), decide (numV (txtR t) = 1), numV (numR (txtR t)), bl, nilV, numV (numR (numR (txtR t)))⟩, r)) else none := by
  rw [nodeR]
  cases ht : txtK t
  · rw [txt_no ht]; rfl
  · rw [txt_is ht]
    simp only []
    generalize txtR t = l1
    rw [takeNs_succ, takeNs_succ, takeNs_succ, takeNs_succ, takeNs]
    cases numK l1 <;> cases numK (numR l1) <;> cases numK (numR (numR l1)) <;> cases numK (numR (numR (numR l1))) <;> rfl
theorem nodesR_snoc : ∀ (k : Nat) (l : List Bs), nodesR (k + 1) l = match nodesR k l with
    | none => none
    | some (m, []) => none
    | some (m, t :: l') => match nodeR t with
      | none => none
      | some (x, _) => some (m ++ [x], l')
  | 0, [] => rfl
  | 0, t :: l => by
    rw [nodesR]
    cases nodeR t with
    | none => rfl
    | some x => rfl
  | k + 1, [] => rfl
  | k + 1, t :: l => by
    rw [nodesR]
    conv => rhs; rw [nodesR]
    cases hx : nodeR t with
    | none => rfl
    | some x =>
      simp only []
      rw [nodesR_snoc k l]
      cases nodesR k l with
      | none => rfl
      | some y =>
        obtain ⟨m, l'⟩ := y
        cases l' with
        | nil => rfl
        | cons u l' =>
          simp only []
          cases nodeR u with
          | none => rfl
          | some z => rfl
theorem nodesR_none {l : List Bs} : ∀ {k m : Nat}, k ≤ m → nodesR k l = none → nodesR m l = none
  | k, m, h, hn => by
    induction h with
    | refl => exact hn
    | step _ ih => rw [nodesR_snoc, ih]
theorem leaseR_eq (t : Bs) : leaseR t = if (numK t && numK (numR t)) = true then some (⟨numV t, numV (numR t)⟩, numR (numR t)) else none := by
  rw [leaseR, takeNs_succ, takeNs_succ, takeNs]
  cases numK t <;> cases numK (numR t) <;> rfl
theorem leasesR_snoc : ∀ (k : Nat) (l : List Bs), leasesR (k + 1) l = match leasesR k l with
    | none => none
    | some (m, []) => none
    | some (m, t :: l') => match leaseR t with
      | none => none
      | some (x, _) => some (m ++ [x], l')
  | 0, [] => rfl
  | 0, t :: l => by
    rw [leasesR]
    cases leaseR t with
    | none => rfl
    | some x => rfl
  | k + 1, [] => rfl
  | k + 1, t :: l => by
    rw [leasesR]
    conv => rhs; rw [leasesR]
    cases hx : leaseR t with
    | none => rfl
    | some x =>
      simp only []
      rw [leasesR_snoc k l]
      cases leasesR k l with
      | none => rfl
      | some y =>
        obtain ⟨m, l'⟩ := y
        cases l' with
        | nil => rfl
        | cons u l' =>
          simp only []
          cases leaseR u with
          | none => rfl
          | some z => rfl
theorem leasesR_none {l : List Bs} : ∀ {k m : Nat}, k ≤ m → leasesR k l = none → leasesR m l = none
  | k, m, h, hn => by
    induction h with
    | refl => exact hn
    | step _ ih => rw [leasesR_snoc, ih]
/-- The loop over the nodes' parts. -/
structure NodI (f0 : Bool) (ps0 : List ByteArray) (k : Nat) (q : List Nd) (ps : List ByteArray) (fine : Bool) : Prop where
  yes : fine = true → f0 = true ∧ nodesR k (ps0.map bs) = some (q.map pur, ps.map bs) ∧ k + ps.length = ps0.length
  no : fine = false → f0 = false ∨ nodesR k (ps0.map bs) = none
  len : q.length = k
  few : k ≤ ps0.length + 1
  sub : ∀ p ∈ ps, p ∈ ps0
structure LeaI (f0 : Bool) (ps0 : List ByteArray) (k : Nat) (q : List Lease.Le) (ps : List ByteArray) (fine : Bool) : Prop where
  yes : fine = true → f0 = true ∧ leasesR k (ps0.map bs) = some (q, ps.map bs) ∧ k + ps.length = ps0.length
  no : fine = false → f0 = false ∨ leasesR k (ps0.map bs) = none
  len : q.length = k
  few : k ≤ ps0.length + 1
  sub : ∀ p ∈ ps, p ∈ ps0
theorem NodI.start (f0 : Bool) (ps : List ByteArray) : NodI f0 ps 0 [] ps f0 := ⟨fun h => ⟨h, rfl, by omega⟩, fun h => .inl h, rfl, by omega, fun p h => h⟩
theorem LeaI.start (f0 : Bool) (ps : List ByteArray) : LeaI f0 ps 0 [] ps f0 := ⟨fun h => ⟨h, rfl, by omega⟩, fun h => .inl h, rfl, by omega, fun p h => h⟩
/-- One node more: t is what is left when the part has been taken, l0 what its numbers leave, many how many blocks are told. -/
theorem NodI.next {f0 : Bool} {ps0 ps : List ByteArray} {k : Nat} {q : List Nd} (h : NodI f0 ps0 k q ps true) {t : Bs} (ht : t = partL true ps t) {bl : List Bl} {left : Bs} {fine : Bool} {j : Nat} {v : Value}
    (hb : BlkI (numR (numR (numR (numR (txtR t))))) (partF true ps && txtK t && numK (txtR t) && numK (numR (txtR t)) && numK (numR (numR (txtR t))) && numK (numR (numR (numR (txtR t))))) j bl left fine)
    (hj : j ≤ (numV (numR (numR (numR (txtR t))))).toNat) (hend : fine = true → j = (numV (numR (numR (numR (txtR t))))).toNat) :
    NodI f0 ps0 (k + 1) (q ++ [⟨Path.mk (txtV t), decide (numV (txtR t) = 1), numV (numR (txtR t)), bl, v, numV (numR (numR (txtR t)))⟩]) (partP true ps) fine := by
  obtain ⟨h0, h1, h2⟩ := h.yes rfl
  have e := nodesR_snoc k (ps0.map bs)
  rw [h1] at e
  cases ps with
  | nil =>
    simp only [List.map_nil] at e
    have hno : fine = false := by
      cases hf : fine
      · rfl
      · obtain ⟨h3, -⟩ := hb.yes hf
        simp [partF] at h3
    subst hno
    exact ⟨fun hf => (by cases hf), fun _ => .inr e, by rw [List.length_append, h.len]; rfl, by simp only [List.length_nil] at h2; omega, fun p hp => by simp [partP] at hp⟩
  | cons p ps =>
    have htp : t = bs p := ht
    subst htp
    simp only [List.map_cons] at e
    rw [nodeR_eq] at e
    have hfew : k + 1 ≤ ps0.length := by simp only [List.length_cons] at h2; omega
    have hsub : ∀ x ∈ partP true (p :: ps), x ∈ ps0 := fun x hx => h.sub x (List.mem_cons_of_mem _ hx)
    have hpF : partF true (p :: ps) = true := rfl
    rw [hpF, Bool.true_and] at hb
    refine ⟨fun hf => ?_, fun hf => ?_, by rw [List.length_append, h.len]; rfl, by omega, hsub⟩
    · obtain ⟨h3, h4, -⟩ := hb.yes hf
      rw [if_pos h3, ← hend hf, h4] at e
      refine ⟨h0, ?_, by show k + 1 + ps.length = _; simp only [List.length_cons] at h2; omega⟩
      rw [e, List.map_append]; rfl
    · rcases hb.no hf with h3 | h3
      · rw [if_neg (by rw [h3]; simp)] at e; exact .inr e
      · have h4 := blocksR_none hj h3
        rw [h4] at e
        simp only [ite_self] at e
        exact .inr e
theorem LeaI.next {f0 : Bool} {ps0 ps : List ByteArray} {k : Nat} {q : List Lease.Le} (h : LeaI f0 ps0 k q ps true) {t : Bs} (ht : t = partL true ps t) :
    LeaI f0 ps0 (k + 1) (q ++ [⟨numV t, numV (numR t)⟩]) (partP true ps) (partF true ps && numK t && numK (numR t)) := by
  obtain ⟨h0, h1, h2⟩ := h.yes rfl
  have e := leasesR_snoc k (ps0.map bs)
  rw [h1] at e
  cases ps with
  | nil =>
    simp only [List.map_nil] at e
    exact ⟨fun hf => by simp [partF] at hf, fun _ => .inr e, by rw [List.length_append, h.len]; rfl, by simp only [List.length_nil] at h2; omega, fun p hp => by simp [partP] at hp⟩
  | cons p ps =>
    have htp : t = bs p := ht
    subst htp
    simp only [List.map_cons] at e
    rw [leaseR_eq] at e
    have hfew : k + 1 ≤ ps0.length := by simp only [List.length_cons] at h2; omega
    have hpF : partF true (p :: ps) = true := rfl
    rw [hpF, Bool.true_and]
    refine ⟨fun hf => ?_, fun hf => ?_, by rw [List.length_append, h.len]; rfl, by omega, fun x hx => h.sub x (List.mem_cons_of_mem _ hx)⟩
    · rw [if_pos hf] at e
      exact ⟨h0, e, by show k + 1 + ps.length = _; simp only [List.length_cons] at h2; omega⟩
    · rw [if_neg (by rw [hf]; simp)] at e; exact .inr e
def six (l : Bs) : Bool := true && numK l && numK (numR l) && numK (numR (numR l)) && numK (numR (numR (numR l))) && numK (numR (numR (numR (numR l)))) && numK (numR (numR (numR (numR (numR l)))))
theorem takeNs6 (l : Bs) : takeNs 6 l = if six l = true then some ([numV l, numV (numR l), numV (numR (numR l)), numV (numR (numR (numR l))), numV (numR (numR (numR (numR l)))), numV (numR (numR (numR (numR (numR l)))))], numR (numR (numR (numR (numR (numR l)))))) else none := by
  rw [takeNs_succ, takeNs_succ, takeNs_succ, takeNs_succ, takeNs_succ, takeNs_succ, takeNs, six]
  cases numK l <;> cases numK (numR l) <;> cases numK (numR (numR l)) <;> cases numK (numR (numR (numR l))) <;> cases numK (numR (numR (numR (numR l)))) <;> cases numK (numR (numR (numR (numR (numR l))))) <;> rfl
theorem readP_yes {h : Bs} {t ps' ps'' : List Bs} {ns : List Nd} {ls : List Lease.Le} (hh : h.head? = some 84) (hk : six h.tail = true) (hn : nodesR (numV (numR (numR (numR (numR h.tail))))).toNat t = some (ns, ps')) (hl : leasesR (numV (numR (numR (numR (numR (numR h.tail)))))).toNat ps' = some (ls, ps'')) :
    readP (h :: t) = some ⟨numV h.tail, numV (numR h.tail), numV (numR (numR h.tail)), numV (numR (numR (numR h.tail))), ns, ls, nilV, nilV⟩ := by
  rw [readP, if_pos hh, takeNs6, if_pos hk]
  simp only [hn, hl]
theorem readP_no {h : Bs} {t : List Bs} (hno : six h.tail = false ∨ nodesR (numV (numR (numR (numR (numR h.tail))))).toNat t = none ∨ ∃ ns ps', nodesR (numV (numR (numR (numR (numR h.tail))))).toNat t = some (ns, ps') ∧ leasesR (numV (numR (numR (numR (numR (numR h.tail)))))).toNat ps' = none) : readP (h :: t) = none := by
  rw [readP]
  split
  · rw [takeNs6]
    rcases hno with h1 | h1 | ⟨ns, ps', h1, h2⟩
    · rw [if_neg (by rw [h1]; simp)]
    · split
      · rename_i h2
        split at h2
        · cases h2; simp only [h1]
        · cases h2
      · rfl
    · split
      · rename_i h3
        split at h3
        · cases h3; simp only [h1, h2]
        · cases h3
      · rfl
  · rfl
theorem readP_head {h : Bs} {t : List Bs} (hh : ¬ h.head? = some 84) : readP (h :: t) = none := by rw [readP, if_neg hh]
/-- What the reading has come to, when both loops have ended. -/
theorem read_end {h : Bs} {t qs qt : List ByteArray} {l1 l2 l3 l4 l5 l6 : Bs} {n1 n2 n3 n4 n5 n6 : Int} {f0 f g : Bool} {k i : Nat} {q : List Nd} {ql : List Lease.Le} (hh : h.head? = some 84) (e1 : h.tail = l1)
    (r1 : numR l1 = l2) (r2 : numR l2 = l3) (r3 : numR l3 = l4) (r4 : numR l4 = l5) (r5 : numR l5 = l6) (v1 : numV l1 = n1) (v2 : numV l2 = n2) (v3 : numV l3 = n3) (v4 : numV l4 = n4) (v5 : numV l5 = n5) (v6 : numV l6 = n6)
    (hf0 : f0 = (true && numK l1 && numK l2 && numK l3 && numK l4 && numK l5 && numK l6)) (HI : NodI f0 t k q qs f) (hk : k ≤ n5.toNat) (hend : f = true → k = n5.toNat) (HL : LeaI f qs i ql qt g) (hi : i ≤ n6.toNat) (hend2 : g = true → i = n6.toNat) :
    (g = true → readP (h :: t.map bs) = some ⟨n1, n2, n3, n4, q.map pur, ql, nilV, nilV⟩ ∧ q.length ≤ t.length + 1 ∧ ql.length ≤ t.length + 1) ∧ (g = false → readP (h :: t.map bs) = none) := by
  subst r1 r2 r3 r4 r5 e1
  subst v1 v2 v3 v4 v5 v6
  have hsix : six h.tail = f0 := hf0.symm
  refine ⟨fun hg => ?_, fun hg => ?_⟩
  · obtain ⟨a1, a2, a3⟩ := HL.yes hg
    obtain ⟨b1, b2, b3⟩ := HI.yes a1
    rw [hend a1] at b2
    rw [hend2 hg] at a2
    refine ⟨readP_yes hh (hsix.trans b1) b2 a2, ?_, ?_⟩
    · rw [HI.len]; exact HI.few
    · rw [HL.len]; have := HL.few; omega
  · refine readP_no ?_
    rw [hsix]
    cases hf : f with
    | false =>
      rcases HI.no hf with b | b
      · exact .inl b
      · exact .inr (.inl (nodesR_none hk b))
    | true =>
      obtain ⟨b1, b2, b3⟩ := HI.yes hf
      rcases HL.no hg with a | a
      · rw [hf] at a; cases a
      · rw [hend hf] at b2
        exact .inr (.inr ⟨_, _, b2, leasesR_none hi a⟩)
theorem partL_len {f : Bool} {ps : List ByteArray} {left : Bs} (h : ∀ p ∈ ps, (bs p).length ≤ 10000000) (hl : left.length ≤ 10000000) : (partL f ps left).length ≤ 10000000 := by
  cases f with
  | false => exact hl
  | true => cases ps with
    | nil => exact hl
    | cons p t => exact h p (by simp)
theorem partL_idem (ps : List ByteArray) (left : Bs) : partL true ps left = partL true ps (partL true ps left) := by cases ps <;> rfl
theorem partP_sub {f : Bool} {ps : List ByteArray} : ∀ p ∈ partP f ps, p ∈ ps := by
  intro p hp
  cases f with
  | false => exact hp
  | true => exact List.mem_of_mem_drop (i := 1) hp
end Go.Proofs.YtgpddngbccecfaaDoor.Image
