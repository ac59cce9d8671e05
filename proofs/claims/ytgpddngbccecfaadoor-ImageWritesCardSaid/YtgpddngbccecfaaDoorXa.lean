/- Spaces: how a space among a statement's arguments is opened. -/
import Derived.Test.YtgpddngbccecfaaDoorVb
import Derived.Test.YtgpddngbccecfaaDoorUs
namespace Go.Proofs.YtgpddngbccecfaaDoor.Space
open Go.RowKit Go.ChangeShapes Go.WideShapes Go.ChangeAt
open Path (Bs bs)
open Tree
set_option linter.unusedSimpArgs false
set_option linter.unusedVariables false
theorem trod_struct2 {H : Type} {enc : TypeId × Value → H} {P : Program} {w : World} {base : Nat} {spare : Nat → Bool} {held : Bool} {t : TypeId} {f0 f1 : Field} {fuel : Nat} {cs : List Value} {x : DataW H × List MemPlace} (ht : P.underlying t = some (.struct #[f0, f1])) (h : DataW.trod enc P w base spare held fuel t cs = some x) :
    ∃ y0 y1 n, x.1 = .agg [y0.1, y1.1] ∧ DataW.trod enc P w base spare held n f0.type ((cs.drop f0.offset).take (P.cellsOf f0.type)) = some y0 ∧ DataW.trod enc P w base spare held n f1.type ((cs.drop f1.offset).take (P.cellsOf f1.type)) = some y1 := by
  obtain ⟨xs, n, _, rfl, hl, hlen, hf⟩ := DataW.trod_struct ht h
  match xs, hlen with
  | [y0, y1], _ => exact ⟨y0, y1, n, by simp, by simpa using hf 0 f0 rfl, by simpa using hf 1 f1 rfl⟩
theorem trod_struct6 {H : Type} {enc : TypeId × Value → H} {P : Program} {w : World} {base : Nat} {spare : Nat → Bool} {held : Bool} {t : TypeId} {f0 f1 f2 f3 f4 f5 : Field} {fuel : Nat} {cs : List Value} {x : DataW H × List MemPlace} (ht : P.underlying t = some (.struct #[f0, f1, f2, f3, f4, f5])) (h : DataW.trod enc P w base spare held fuel t cs = some x) :
    ∃ y0 y1 y2 y3 y4 y5 n, x.1 = .agg [y0.1, y1.1, y2.1, y3.1, y4.1, y5.1] ∧ DataW.trod enc P w base spare held n f0.type ((cs.drop f0.offset).take (P.cellsOf f0.type)) = some y0 ∧ DataW.trod enc P w base spare held n f1.type ((cs.drop f1.offset).take (P.cellsOf f1.type)) = some y1 ∧
      DataW.trod enc P w base spare held n f2.type ((cs.drop f2.offset).take (P.cellsOf f2.type)) = some y2 ∧ DataW.trod enc P w base spare held n f3.type ((cs.drop f3.offset).take (P.cellsOf f3.type)) = some y3 ∧ DataW.trod enc P w base spare held n f4.type ((cs.drop f4.offset).take (P.cellsOf f4.type)) = some y4 ∧ DataW.trod enc P w base spare held n f5.type ((cs.drop f5.offset).take (P.cellsOf f5.type)) = some y5 := by
  obtain ⟨xs, n, _, rfl, hl, hlen, hf⟩ := DataW.trod_struct ht h
  match xs, hlen with
  | [y0, y1, y2, y3, y4, y5], _ => exact ⟨y0, y1, y2, y3, y4, y5, n, by simp, by simpa using hf 0 f0 rfl, by simpa using hf 1 f1 rfl, by simpa using hf 2 f2 rfl, by simpa using hf 3 f3 rfl, by simpa using hf 4 f4 rfl, by simpa using hf 5 f5 rfl⟩
structure OkLe (x : Lease.Le) : Prop where
  c : inI x.c
  u : inI x.u
structure OkSp (W : World) (s : Sp) : Prop where
  rd : RdSp W s
  txid : inI s.txid
  nb : inI s.nb
  ng : inI s.ng
  now : inI s.now
  ok : ∀ x ∈ s.nodes, OkS W x
  le : ∀ x ∈ s.leases, OkLe x
  nn : s.nodes.length ≤ 2199023255488
theorem cell_slice {H : Type} {enc : TypeId × Value → H} {W : World} {n : Nat} {t e : TypeId} {c : Value} {x : DataW H × List MemPlace} (ht : Tryd.prog.underlying t = some (.slice e)) (hx : DataW.trod enc Tryd.prog W 0 (fun _ => true) true n t [c] = some x) : ∃ a l c', c = .slice a l c' := by
  rcases Deep.open_slice ht hx with ⟨hcs, _⟩ | ⟨a, len, cap, _, _, _, _, hcs, _⟩
  · simp at hcs; exact ⟨_, _, _, hcs⟩
  · simp at hcs; exact ⟨_, _, _, hcs⟩
set_option maxRecDepth 100000 in
theorem open_lease {H : Type} {enc : TypeId × Value → H} {W : World} {n : Nat} {cs : List Value} {x : DataW H × List MemPlace} (hl : cs.length = 2) (hx : DataW.trod enc Tryd.prog W 0 (fun _ => true) true n 55 cs = some x) : ∃ a, cs = Lease.encL a ∧ OkLe a := by
  obtain ⟨y0, y1, n1, _, h0, h1⟩ := trod_struct2 Tryd.underlying55 hx
  obtain ⟨z0, e0, _, hz0⟩ := DataW.trod_int Tryd.underlying3 h0
  obtain ⟨z1, e1, _, hz1⟩ := DataW.trod_int Tryd.underlying3 h1
  refine ⟨⟨z0, z1⟩, ?_, inI_of hz0, inI_of hz1⟩
  have hC : Tryd.prog.cellsOf 3 = 1 := by kernel_rfl
  match cs, hl with
  | [c0, c1], _ =>
    simp [hC] at e0 e1
    subst e0 e1
    rfl
set_option maxRecDepth 100000 in
theorem open_nodesC {H : Type} {enc : TypeId × Value → H} {W : World} {n : Nat} {c : Value} {x : DataW H × List MemPlace} (hx : DataW.trod enc Tryd.prog W 0 (fun _ => true) true n 22 [c] = some x) (hs : SmallW Tryd.prog 22 x.1) : ∃ l, RdN W c l ∧ (∀ x ∈ l, OkS W x) ∧ l.length ≤ 2199023255488 := by
  have hv := cell_slice Tryd.underlying22 hx
  obtain ⟨l, h1, h2, h3⟩ := open_rowsS 5 64 encN (OkS W) Tryd.underlying22 (by kernel_rfl) (by decide) (by kernel_rfl) (fun n cs x hl hx hs => open_nodeS hl hx hs) hv (d := x.1) (p := x.2) ⟨n, by obtain ⟨a, l, c', rfl⟩ := hv; exact hx⟩ hs
  exact ⟨l, ⟨h1, fun x hx => (h2 x hx).ok.bl⟩, h2, by omega⟩
set_option maxRecDepth 100000 in
theorem open_leasesC {H : Type} {enc : TypeId × Value → H} {W : World} {n : Nat} {c : Value} {x : DataW H × List MemPlace} (hx : DataW.trod enc Tryd.prog W 0 (fun _ => true) true n 23 [c] = some x) (hs : SmallW Tryd.prog 23 x.1) : ∃ l, Rd W 2 Lease.encL c l ∧ (∀ x ∈ l, OkLe x) ∧ l.length ≤ 8796093022208 := by
  have hv := cell_slice Tryd.underlying23 hx
  obtain ⟨l, h1, h2, h3⟩ := open_rowsS 2 16 Lease.encL OkLe Tryd.underlying23 (by kernel_rfl) (by decide) (by kernel_rfl) (fun n cs x hl hx _ => open_lease hl hx) hv (d := x.1) (p := x.2) ⟨n, by obtain ⟨a, l, c', rfl⟩ := hv; exact hx⟩ hs
  exact ⟨l, h1, h2, by omega⟩
set_option maxRecDepth 100000 in
theorem open_spaceS {H : Type} {enc : TypeId × Value → H} {W : World} {n : Nat} {cs : List Value} {x : DataW H × List MemPlace} (hl : cs.length = 6) (hx : DataW.trod enc Tryd.prog W 0 (fun _ => true) true n 25 cs = some x) (hs : SmallW Tryd.prog 25 x.1) : ∃ s : Sp, cs = (spC s).toList ∧ OkSp W s := by
  obtain ⟨y0, y1, y2, y3, y4, y5, n1, hx1, h0, h1, h2, h3, h4, h5⟩ := trod_struct6 Tryd.underlying25 hx
  rw [hx1] at hs
  have hs4 : SmallW Tryd.prog 22 y4.1 := small_struct (j := 4) Tryd.underlying25 hs rfl rfl
  have hs5 : SmallW Tryd.prog 23 y5.1 := small_struct (j := 5) Tryd.underlying25 hs rfl rfl
  obtain ⟨z0, e0, _, hz0⟩ := DataW.trod_int Tryd.underlying3 h0
  obtain ⟨z1, e1, _, hz1⟩ := DataW.trod_int Tryd.underlying3 h1
  obtain ⟨z2, e2, _, hz2⟩ := DataW.trod_int Tryd.underlying3 h2
  obtain ⟨z3, e3, _, hz3⟩ := DataW.trod_int Tryd.underlying3 h3
  have hC : Tryd.prog.cellsOf 3 = 1 := by kernel_rfl
  have hN : Tryd.prog.cellsOf 22 = 1 := by kernel_rfl
  have hL : Tryd.prog.cellsOf 23 = 1 := by kernel_rfl
  match cs, hl with
  | [c0, c1, c2, c3, c4, c5], _ =>
    simp [hC] at e0 e1 e2 e3
    simp only [hN] at h4
    simp only [hL] at h5
    obtain ⟨l, g1, g2, g3⟩ := open_nodesC (c := c4) (by simpa using h4) hs4
    obtain ⟨m, k1, k2, k3⟩ := open_leasesC (c := c5) (by simpa using h5) hs5
    subst e0 e1 e2 e3
    exact ⟨⟨z0, z1, z2, z3, l, m, c4, c5⟩, rfl, ⟨g1, k1, Nat.le_trans g3 (by decide), k3⟩, inI_of hz0, inI_of hz1, inI_of hz2, inI_of hz3, g2, k2, g3⟩
set_option maxRecDepth 100000 in
theorem open_spaceVS {H : Type} {enc : TypeId × Value → H} {W : World} {base : Nat} {v : Value} {d : DataW H} {p : List MemPlace} (hv : Value.okWide Tryd.prog W .any base 25 v) (h : DataW.Trod enc Tryd.prog W 0 (fun _ => true) true 25 v d p)
    (hs : SmallW Tryd.prog 25 d) : ∃ s : Sp, v = .agg (spC s) ∧ OkSp W s := by
  obtain ⟨cs, rfl, hsz⟩ := okWide_struct Tryd.underlying25 hv
  have hC : Tryd.prog.cellsOf 25 = 6 := by kernel_rfl
  obtain ⟨fuel, hf⟩ := h
  have hf' : DataW.trod enc Tryd.prog W 0 (fun _ => true) true fuel 25 cs.toList = some (d, p) := by simpa [Value.cells] using hf
  obtain ⟨a, ha, hok⟩ := open_spaceS (by rw [Array.length_toList, hsz, hC]) hf' hs
  refine ⟨a, ?_, hok⟩
  have : cs = spC a := by rw [show spC a = (spC a).toList.toArray by simp, ← ha]
  rw [this]
end Go.Proofs.YtgpddngbccecfaaDoor.Space
