/- Trees: how nodes among a statement's arguments are opened. -/
import Derived.Test.YtpghaghmejgjbaaGreatDoorTj
import Derived.Test.YtpghaghmejgjbaaGreatDoorOb
import Derived.Deep.Strs
namespace Go.Proofs.YtpghaghmejgjbaaGreatDoor.Tree
open Go.RowKit Go.ChangeShapes Go.WideShapes Go.ChangeAt
open Path (Bs bs mk bs_mk mk_bs tl_bs splitE splitL MaxC parD parE parN)
set_option linter.unusedSimpArgs false
set_option linter.unusedVariables false

theorem trod_struct5 {H : Type} {enc : TypeId × Value → H} {P : Program} {w : World} {base : Nat} {spare : Nat → Bool} {held : Bool} {t : TypeId} {f0 f1 f2 f3 f4 : Field} {fuel : Nat} {cs : List Value} {x : DataW H × List MemPlace} (ht : P.underlying t = some (.struct #[f0, f1, f2, f3, f4])) (h : DataW.trod enc P w base spare held fuel t cs = some x) :
    ∃ y0 y1 y2 y3 y4 n, x.1 = .agg [y0.1, y1.1, y2.1, y3.1, y4.1] ∧ DataW.trod enc P w base spare held n f0.type ((cs.drop f0.offset).take (P.cellsOf f0.type)) = some y0 ∧ DataW.trod enc P w base spare held n f1.type ((cs.drop f1.offset).take (P.cellsOf f1.type)) = some y1 ∧
      DataW.trod enc P w base spare held n f2.type ((cs.drop f2.offset).take (P.cellsOf f2.type)) = some y2 ∧ DataW.trod enc P w base spare held n f3.type ((cs.drop f3.offset).take (P.cellsOf f3.type)) = some y3 ∧ DataW.trod enc P w base spare held n f4.type ((cs.drop f4.offset).take (P.cellsOf f4.type)) = some y4 := by
  obtain ⟨xs, n, _, rfl, hl, hlen, hf⟩ := DataW.trod_struct ht h
  match xs, hlen with
  | [y0, y1, y2, y3, y4], _ => exact ⟨y0, y1, y2, y3, y4, n, by simp, by simpa using hf 0 f0 rfl, by simpa using hf 1 f1 rfl, by simpa using hf 2 f2 rfl, by simpa using hf 3 f3 rfl, by simpa using hf 4 f4 rfl⟩
structure OkB (b : Bl) : Prop where
  id : inI b.id
  gen : inI b.gen
  len : inI b.len
structure OkN (W : World) (x : Nd) : Prop where
  path : x.path.size ≤ maxLen
  quota : inI x.quota
  writer : inI x.writer
  bl : Rd W 3 encB x.bv x.blocks
  ok : ∀ b ∈ x.blocks, OkB b
theorem any_bound {H : Type} (d : DataW H) (k : Nat) : ∃ N, ∀ el sp, d = .slice el sp → (el.length + sp.length) * k ≤ N := by
  cases d with
  | slice el sp => exact ⟨(el.length + sp.length) * k, fun el' sp' e => by injection e with e1 e2; subst e1; subst e2; exact Nat.le_refl _⟩
  | _ => exact ⟨0, fun el sp e => by cases e⟩
set_option maxRecDepth 100000 in
theorem open_block {H : Type} {enc : TypeId × Value → H} {W : World} {n : Nat} {cs : List Value} {x : DataW H × List MemPlace} (hl : cs.length = 3) (hx : DataW.trod enc Tryz.prog W 0 (fun _ => true) true n 65 cs = some x) : ∃ b, cs = encB b ∧ OkB b := by
  obtain ⟨y0, y1, y2, n1, _, _, h0, h1, h2⟩ := Deep.trod_struct3 Tryz.underlying65 hx
  obtain ⟨z0, e0, _, hz0⟩ := DataW.trod_int Tryz.underlying3 h0
  obtain ⟨z1, e1, _, hz1⟩ := DataW.trod_int Tryz.underlying3 h1
  obtain ⟨z2, e2, _, hz2⟩ := DataW.trod_int Tryz.underlying3 h2
  refine ⟨⟨z0, z1, z2⟩, ?_, inI_of hz0, inI_of hz1, inI_of hz2⟩
  have hC : Tryz.prog.cellsOf 3 = 1 := by kernel_rfl
  match cs, hl with
  | [c0, c1, c2], _ =>
    simp [hC] at e0 e1 e2
    subst e0 e1 e2
    rfl
set_option maxRecDepth 100000 in
theorem open_blocks {H : Type} {enc : TypeId × Value → H} {W : World} {n : Nat} {c : Value} {x : DataW H × List MemPlace} (hx : DataW.trod enc Tryz.prog W 0 (fun _ => true) true n 23 [c] = some x) : ∃ l, Rd W 3 encB c l ∧ ∀ b ∈ l, OkB b := by
  have hv : ∃ a l c', c = .slice a l c' := by
    rcases Deep.open_slice Tryz.underlying23 hx with ⟨hcs, _⟩ | ⟨a, len, cap, _, _, _, _, hcs, _⟩
    · simp at hcs; exact ⟨_, _, _, hcs⟩
    · simp at hcs; exact ⟨_, _, _, hcs⟩
  obtain ⟨N, hN⟩ := any_bound x.1 (Tryz.prog.bytesOf 65)
  obtain ⟨l, h1, h2, _⟩ := open_rowsN 3 24 encB OkB Tryz.underlying23 (by kernel_rfl) (by decide) (by kernel_rfl) (fun n cs x hl hx => open_block hl hx) hv (d := x.1) (p := x.2) ⟨n, by obtain ⟨a, l, c', rfl⟩ := hv; exact hx⟩ N hN
  exact ⟨l, h1, h2⟩
set_option maxRecDepth 100000 in
theorem open_node {H : Type} {enc : TypeId × Value → H} {W : World} {n : Nat} {cs : List Value} {x : DataW H × List MemPlace} (hl : cs.length = 5) (hx : DataW.trod enc Tryz.prog W 0 (fun _ => true) true n 25 cs = some x) : ∃ a, cs = encN a ∧ OkN W a := by
  obtain ⟨y0, y1, y2, y3, y4, n1, _, h0, h1, h2, h3, h4⟩ := trod_struct5 Tryz.underlying25 hx
  obtain ⟨z0, e0, _, hz0⟩ := DataW.trod_string Tryz.underlying9 h0
  obtain ⟨z1, e1, _⟩ := DataW.trod_bool Tryz.underlying4 h1
  obtain ⟨z2, e2, _, hz2⟩ := DataW.trod_int Tryz.underlying3 h2
  obtain ⟨z4, e4, _, hz4⟩ := DataW.trod_int Tryz.underlying3 h4
  have hC : Tryz.prog.cellsOf 3 = 1 := by kernel_rfl
  have hS : Tryz.prog.cellsOf 9 = 1 := by kernel_rfl
  have hB : Tryz.prog.cellsOf 4 = 1 := by kernel_rfl
  have hBs : Tryz.prog.cellsOf 23 = 1 := by kernel_rfl
  match cs, hl with
  | [c0, c1, c2, c3, c4], _ =>
    simp [hC, hS, hB] at e0 e1 e2 e4
    simp only [hBs] at h3
    obtain ⟨l, g1, g2⟩ := open_blocks (c := c3) (by simpa using h3)
    subst e0 e1 e2 e4
    exact ⟨⟨z0, z1, z2, l, c3, z4⟩, rfl, hz0, inI_of hz2, inI_of hz4, g1, g2⟩
set_option maxRecDepth 100000 in
theorem open_nodes {H : Type} {enc : TypeId × Value → H} {W : World} {base : Nat} {v : Value} {d : DataW H} {p : List MemPlace} (hv : Value.okWide Tryz.prog W .any base 22 v) (h : DataW.Trod enc Tryz.prog W 0 (fun _ => true) true 22 v d p)
    (hs : ∀ e, Tryz.prog.underlying 22 = some (.slice e) → ∀ el sp, d = .slice el sp → (el.length + sp.length) * Tryz.prog.bytesOf e ≤ reachBytes) :
    ∃ l : List Nd, RdN W v l ∧ (∀ x ∈ l, OkN W x) ∧ l.length ≤ 8796093022208 := by
  obtain ⟨l, h1, h2, h3⟩ := open_rows 5 64 encN (OkN W) Tryz.underlying22 (by kernel_rfl) (by decide) (by kernel_rfl) (fun n cs x hl hx => open_node hl hx) (okWide_slice Tryz.underlying22 hv) h (hs _ Tryz.underlying22)
  exact ⟨l, ⟨h1, fun x hx => (h2 x hx).bl⟩, h2, by omega⟩
end Go.Proofs.YtpghaghmejgjbaaGreatDoor.Tree
