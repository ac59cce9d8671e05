/- Trees: how nodes among a statement's arguments are opened, with how much their blocks take. -/
import Derived.Test.YtgpddngbccecfaaDoorGb
import Derived.Test.YtgpddngbccecfaaDoorOw
namespace Go.Proofs.YtgpddngbccecfaaDoor.Tree
open Go.RowKit Go.ChangeShapes Go.WideShapes Go.ChangeAt
open Path (Bs bs)
set_option linter.unusedSimpArgs false
set_option linter.unusedVariables false
structure OkS (W : World) (x : Nd) : Prop where
  ok : OkN W x
  small : x.blocks.length ≤ 5864062014634
set_option maxRecDepth 100000 in
theorem open_blocksS {H : Type} {enc : TypeId × Value → H} {W : World} {n : Nat} {c : Value} {x : DataW H × List MemPlace} (hx : DataW.trod enc Tryd.prog W 0 (fun _ => true) true n 49 [c] = some x) (hs : SmallW Tryd.prog 49 x.1) : ∃ l, Rd W 3 encB c l ∧ (∀ b ∈ l, OkB b) ∧ l.length ≤ 5864062014634 := by
  have hv : ∃ a l c', c = .slice a l c' := by
    rcases Deep.open_slice Tryd.underlying49 hx with ⟨hcs, _⟩ | ⟨a, len, cap, _, _, _, _, hcs, _⟩
    · simp at hcs; exact ⟨_, _, _, hcs⟩
    · simp at hcs; exact ⟨_, _, _, hcs⟩
  obtain ⟨l, h1, h2, h3⟩ := open_rowsS 3 24 encB OkB Tryd.underlying49 (by kernel_rfl) (by decide) (by kernel_rfl) (fun n cs x hl hx _ => open_block hl hx) hv (d := x.1) (p := x.2) ⟨n, by obtain ⟨a, l, c', rfl⟩ := hv; exact hx⟩ hs
  exact ⟨l, h1, h2, by omega⟩
set_option maxRecDepth 100000 in
theorem open_nodeS {H : Type} {enc : TypeId × Value → H} {W : World} {n : Nat} {cs : List Value} {x : DataW H × List MemPlace} (hl : cs.length = 5) (hx : DataW.trod enc Tryd.prog W 0 (fun _ => true) true n 51 cs = some x) (hs : SmallW Tryd.prog 51 x.1) : ∃ a, cs = encN a ∧ OkS W a := by
  obtain ⟨y0, y1, y2, y3, y4, n1, hx1, h0, h1, h2, h3, h4⟩ := trod_struct5 Tryd.underlying51 hx
  rw [hx1] at hs
  have hs3 : SmallW Tryd.prog 49 y3.1 := small_struct (j := 3) Tryd.underlying51 hs rfl rfl
  obtain ⟨z0, e0, _, hz0⟩ := DataW.trod_string Tryd.underlying9 h0
  obtain ⟨z1, e1, _⟩ := DataW.trod_bool Tryd.underlying4 h1
  obtain ⟨z2, e2, _, hz2⟩ := DataW.trod_int Tryd.underlying3 h2
  obtain ⟨z4, e4, _, hz4⟩ := DataW.trod_int Tryd.underlying3 h4
  have hC : Tryd.prog.cellsOf 3 = 1 := by kernel_rfl
  have hS : Tryd.prog.cellsOf 9 = 1 := by kernel_rfl
  have hB : Tryd.prog.cellsOf 4 = 1 := by kernel_rfl
  have hBs : Tryd.prog.cellsOf 49 = 1 := by kernel_rfl
  match cs, hl with
  | [c0, c1, c2, c3, c4], _ =>
    simp [hC, hS, hB] at e0 e1 e2 e4
    simp only [hBs] at h3
    obtain ⟨l, g1, g2, g3⟩ := open_blocksS (c := c3) (by simpa using h3) hs3
    subst e0 e1 e2 e4
    exact ⟨⟨z0, z1, z2, l, c3, z4⟩, rfl, ⟨hz0, inI_of hz2, inI_of hz4, g1, g2⟩, g3⟩
set_option maxRecDepth 100000 in
theorem open_nodesS {H : Type} {enc : TypeId × Value → H} {W : World} {base : Nat} {v : Value} {d : DataW H} {p : List MemPlace} (hv : Value.okWide Tryd.prog W .any base 22 v) (h : DataW.Trod enc Tryd.prog W 0 (fun _ => true) true 22 v d p)
    (hs : SmallW Tryd.prog 22 d) : ∃ l : List Nd, RdN W v l ∧ (∀ x ∈ l, OkS W x) ∧ l.length ≤ 2199023255488 := by
  obtain ⟨l, h1, h2, h3⟩ := open_rowsS 5 64 encN (OkS W) Tryd.underlying22 (by kernel_rfl) (by decide) (by kernel_rfl) (fun n cs x hl hx hs => open_nodeS hl hx hs) (okWide_slice Tryd.underlying22 hv) h hs
  exact ⟨l, ⟨h1, fun x hx => (h2 x hx).ok.bl⟩, h2, by omega⟩
set_option maxRecDepth 100000 in
theorem open_nodeVS {H : Type} {enc : TypeId × Value → H} {W : World} {base : Nat} {v : Value} {d : DataW H} {p : List MemPlace} (hv : Value.okWide Tryd.prog W .any base 51 v) (h : DataW.Trod enc Tryd.prog W 0 (fun _ => true) true 51 v d p)
    (hs : SmallW Tryd.prog 51 d) : ∃ n : Nd, v = .agg #[.string n.path, .bool n.dir, .int .i64 n.quota, n.bv, .int .i64 n.writer] ∧ OkS W n := by
  obtain ⟨cs, rfl, hsz⟩ := okWide_struct Tryd.underlying51 hv
  have hC : Tryd.prog.cellsOf 51 = 5 := by kernel_rfl
  obtain ⟨fuel, hf⟩ := h
  have hf' : DataW.trod enc Tryd.prog W 0 (fun _ => true) true fuel 51 cs.toList = some (d, p) := by simpa [Value.cells] using hf
  obtain ⟨a, ha, hok⟩ := open_nodeS (by rw [Array.length_toList, hsz, hC]) hf' hs
  refine ⟨a, ?_, hok⟩
  have : cs = (encN a).toArray := by rw [← ha]
  rw [this]; rfl
end Go.Proofs.YtgpddngbccecfaaDoor.Tree
