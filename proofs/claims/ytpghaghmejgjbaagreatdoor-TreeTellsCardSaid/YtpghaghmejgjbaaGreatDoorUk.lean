/- Trees: how a node among a statement's arguments is opened. -/
import Derived.Test.YtpghaghmejgjbaaGreatDoorGb
namespace Go.Proofs.YtpghaghmejgjbaaGreatDoor.Tree
open Go.RowKit Go.ChangeShapes Go.WideShapes Go.ChangeAt
set_option maxRecDepth 100000 in
theorem open_nodeV {H : Type} {enc : TypeId × Value → H} {W : World} {base : Nat} {v : Value} {d : DataW H} {p : List MemPlace} (hv : Value.okWide Tryz.prog W .any base 25 v) (h : DataW.Trod enc Tryz.prog W 0 (fun _ => true) true 25 v d p)
    (_hs : ∀ e, Tryz.prog.underlying 25 = some (.slice e) → ∀ el sp, d = .slice el sp → (el.length + sp.length) * Tryz.prog.bytesOf e ≤ reachBytes) :
    ∃ n : Nd, v = .agg #[.string n.path, .bool n.dir, .int .i64 n.quota, n.bv, .int .i64 n.writer] ∧ OkN W n := by
  obtain ⟨cs, rfl, hsz⟩ := okWide_struct Tryz.underlying25 hv
  have hC : Tryz.prog.cellsOf 25 = 5 := by kernel_rfl
  obtain ⟨fuel, hf⟩ := h
  have hf' : DataW.trod enc Tryz.prog W 0 (fun _ => true) true fuel 25 cs.toList = some (d, p) := by simpa [Value.cells] using hf
  obtain ⟨a, ha, hok⟩ := open_node (by rw [Array.length_toList, hsz, hC]) hf'
  refine ⟨a, ?_, hok⟩
  have : cs = (encN a).toArray := by rw [← ha]
  rw [this]; rfl
end Go.Proofs.YtpghaghmejgjbaaGreatDoor.Tree
