/- Parts of the proof, one behind the other: Ow, Us, Xa, Xb. -/
import Derived.Test.YtdfckkadmgmcaaaGreatDoorGa
import Derived.Test.YtdfckkadmgmcaaaGreatDoorGb
import Derived.Test.YtdfckkadmgmcaaaGreatDoorGf
import Derived.Test.YtdfckkadmgmcaaaGreatDoorGh
/- How the slices among a statement's arguments are opened, whatever slices lie in them: none takes more than the reach. -/
namespace Go.Proofs.YtdfckkadmgmcaaaGreatDoor
open Go.RowKit Go.ChangeShapes Go.WideShapes Go.ChangeAt
set_option linter.unusedSimpArgs false

/-- Every slice, text and map in it takes no more than the reach. -/
def SmallW {H : Type} (P : Program) (t : TypeId) (d : DataW H) : Prop := ∀ n ∈ d.weights P t, n ≤ reachBytes
theorem small_arg {H : Type} {P : Program} {ts : List TypeId} {ds : List (DataW H)} (h : (DataW.weightsEach P ts ds).all (· ≤ reachBytes) = true) {j : Nat} {t : TypeId} {d : DataW H} (ht : ts[j]? = some t) (hd : ds[j]? = some d) : SmallW P t d :=
  fun n hn => by simpa using List.all_eq_true.1 h n (DataW.weights_mem_each ht hd n hn)
theorem small_all {H : Type} {P : Program} {e : TypeId} : ∀ {l : List (DataW H)} {d : DataW H}, d ∈ l → ∀ n ∈ d.weights P e, n ∈ DataW.weightsAll P e l
  | x :: r, d, hd, n, hn => by
    rw [DataW.weightsAll, List.mem_append]
    rcases List.mem_cons.1 hd with rfl | hd
    · exact .inl hn
    · exact .inr (small_all hd n hn)
theorem small_slice {H : Type} {P : Program} {t e : TypeId} {el sp : List (DataW H)} (hu : P.underlying t = some (.slice e)) (h : SmallW P t (.slice el sp)) : (∀ d ∈ el, SmallW P e d) ∧ (el.length + sp.length) * P.bytesOf e ≤ reachBytes := by
  simp only [SmallW, DataW.weights, hu, List.mem_cons, List.mem_append] at h
  exact ⟨fun d hd n hn => h n (.inr (.inl (small_all hd n hn))), h _ (.inl rfl)⟩
theorem small_struct {H : Type} {P : Program} {t : TypeId} {fs : Array Field} {l : List (DataW H)} (hu : P.underlying t = some (.struct fs)) (h : SmallW P t (.agg l)) {j : Nat} {f : Field} {d : DataW H} (hf : fs[j]? = some f) (hd : l[j]? = some d) : SmallW P f.type d := by
  simp only [SmallW, DataW.weights, hu] at h
  exact fun n hn => h n (DataW.weights_mem_each (by rw [List.getElem?_map, Array.getElem?_toList, hf]; rfl) hd n hn)
theorem small_string {H : Type} {P : Program} {t : TypeId} {l : List UInt8} (h : SmallW (H := H) P t (.lit (.string l))) : l.length ≤ reachBytes := h _ (by simp [DataW.weights])
/-- A slice that came in, its elements of whatever kind: it reads as a list. -/
theorem open_rowsS {α H : Type} {enc : TypeId × Value → H} {P : Program} {W : World} {t e : TypeId} (size bytes : Nat) (encE : α → List Value) (ok : α → Prop) (ht : P.underlying t = some (.slice e)) (hc : P.cellsOf e = size) (hp : 0 < size) (hby : P.bytesOf e = bytes)
    (hel : ∀ n cs x, cs.length = size → DataW.trod enc P W 0 (fun _ => true) true n e cs = some x → SmallW P e x.1 → ∃ a, cs = encE a ∧ ok a)
    {v : Value} {d : DataW H} {p : List MemPlace} (hv : ∃ a l c, v = .slice a l c) (h : DataW.Trod enc P W 0 (fun _ => true) true t v d p)
    (hs : SmallW P t d) :
    ∃ l : List α, Rd W size encE v l ∧ (∀ a ∈ l, ok a) ∧ l.length * bytes ≤ 140737488351232 := by
  obtain ⟨a0, len0, cap0, rfl⟩ := hv
  obtain ⟨fuel, hf⟩ := h
  simp only [Value.cells] at hf
  rcases Deep.open_slice ht hf with ⟨hcs, _⟩ | ⟨a, len, cap, m, n, D, Pl, hcs, _, hl, hm, hmm, hx, hall⟩
  · simp at hcs
    obtain ⟨rfl, rfl, rfl⟩ := hcs
    exact ⟨[], ⟨none, 0, rfl, Nat.le_refl _, by decide, fun i x hx => (by simp at hx)⟩, fun a ha => (by cases ha), by simp⟩
  · simp at hcs
    obtain ⟨rfl, rfl, rfl⟩ := hcs
    simp only [if_true] at hmm
    subst hmm
    rw [hc] at hall
    have hdd : d = .slice ((List.range len0).map D) ((List.range (m - len0)).map fun j => D (len0 + j)) := congrArg Prod.fst hx
    rw [hdd] at hs
    have hS := small_slice ht hs
    have hall' : ∀ i, i < len0 → ∃ z : α, W.cells? 0 (a.add (i * size)) size = some (encE z) ∧ ok z := fun i hi => by
      obtain ⟨cs', h1, h2⟩ := hall i (by omega)
      obtain ⟨_, hlen, _⟩ := World.cells?_some h1
      obtain ⟨z, rfl, hz⟩ := hel _ _ _ hlen h2 (hS.1 (D i) (List.mem_map_of_mem (List.mem_range.2 hi)))
      exact ⟨z, h1, hz⟩
    classical
    refine ⟨(List.range len0).pmap (fun i hi => Classical.choose (hall' i hi)) (fun i hi => List.mem_range.1 hi), ⟨some a, m, by simp, by simpa using hl, hm, fun i x hx' => ?_⟩, fun z hz => ?_, ?_⟩
    · have hi : i < len0 := by have := (List.getElem?_eq_some_iff.1 hx').1; simpa using this
      rw [List.getElem?_pmap] at hx'
      simp only [List.getElem?_range hi, Option.pmap_some, Option.some.injEq] at hx'
      have hs := Classical.choose_spec (hall' i hi)
      rw [hx'] at hs
      obtain ⟨hcs, hok⟩ := hs
      obtain ⟨hb, hlen, hcell⟩ := World.cells?_some hcs
      have hspot : a = ⟨a.block, a.off, none⟩ := by
        obtain ⟨z0, hz0, _⟩ := hall' 0 (by omega)
        rw [Nat.zero_mul, show a.add 0 = a from rfl] at hz0
        obtain ⟨_, hl0, hc0⟩ := World.cells?_some hz0
        have h00 := hc0 0 hp
        rw [List.getElem?_eq_getElem (by omega)] at h00
        rw [show a.add 0 = a from rfl] at h00
        cases a with
        | mk b o s =>
          cases s with
          | none => rfl
          | some s => simp [World.cell?] at h00; split at h00 <;> simp at h00
      refine ⟨a.block, a.off, by rw [← hspot], ?_, fun j u hu => ?_⟩
      · have h00 := hcell 0 hp
        rw [List.getElem?_eq_getElem (by omega)] at h00
        have := World.block_lt_of_cell? W _ h00
        rw [hspot] at this
        simpa [Addr.add_lit] using this
      · have := (hcell j (by have := (List.getElem?_eq_some_iff.1 hu).1; omega)).trans hu
        rw [hspot] at this
        simpa [Addr.add_lit] using this
    · obtain ⟨i, hi, rfl⟩ := List.mem_pmap.1 hz
      exact (Classical.choose_spec (hall' i (List.mem_range.1 hi))).2
    · have := hS.2
      rw [hby] at this
      simp only [List.length_map, List.length_range, reachBytes] at this
      simp only [List.length_pmap, List.length_range]
      exact Nat.le_trans (Nat.mul_le_mul_right _ (by omega)) this


end Go.Proofs.YtdfckkadmgmcaaaGreatDoor

/- Trees: how nodes among a statement's arguments are opened, with how much their blocks take. -/
namespace Go.Proofs.YtdfckkadmgmcaaaGreatDoor.Tree
open Go.RowKit Go.ChangeShapes Go.WideShapes Go.ChangeAt
open Path (Bs bs)
set_option linter.unusedSimpArgs false
set_option linter.unusedVariables false
structure OkS (W : World) (x : Nd) : Prop where
  ok : OkN W x
  small : x.blocks.length ≤ 5864062014634
set_option maxRecDepth 100000 in
theorem open_blocksS {H : Type} {enc : TypeId × Value → H} {W : World} {n : Nat} {c : Value} {x : DataW H × List MemPlace} (hx : DataW.trod enc Tryz.prog W 0 (fun _ => true) true n 33 [c] = some x) (hs : SmallW Tryz.prog 33 x.1) : ∃ l, Rd W 3 encB c l ∧ (∀ b ∈ l, OkB b) ∧ l.length ≤ 5864062014634 := by
  have hv : ∃ a l c', c = .slice a l c' := by
    rcases Deep.open_slice Tryz.underlying33 hx with ⟨hcs, _⟩ | ⟨a, len, cap, _, _, _, _, hcs, _⟩
    · simp at hcs; exact ⟨_, _, _, hcs⟩
    · simp at hcs; exact ⟨_, _, _, hcs⟩
  obtain ⟨l, h1, h2, h3⟩ := open_rowsS 3 24 encB OkB Tryz.underlying33 (by kernel_rfl) (by decide) (by kernel_rfl) (fun n cs x hl hx _ => open_block hl hx) hv (d := x.1) (p := x.2) ⟨n, by obtain ⟨a, l, c', rfl⟩ := hv; exact hx⟩ hs
  exact ⟨l, h1, h2, by omega⟩
set_option maxRecDepth 100000 in
theorem open_nodeS {H : Type} {enc : TypeId × Value → H} {W : World} {n : Nat} {cs : List Value} {x : DataW H × List MemPlace} (hl : cs.length = 5) (hx : DataW.trod enc Tryz.prog W 0 (fun _ => true) true n 35 cs = some x) (hs : SmallW Tryz.prog 35 x.1) : ∃ a, cs = encN a ∧ OkS W a := by
  obtain ⟨y0, y1, y2, y3, y4, n1, hx1, h0, h1, h2, h3, h4⟩ := trod_struct5 Tryz.underlying35 hx
  rw [hx1] at hs
  have hs3 : SmallW Tryz.prog 33 y3.1 := small_struct (j := 3) Tryz.underlying35 hs rfl rfl
  obtain ⟨z0, e0, _, hz0⟩ := DataW.trod_string Tryz.underlying9 h0
  obtain ⟨z1, e1, _⟩ := DataW.trod_bool Tryz.underlying4 h1
  obtain ⟨z2, e2, _, hz2⟩ := DataW.trod_int Tryz.underlying3 h2
  obtain ⟨z4, e4, _, hz4⟩ := DataW.trod_int Tryz.underlying3 h4
  have hC : Tryz.prog.cellsOf 3 = 1 := by kernel_rfl
  have hS : Tryz.prog.cellsOf 9 = 1 := by kernel_rfl
  have hB : Tryz.prog.cellsOf 4 = 1 := by kernel_rfl
  have hBs : Tryz.prog.cellsOf 33 = 1 := by kernel_rfl
  match cs, hl with
  | [c0, c1, c2, c3, c4], _ =>
    simp [hC, hS, hB] at e0 e1 e2 e4
    simp only [hBs] at h3
    obtain ⟨l, g1, g2, g3⟩ := open_blocksS (c := c3) (by simpa using h3) hs3
    subst e0 e1 e2 e4
    exact ⟨⟨z0, z1, z2, l, c3, z4⟩, rfl, ⟨hz0, inI_of hz2, inI_of hz4, g1, g2⟩, g3⟩
set_option maxRecDepth 100000 in
theorem open_nodesS {H : Type} {enc : TypeId × Value → H} {W : World} {base : Nat} {v : Value} {d : DataW H} {p : List MemPlace} (hv : Value.okWide Tryz.prog W .any base 24 v) (h : DataW.Trod enc Tryz.prog W 0 (fun _ => true) true 24 v d p)
    (hs : SmallW Tryz.prog 24 d) : ∃ l : List Nd, RdN W v l ∧ (∀ x ∈ l, OkS W x) ∧ l.length ≤ 2199023255488 := by
  obtain ⟨l, h1, h2, h3⟩ := open_rowsS 5 64 encN (OkS W) Tryz.underlying24 (by kernel_rfl) (by decide) (by kernel_rfl) (fun n cs x hl hx hs => open_nodeS hl hx hs) (okWide_slice Tryz.underlying24 hv) h hs
  exact ⟨l, ⟨h1, fun x hx => (h2 x hx).ok.bl⟩, h2, by omega⟩
set_option maxRecDepth 100000 in
theorem open_nodeVS {H : Type} {enc : TypeId × Value → H} {W : World} {base : Nat} {v : Value} {d : DataW H} {p : List MemPlace} (hv : Value.okWide Tryz.prog W .any base 35 v) (h : DataW.Trod enc Tryz.prog W 0 (fun _ => true) true 35 v d p)
    (hs : SmallW Tryz.prog 35 d) : ∃ n : Nd, v = .agg #[.string n.path, .bool n.dir, .int .i64 n.quota, n.bv, .int .i64 n.writer] ∧ OkS W n := by
  obtain ⟨cs, rfl, hsz⟩ := okWide_struct Tryz.underlying35 hv
  have hC : Tryz.prog.cellsOf 35 = 5 := by kernel_rfl
  obtain ⟨fuel, hf⟩ := h
  have hf' : DataW.trod enc Tryz.prog W 0 (fun _ => true) true fuel 35 cs.toList = some (d, p) := by simpa [Value.cells] using hf
  obtain ⟨a, ha, hok⟩ := open_nodeS (by rw [Array.length_toList, hsz, hC]) hf' hs
  refine ⟨a, ?_, hok⟩
  have : cs = (encN a).toArray := by rw [← ha]
  rw [this]; rfl
end Go.Proofs.YtdfckkadmgmcaaaGreatDoor.Tree

/- Spaces: how a space among a statement's arguments is opened. -/
namespace Go.Proofs.YtdfckkadmgmcaaaGreatDoor.Space
open Go.RowKit Go.ChangeShapes Go.WideShapes Go.ChangeAt
open Path (Bs bs)
open Tree
set_option linter.unusedSimpArgs false
set_option linter.unusedVariables false
theorem trod_struct2 {H : Type} {enc : TypeId × Value → H} {P : Program} {w : World} {base : Nat} {spare : Nat → Bool} {held : Bool} {t : TypeId} {f0 f1 : Field} {fuel : Nat} {cs : List Value} {x : DataW H × List MemPlace} (ht : P.underlying t = some (.struct #[f0, f1])) (h : DataW.trod enc P w base spare held fuel t cs = some x) :
    ∃ y0 y1 n, x.1 = .agg [y0.1, y1.1] ∧ DataW.trod enc P w base spare held n f0.type ((cs.drop f0.offset).take (P.cellsOf f0.type)) = some y0 ∧ DataW.trod enc P w base spare held n f1.type ((cs.drop f1.offset).take (P.cellsOf f1.type)) = some y1 := by
  obtain ⟨xs, n, _, rfl, hl, hlen, hf⟩ := DataW.trod_struct ht h
  match xs, hlen with
  | [y0, y1], _ => exact ⟨y0, y1, n, by simp, by simpa using hf 0 f0 rfl, by simpa using hf 1 f1 rfl⟩
theorem trod_struct6 {H : Type} {enc : TypeId × Value → H} {P : Program} {w : World} {base : Nat} {spare : Nat → Bool} {held : Bool} {t : TypeId} {f0 f1 f2 f3 f4 f5 : Field} {fuel : Nat} {cs : List Value} {x : DataW H × List MemPlace} (ht : P.underlying t = some (.struct #[f0, f1, f2, f3, f4, f5])) (h : DataW.trod enc P w base spare held fuel t cs = some x) :
    ∃ y0 y1 y2 y3 y4 y5 n, x.1 = .agg [y0.1, y1.1, y2.1, y3.1, y4.1, y5.1] ∧ DataW.trod enc P w base spare held n f0.type ((cs.drop f0.offset).take (P.cellsOf f0.type)) = some y0 ∧ DataW.trod enc P w base spare held n f1.type ((cs.drop f1.offset).take (P.cellsOf f1.type)) = some y1 ∧
      DataW.trod enc P w base spare held n f2.type ((cs.drop f2.offset).take (P.cellsOf f2.type)) = some y2 ∧ DataW.trod enc P w base spare held n f3.type ((cs.drop f3.offset).take (P.cellsOf f3.type)) = some y3 ∧ DataW.trod enc P w base spare held n f4.type ((cs.drop f4.offset).take (P.cellsOf f4.type)) = some y4 ∧ DataW.trod enc P w base spare held n f5.type ((cs.drop f5.offset).take (P.cellsOf f5.type)) = some y5 := by
  obtain ⟨xs, n, _, rfl, hl, hlen, hf⟩ := DataW.trod_struct ht h
  match xs, hlen with
  | [y0, y1, y2, y3, y4, y5], _ => exact ⟨y0, y1, y2, y3, y4, y5, n, by simp, by simpa using hf 0 f0 rfl, by simpa using hf 1 f1 rfl, by simpa using hf 2 f2 rfl, by simpa using hf 3 f3 rfl, by simpa using hf 4 f4 rfl, by simpa using hf 5 f5 rfl⟩
structure OkLe (x : Lease.Le) : Prop where
  c : inI x.c
  u : inI x.u
structure OkSp (W : World) (s : Sp) : Prop where
  rd : RdSp W s
  txid : inI s.txid
  nb : inI s.nb
  ng : inI s.ng
  now : inI s.now
  ok : ∀ x ∈ s.nodes, OkS W x
  le : ∀ x ∈ s.leases, OkLe x
  nn : s.nodes.length ≤ 2199023255488
theorem cell_slice {H : Type} {enc : TypeId × Value → H} {W : World} {n : Nat} {t e : TypeId} {c : Value} {x : DataW H × List MemPlace} (ht : Tryz.prog.underlying t = some (.slice e)) (hx : DataW.trod enc Tryz.prog W 0 (fun _ => true) true n t [c] = some x) : ∃ a l c', c = .slice a l c' := by
  rcases Deep.open_slice ht hx with ⟨hcs, _⟩ | ⟨a, len, cap, _, _, _, _, hcs, _⟩
  · simp at hcs; exact ⟨_, _, _, hcs⟩
  · simp at hcs; exact ⟨_, _, _, hcs⟩
set_option maxRecDepth 100000 in
theorem open_lease {H : Type} {enc : TypeId × Value → H} {W : World} {n : Nat} {cs : List Value} {x : DataW H × List MemPlace} (hl : cs.length = 2) (hx : DataW.trod enc Tryz.prog W 0 (fun _ => true) true n 49 cs = some x) : ∃ a, cs = Lease.encL a ∧ OkLe a := by
  obtain ⟨y0, y1, n1, _, h0, h1⟩ := trod_struct2 Tryz.underlying49 hx
  obtain ⟨z0, e0, _, hz0⟩ := DataW.trod_int Tryz.underlying3 h0
  obtain ⟨z1, e1, _, hz1⟩ := DataW.trod_int Tryz.underlying3 h1
  refine ⟨⟨z0, z1⟩, ?_, inI_of hz0, inI_of hz1⟩
  have hC : Tryz.prog.cellsOf 3 = 1 := by kernel_rfl
  match cs, hl with
  | [c0, c1], _ =>
    simp [hC] at e0 e1
    subst e0 e1
    rfl
set_option maxRecDepth 100000 in
theorem open_nodesC {H : Type} {enc : TypeId × Value → H} {W : World} {n : Nat} {c : Value} {x : DataW H × List MemPlace} (hx : DataW.trod enc Tryz.prog W 0 (fun _ => true) true n 24 [c] = some x) (hs : SmallW Tryz.prog 24 x.1) : ∃ l, RdN W c l ∧ (∀ x ∈ l, OkS W x) ∧ l.length ≤ 2199023255488 := by
  have hv := cell_slice Tryz.underlying24 hx
  obtain ⟨l, h1, h2, h3⟩ := open_rowsS 5 64 encN (OkS W) Tryz.underlying24 (by kernel_rfl) (by decide) (by kernel_rfl) (fun n cs x hl hx hs => open_nodeS hl hx hs) hv (d := x.1) (p := x.2) ⟨n, by obtain ⟨a, l, c', rfl⟩ := hv; exact hx⟩ hs
  exact ⟨l, ⟨h1, fun x hx => (h2 x hx).ok.bl⟩, h2, by omega⟩
set_option maxRecDepth 100000 in
theorem open_leasesC {H : Type} {enc : TypeId × Value → H} {W : World} {n : Nat} {c : Value} {x : DataW H × List MemPlace} (hx : DataW.trod enc Tryz.prog W 0 (fun _ => true) true n 25 [c] = some x) (hs : SmallW Tryz.prog 25 x.1) : ∃ l, Rd W 2 Lease.encL c l ∧ (∀ x ∈ l, OkLe x) ∧ l.length ≤ 8796093022208 := by
  have hv := cell_slice Tryz.underlying25 hx
  obtain ⟨l, h1, h2, h3⟩ := open_rowsS 2 16 Lease.encL OkLe Tryz.underlying25 (by kernel_rfl) (by decide) (by kernel_rfl) (fun n cs x hl hx _ => open_lease hl hx) hv (d := x.1) (p := x.2) ⟨n, by obtain ⟨a, l, c', rfl⟩ := hv; exact hx⟩ hs
  exact ⟨l, h1, h2, by omega⟩
set_option maxRecDepth 100000 in
theorem open_spaceS {H : Type} {enc : TypeId × Value → H} {W : World} {n : Nat} {cs : List Value} {x : DataW H × List MemPlace} (hl : cs.length = 6) (hx : DataW.trod enc Tryz.prog W 0 (fun _ => true) true n 27 cs = some x) (hs : SmallW Tryz.prog 27 x.1) : ∃ s : Sp, cs = (spC s).toList ∧ OkSp W s := by
  obtain ⟨y0, y1, y2, y3, y4, y5, n1, hx1, h0, h1, h2, h3, h4, h5⟩ := trod_struct6 Tryz.underlying27 hx
  rw [hx1] at hs
  have hs4 : SmallW Tryz.prog 24 y4.1 := small_struct (j := 4) Tryz.underlying27 hs rfl rfl
  have hs5 : SmallW Tryz.prog 25 y5.1 := small_struct (j := 5) Tryz.underlying27 hs rfl rfl
  obtain ⟨z0, e0, _, hz0⟩ := DataW.trod_int Tryz.underlying3 h0
  obtain ⟨z1, e1, _, hz1⟩ := DataW.trod_int Tryz.underlying3 h1
  obtain ⟨z2, e2, _, hz2⟩ := DataW.trod_int Tryz.underlying3 h2
  obtain ⟨z3, e3, _, hz3⟩ := DataW.trod_int Tryz.underlying3 h3
  have hC : Tryz.prog.cellsOf 3 = 1 := by kernel_rfl
  have hN : Tryz.prog.cellsOf 24 = 1 := by kernel_rfl
  have hL : Tryz.prog.cellsOf 25 = 1 := by kernel_rfl
  match cs, hl with
  | [c0, c1, c2, c3, c4, c5], _ =>
    simp [hC] at e0 e1 e2 e3
    simp only [hN] at h4
    simp only [hL] at h5
    obtain ⟨l, g1, g2, g3⟩ := open_nodesC (c := c4) (by simpa using h4) hs4
    obtain ⟨m, k1, k2, k3⟩ := open_leasesC (c := c5) (by simpa using h5) hs5
    subst e0 e1 e2 e3
    exact ⟨⟨z0, z1, z2, z3, l, m, c4, c5⟩, rfl, ⟨g1, k1, Nat.le_trans g3 (by decide), k3⟩, inI_of hz0, inI_of hz1, inI_of hz2, inI_of hz3, g2, k2, g3⟩
set_option maxRecDepth 100000 in
theorem open_spaceVS {H : Type} {enc : TypeId × Value → H} {W : World} {base : Nat} {v : Value} {d : DataW H} {p : List MemPlace} (hv : Value.okWide Tryz.prog W .any base 27 v) (h : DataW.Trod enc Tryz.prog W 0 (fun _ => true) true 27 v d p)
    (hs : SmallW Tryz.prog 27 d) : ∃ s : Sp, v = .agg (spC s) ∧ OkSp W s := by
  obtain ⟨cs, rfl, hsz⟩ := okWide_struct Tryz.underlying27 hv
  have hC : Tryz.prog.cellsOf 27 = 6 := by kernel_rfl
  obtain ⟨fuel, hf⟩ := h
  have hf' : DataW.trod enc Tryz.prog W 0 (fun _ => true) true fuel 27 cs.toList = some (d, p) := by simpa [Value.cells] using hf
  obtain ⟨a, ha, hok⟩ := open_spaceS (by rw [Array.length_toList, hsz, hC]) hf' hs
  refine ⟨a, ?_, hok⟩
  have : cs = spC a := by rw [show spC a = (spC a).toList.toArray by simp, ← ha]
  rw [this]
end Go.Proofs.YtdfckkadmgmcaaaGreatDoor.Space

/- Edits of spaces: how edits among a statement's arguments are opened. -/
namespace Go.Proofs.YtdfckkadmgmcaaaGreatDoor.Space
open Go.RowKit Go.ChangeShapes Go.WideShapes Go.ChangeAt
open Path (Bs bs)
open Tree
set_option linter.unusedSimpArgs false
set_option linter.unusedVariables false
theorem trod_struct7 {H : Type} {enc : TypeId × Value → H} {P : Program} {w : World} {base : Nat} {spare : Nat → Bool} {held : Bool} {t : TypeId} {f0 f1 f2 f3 f4 f5 f6 : Field} {fuel : Nat} {cs : List Value} {x : DataW H × List MemPlace} (ht : P.underlying t = some (.struct #[f0, f1, f2, f3, f4, f5, f6])) (h : DataW.trod enc P w base spare held fuel t cs = some x) :
    ∃ y0 y1 y2 y3 y4 y5 y6 n, x.1 = .agg [y0.1, y1.1, y2.1, y3.1, y4.1, y5.1, y6.1] ∧ DataW.trod enc P w base spare held n f0.type ((cs.drop f0.offset).take (P.cellsOf f0.type)) = some y0 ∧ DataW.trod enc P w base spare held n f1.type ((cs.drop f1.offset).take (P.cellsOf f1.type)) = some y1 ∧
      DataW.trod enc P w base spare held n f2.type ((cs.drop f2.offset).take (P.cellsOf f2.type)) = some y2 ∧ DataW.trod enc P w base spare held n f3.type ((cs.drop f3.offset).take (P.cellsOf f3.type)) = some y3 ∧ DataW.trod enc P w base spare held n f4.type ((cs.drop f4.offset).take (P.cellsOf f4.type)) = some y4 ∧ DataW.trod enc P w base spare held n f5.type ((cs.drop f5.offset).take (P.cellsOf f5.type)) = some y5 ∧ DataW.trod enc P w base spare held n f6.type ((cs.drop f6.offset).take (P.cellsOf f6.type)) = some y6 := by
  obtain ⟨xs, n, _, rfl, hl, hlen, hf⟩ := DataW.trod_struct ht h
  match xs, hlen with
  | [y0, y1, y2, y3, y4, y5, y6], _ => exact ⟨y0, y1, y2, y3, y4, y5, y6, n, by simp, by simpa using hf 0 f0 rfl, by simpa using hf 1 f1 rfl, by simpa using hf 2 f2 rfl, by simpa using hf 3 f3 rfl, by simpa using hf 4 f4 rfl, by simpa using hf 5 f5 rfl, by simpa using hf 6 f6 rfl⟩
/-- An edit that came in. -/
structure OkEd (W : World) (e : Ed) : Prop where
  kind : inI e.kind
  path : e.path.size ≤ maxLen
  dst : e.dst.size ≤ maxLen
  client : inI e.client
  call : inI e.call
  n : inI e.n
  rd : Rd W 1 encI e.lv e.lens
  all : ∀ k ∈ e.lens, inI k
  len : e.lens.length ≤ 17592186044416
def encEd (e : Ed) : List Value := [.int .i64 e.kind, .string e.path, .string e.dst, .int .i64 e.client, .int .i64 e.call, .int .i64 e.n, e.lv]
theorem OkEd.below {w w' : World} {e : Ed} (h : OkEd w e) (hb : Below w.heap.size w w') : OkEd w' e := ⟨h.kind, h.path, h.dst, h.client, h.call, h.n, h.rd.below hb (Nat.le_refl _), h.all, h.len⟩
set_option maxRecDepth 100000 in
theorem open_intS {H : Type} {enc : TypeId × Value → H} {W : World} {n : Nat} {cs : List Value} {x : DataW H × List MemPlace} (hl : cs.length = 1) (hx : DataW.trod enc Tryz.prog W 0 (fun _ => true) true n 3 cs = some x) : ∃ a, cs = encI a ∧ inI a := by
  obtain ⟨z0, e0, _, hz0⟩ := DataW.trod_int Tryz.underlying3 hx
  exact ⟨z0, e0, inI_of hz0⟩
set_option maxRecDepth 100000 in
theorem open_intsC {H : Type} {enc : TypeId × Value → H} {W : World} {n : Nat} {c : Value} {x : DataW H × List MemPlace} (hx : DataW.trod enc Tryz.prog W 0 (fun _ => true) true n 40 [c] = some x) (hs : SmallW Tryz.prog 40 x.1) : ∃ l, Rd W 1 encI c l ∧ (∀ k ∈ l, inI k) ∧ l.length ≤ 17592186044416 := by
  have hv := cell_slice Tryz.underlying40 hx
  obtain ⟨l, h1, h2, h3⟩ := open_rowsS 1 8 encI inI Tryz.underlying40 (by kernel_rfl) (by decide) (by kernel_rfl) (fun n cs x hl hx _ => open_intS hl hx) hv (d := x.1) (p := x.2) ⟨n, by obtain ⟨a, l, c', rfl⟩ := hv; exact hx⟩ hs
  exact ⟨l, h1, h2, by omega⟩
set_option maxRecDepth 100000 in
theorem open_editS {H : Type} {enc : TypeId × Value → H} {W : World} {n : Nat} {cs : List Value} {x : DataW H × List MemPlace} (hl : cs.length = 7) (hx : DataW.trod enc Tryz.prog W 0 (fun _ => true) true n 42 cs = some x) (hs : SmallW Tryz.prog 42 x.1) : ∃ e : Ed, cs = encEd e ∧ OkEd W e := by
  obtain ⟨y0, y1, y2, y3, y4, y5, y6, n1, hx1, h0, h1, h2, h3, h4, h5, h6⟩ := trod_struct7 Tryz.underlying42 hx
  rw [hx1] at hs
  have hs6 : SmallW Tryz.prog 40 y6.1 := small_struct (j := 6) Tryz.underlying42 hs rfl rfl
  obtain ⟨z0, e0, _, hz0⟩ := DataW.trod_int Tryz.underlying3 h0
  obtain ⟨z1, e1, _, hz1⟩ := DataW.trod_string Tryz.underlying9 h1
  obtain ⟨z2, e2, _, hz2⟩ := DataW.trod_string Tryz.underlying9 h2
  obtain ⟨z3, e3, _, hz3⟩ := DataW.trod_int Tryz.underlying3 h3
  obtain ⟨z4, e4, _, hz4⟩ := DataW.trod_int Tryz.underlying3 h4
  obtain ⟨z5, e5, _, hz5⟩ := DataW.trod_int Tryz.underlying3 h5
  have hC : Tryz.prog.cellsOf 3 = 1 := by kernel_rfl
  have hS : Tryz.prog.cellsOf 9 = 1 := by kernel_rfl
  have hN : Tryz.prog.cellsOf 40 = 1 := by kernel_rfl
  match cs, hl with
  | [c0, c1, c2, c3, c4, c5, c6], _ =>
    simp [hC, hS] at e0 e1 e2 e3 e4 e5
    simp only [hN] at h6
    obtain ⟨l, g1, g2, g3⟩ := open_intsC (c := c6) (by simpa using h6) hs6
    subst e0 e1 e2 e3 e4 e5
    exact ⟨⟨z0, z1, z2, z3, z4, z5, l, c6⟩, rfl, ⟨inI_of hz0, hz1, hz2, inI_of hz3, inI_of hz4, inI_of hz5, g1, g2, by omega⟩⟩
set_option maxRecDepth 100000 in
theorem open_editsS {H : Type} {enc : TypeId × Value → H} {W : World} {base : Nat} {v : Value} {d : DataW H} {p : List MemPlace} (hv : Value.okWide Tryz.prog W .any base 22 v) (h : DataW.Trod enc Tryz.prog W 0 (fun _ => true) true 22 v d p)
    (hs : SmallW Tryz.prog 22 d) : ∃ l : List Ed, Rd W 7 encEd v l ∧ (∀ e ∈ l, OkEd W e) ∧ l.length ≤ 1600000000000 := by
  obtain ⟨l, h1, h2, h3⟩ := open_rowsS 7 88 encEd (OkEd W) Tryz.underlying22 (by kernel_rfl) (by decide) (by kernel_rfl) (fun n cs x hl hx hs => open_editS hl hx hs) (okWide_slice Tryz.underlying22 hv) h hs
  exact ⟨l, h1, h2, by omega⟩
end Go.Proofs.YtdfckkadmgmcaaaGreatDoor.Space
