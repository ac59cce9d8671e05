/- How the slices among a statement's arguments are opened, whatever slices lie in them: none takes more than the reach. -/
import Derived.Test.YtgpddngbccecfaaDoorGa
namespace Go.Proofs.YtgpddngbccecfaaDoor
open Go.RowKit Go.ChangeShapes Go.WideShapes Go.ChangeAt
set_option linter.unusedSimpArgs false

/-- Every slice, text and map in it takes no more than the reach. -/
def SmallW {H : Type} (P : Program) (t : TypeId) (d : DataW H) : Prop := ∀ n ∈ d.weights P t, n ≤ reachBytes
theorem small_arg {H : Type} {P : Program} {ts : List TypeId} {ds : List (DataW H)} (h : (DataW.weightsEach P ts ds).all (· ≤ reachBytes) = true) {j : Nat} {t : TypeId} {d : DataW H} (ht : ts[j]? = some t) (hd : ds[j]? = some d) : SmallW P t d :=
  fun n hn => by simpa using List.all_eq_true.1 h n (DataW.weights_mem_each ht hd n hn)
theorem small_all {H : Type} {P : Program} {e : TypeId} : ∀ {l : List (DataW H)} {d : DataW H}, d ∈ l → ∀ n ∈ d.weights P e, n ∈ DataW.weightsAll P e l
  | x :: r, d, hd, n, hn => by
    rw [DataW.weightsAll, List.mem_append]
    rcases List.mem_cons.1 hd with rfl | hd
    · exact .inl hn
    · exact .inr (small_all hd n hn)
theorem small_slice {H : Type} {P : Program} {t e : TypeId} {el sp : List (DataW H)} (hu : P.underlying t = some (.slice e)) (h : SmallW P t (.slice el sp)) : (∀ d ∈ el, SmallW P e d) ∧ (el.length + sp.length) * P.bytesOf e ≤ reachBytes := by
  simp only [SmallW, DataW.weights, hu, List.mem_cons, List.mem_append] at h
  exact ⟨fun d hd n hn => h n (.inr (.inl (small_all hd n hn))), h _ (.inl rfl)⟩
theorem small_struct {H : Type} {P : Program} {t : TypeId} {fs : Array Field} {l : List (DataW H)} (hu : P.underlying t = some (.struct fs)) (h : SmallW P t (.agg l)) {j : Nat} {f : Field} {d : DataW H} (hf : fs[j]? = some f) (hd : l[j]? = some d) : SmallW P f.type d := by
  simp only [SmallW, DataW.weights, hu] at h
  exact fun n hn => h n (DataW.weights_mem_each (by rw [List.getElem?_map, Array.getElem?_toList, hf]; rfl) hd n hn)
theorem small_string {H : Type} {P : Program} {t : TypeId} {l : List UInt8} (h : SmallW (H := H) P t (.lit (.string l))) : l.length ≤ reachBytes := h _ (by simp [DataW.weights])
/-- A slice that came in, its elements of whatever kind: it reads as a list. -/
theorem open_rowsS {α H : Type} {enc : TypeId × Value → H} {P : Program} {W : World} {t e : TypeId} (size bytes : Nat) (encE : α → List Value) (ok : α → Prop) (ht : P.underlying t = some (.slice e)) (hc : P.cellsOf e = size) (hp : 0 < size) (hby : P.bytesOf e = bytes)
    (hel : ∀ n cs x, cs.length = size → DataW.trod enc P W 0 (fun _ => true) true n e cs = some x → SmallW P e x.1 → ∃ a, cs = encE a ∧ ok a)
    {v : Value} {d : DataW H} {p : List MemPlace} (hv : ∃ a l c, v = .slice a l c) (h : DataW.Trod enc P W 0 (fun _ => true) true t v d p)
    (hs : SmallW P t d) :
    ∃ l : List α, Rd W size encE v l ∧ (∀ a ∈ l, ok a) ∧ l.length * bytes ≤ 140737488351232 := by
  obtain ⟨a0, len0, cap0, rfl⟩ := hv
  obtain ⟨fuel, hf⟩ := h
  simp only [Value.cells] at hf
  rcases Deep.open_slice ht hf with ⟨hcs, _⟩ | ⟨a, len, cap, m, n, D, Pl, hcs, _, hl, hm, hmm, hx, hall⟩
  · simp at hcs
    obtain ⟨rfl, rfl, rfl⟩ := hcs
    exact ⟨[], ⟨none, 0, rfl, Nat.le_refl _, by decide, fun i x hx => (by simp at hx)⟩, fun a ha => (by cases ha), by simp⟩
  · simp at hcs
    obtain ⟨rfl, rfl, rfl⟩ := hcs
    simp only [if_true] at hmm
    subst hmm
    rw [hc] at hall
    have hdd : d = .slice ((List.range len0).map D) ((List.range (m - len0)).map fun j => D (len0 + j)) := congrArg Prod.fst hx
    rw [hdd] at hs
    have hS := small_slice ht hs
    have hall' : ∀ i, i < len0 → ∃ z : α, W.cells? 0 (a.add (i * size)) size = some (encE z) ∧ ok z := fun i hi => by
      obtain ⟨cs', h1, h2⟩ := hall i (by omega)
      obtain ⟨_, hlen, _⟩ := World.cells?_some h1
      obtain ⟨z, rfl, hz⟩ := hel _ _ _ hlen h2 (hS.1 (D i) (List.mem_map_of_mem (List.mem_range.2 hi)))
      exact ⟨z, h1, hz⟩
    classical
    refine ⟨(List.range len0).pmap (fun i hi => Classical.choose (hall' i hi)) (fun i hi => List.mem_range.1 hi), ⟨some a, m, by simp, by simpa using hl, hm, fun i x hx' => ?_⟩, fun z hz => ?_, ?_⟩
    · have hi : i < len0 := by have := (List.getElem?_eq_some_iff.1 hx').1; simpa using this
      rw [List.getElem?_pmap] at hx'
      simp only [List.getElem?_range hi, Option.pmap_some, Option.some.injEq] at hx'
      have hs := Classical.choose_spec (hall' i hi)
      rw [hx'] at hs
      obtain ⟨hcs, hok⟩ := hs
      obtain ⟨hb, hlen, hcell⟩ := World.cells?_some hcs
      have hspot : a = ⟨a.block, a.off, none⟩ := by
        obtain ⟨z0, hz0, _⟩ := hall' 0 (by omega)
        rw [Nat.zero_mul, show a.add 0 = a from rfl] at hz0
        obtain ⟨_, hl0, hc0⟩ := World.cells?_some hz0
        have h00 := hc0 0 hp
        rw [List.getElem?_eq_getElem (by omega)] at h00
        rw [show a.add 0 = a from rfl] at h00
        cases a with
        | mk b o s =>
          cases s with
          | none => rfl
          | some s => simp [World.cell?] at h00; split at h00 <;> simp at h00
      refine ⟨a.block, a.off, by rw [← hspot], ?_, fun j u hu => ?_⟩
      · have h00 := hcell 0 hp
        rw [List.getElem?_eq_getElem (by omega)] at h00
        have := World.block_lt_of_cell? W _ h00
        rw [hspot] at this
        simpa [Addr.add_lit] using this
      · have := (hcell j (by have := (List.getElem?_eq_some_iff.1 hu).1; omega)).trans hu
        rw [hspot] at this
        simpa [Addr.add_lit] using this
    · obtain ⟨i, hi, rfl⟩ := List.mem_pmap.1 hz
      exact (Classical.choose_spec (hall' i (List.mem_range.1 hi))).2
    · have := hS.2
      rw [hby] at this
      simp only [List.length_map, List.length_range, reachBytes] at this
      simp only [List.length_pmap, List.length_range]
      exact Nat.le_trans (Nat.mul_le_mul_right _ (by omega)) this


end Go.Proofs.YtgpddngbccecfaaDoor
