/- How the slices among a statement's arguments are opened: whatever their size; the second form's bound. -/
import Derived.Test.YtpghaghmejgjbaaGreatDoorO
import Derived.Test.YtpghaghmejgjbaaGreatDoorRows
namespace Go.Proofs.YtpghaghmejgjbaaGreatDoor
open Go.RowKit Go.ChangeShapes Go.WideShapes Go.ChangeAt
set_option linter.unusedSimpArgs false

/-- A slice that came in, its elements of whatever kind: it reads as a list. -/
theorem open_rowsN {α H : Type} {enc : TypeId × Value → H} {P : Program} {W : World} {t e : TypeId} (size bytes : Nat) (encE : α → List Value) (ok : α → Prop) (ht : P.underlying t = some (.slice e)) (hc : P.cellsOf e = size) (hp : 0 < size) (hby : P.bytesOf e = bytes)
    (hel : ∀ n cs x, cs.length = size → DataW.trod enc P W 0 (fun _ => true) true n e cs = some x → ∃ a, cs = encE a ∧ ok a)
    {v : Value} {d : DataW H} {p : List MemPlace} (hv : ∃ a l c, v = .slice a l c) (h : DataW.Trod enc P W 0 (fun _ => true) true t v d p)
    (N : Nat) (hsz : ∀ el sp, d = .slice el sp → (el.length + sp.length) * P.bytesOf e ≤ N) :
    ∃ l : List α, Rd W size encE v l ∧ (∀ a ∈ l, ok a) ∧ l.length * bytes ≤ N := by
  obtain ⟨a0, len0, cap0, rfl⟩ := hv
  obtain ⟨fuel, hf⟩ := h
  simp only [Value.cells] at hf
  rcases Deep.open_slice ht hf with ⟨hcs, _⟩ | ⟨a, len, cap, m, n, D, Pl, hcs, _, hl, hm, hmm, hx, hall⟩
  · simp at hcs
    obtain ⟨rfl, rfl, rfl⟩ := hcs
    exact ⟨[], ⟨none, 0, rfl, Nat.le_refl _, by decide, fun i x hx => (by simp at hx)⟩, fun a ha => (by cases ha), by simp⟩
  · simp at hcs
    obtain ⟨rfl, rfl, rfl⟩ := hcs
    simp only [if_true] at hmm
    subst hmm
    rw [hc] at hall
    have hall' : ∀ i, i < len0 → ∃ z : α, W.cells? 0 (a.add (i * size)) size = some (encE z) ∧ ok z := fun i hi => by
      obtain ⟨cs', h1, h2⟩ := hall i (by omega)
      obtain ⟨_, hlen, _⟩ := World.cells?_some h1
      obtain ⟨z, rfl, hz⟩ := hel _ _ _ hlen h2
      exact ⟨z, h1, hz⟩
    classical
    refine ⟨(List.range len0).pmap (fun i hi => Classical.choose (hall' i hi)) (fun i hi => List.mem_range.1 hi), ⟨some a, m, by simp, by simpa using hl, hm, fun i x hx' => ?_⟩, fun z hz => ?_, ?_⟩
    · have hi : i < len0 := by have := (List.getElem?_eq_some_iff.1 hx').1; simpa using this
      rw [List.getElem?_pmap] at hx'
      simp only [List.getElem?_range hi, Option.pmap_some, Option.some.injEq] at hx'
      have hs := Classical.choose_spec (hall' i hi)
      rw [hx'] at hs
      obtain ⟨hcs, hok⟩ := hs
      obtain ⟨hb, hlen, hcell⟩ := World.cells?_some hcs
      have hspot : a = ⟨a.block, a.off, none⟩ := by
        obtain ⟨z0, hz0, _⟩ := hall' 0 (by omega)
        rw [Nat.zero_mul, show a.add 0 = a from rfl] at hz0
        obtain ⟨_, hl0, hc0⟩ := World.cells?_some hz0
        have h00 := hc0 0 hp
        rw [List.getElem?_eq_getElem (by omega)] at h00
        rw [show a.add 0 = a from rfl] at h00
        cases a with
        | mk b o s =>
          cases s with
          | none => rfl
          | some s => simp [World.cell?] at h00; split at h00 <;> simp at h00
      refine ⟨a.block, a.off, by rw [← hspot], ?_, fun j u hu => ?_⟩
      · have h00 := hcell 0 hp
        rw [List.getElem?_eq_getElem (by omega)] at h00
        have := World.block_lt_of_cell? W _ h00
        rw [hspot] at this
        simpa [Addr.add_lit] using this
      · have := (hcell j (by have := (List.getElem?_eq_some_iff.1 hu).1; omega)).trans hu
        rw [hspot] at this
        simpa [Addr.add_lit] using this
    · obtain ⟨i, hi, rfl⟩ := List.mem_pmap.1 hz
      exact (Classical.choose_spec (hall' i (List.mem_range.1 hi))).2
    · have := hsz _ _ (congrArg Prod.fst hx)
      rw [hby] at this
      simp only [List.length_map, List.length_range] at this
      simp only [List.length_pmap, List.length_range]
      exact Nat.le_trans (Nat.mul_le_mul_right _ (by omega)) this


theorem bulk_one {H : Type} (d : DataW H) : 1 ≤ Rows.uptoBulk d := by
  cases d with
  | lit l => cases l <;> simp [Rows.uptoBulk]
  | nil => simp [Rows.uptoBulk]
  | ptr d => simp [Rows.uptoBulk]
  | slice elems spare => simp [Rows.uptoBulk]
  | agg parts => simp [Rows.uptoBulk]
  | iface t d => simp [Rows.uptoBulk]
  | map entries => simp [Rows.uptoBulk]
  | held h => simp [Rows.uptoBulk]
theorem bulk_part {H : Type} {d : DataW H} {l : List (DataW H)} (h : d ∈ l) : Rows.uptoBulk d ≤ Rows.uptoBulkAll l := by
  induction l with
  | nil => cases h
  | cons x r ih =>
    simp only [Rows.uptoBulkAll]
    cases List.mem_cons.1 h with
    | inl e => subst e; omega
    | inr e => have := ih e; omega
theorem bulk_len {H : Type} (l : List (DataW H)) : l.length ≤ Rows.uptoBulkAll l := by
  induction l with
  | nil => simp [Rows.uptoBulkAll]
  | cons x r ih => have := bulk_one x; simp only [Rows.uptoBulkAll, List.length_cons]; omega
theorem bulk_slice {H : Type} (el sp : List (DataW H)) : el.length + sp.length ≤ Rows.uptoBulk (.slice el sp) := by
  have := bulk_len el; have := bulk_len sp
  simp only [Rows.uptoBulk]
  omega
theorem bulk_times {a b c : Nat} (h : a ≤ b) (hb : b ≤ c) : a * 16 ≤ c * 16 := Nat.mul_le_mul_right _ (Nat.le_trans h hb)
theorem upto_all {H : Type} {l : List (DataW H)} (hk : Rows.uptoSmall H l = true) : Rows.uptoBulkAll l ≤ 1048576 := of_decide_eq_true hk
theorem upto_part {H : Type} {d : DataW H} {l : List (DataW H)} (hk : Rows.uptoSmall H l = true) (h : d ∈ l) : Rows.uptoBulk d ≤ 1048576 :=
  Nat.le_trans (bulk_part h) (upto_all hk)
end Go.Proofs.YtpghaghmejgjbaaGreatDoor
