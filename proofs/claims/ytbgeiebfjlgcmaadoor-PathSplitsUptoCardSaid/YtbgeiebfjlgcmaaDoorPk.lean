/- Paths: how texts come in, within the form's bound; PathBack: the walk of the law. -/
import Derived.Test.YtbgeiebfjlgcmaaDoorPi
import Derived.Test.YtbgeiebfjlgcmaaDoorO
import Derived.Test.YtbgeiebfjlgcmaaDoorRows
import Derived.Deep.Strs
namespace Go.Proofs.YtbgeiebfjlgcmaaDoor
open Go.RowKit Go.ChangeShapes Go.WideShapes Go.ChangeAt
set_option linter.unusedSimpArgs false

/-- A slice that came in, its elements of whatever kind: it reads as a list. -/
theorem open_rowsN {α H : Type} {enc : TypeId × Value → H} {P : Program} {W : World} {t e : TypeId} (size bytes : Nat) (encE : α → List Value) (ok : α → Prop) (ht : P.underlying t = some (.slice e)) (hc : P.cellsOf e = size) (hp : 0 < size) (hby : P.bytesOf e = bytes)
    (hel : ∀ n cs x, cs.length = size → DataW.trod enc P W 0 (fun _ => true) true n e cs = some x → ∃ a, cs = encE a ∧ ok a)
    {v : Value} {d : DataW H} {p : List MemPlace} (hv : ∃ a l c, v = .slice a l c) (h : DataW.Trod enc P W 0 (fun _ => true) true t v d p)
    (N : Nat) (hsz : ∀ el sp, d = .slice el sp → (el.length + sp.length) * P.bytesOf e ≤ N) :
    ∃ l : List α, Rd W size encE v l ∧ (∀ a ∈ l, ok a) ∧ l.length * bytes ≤ N := by
  obtain ⟨a0, len0, cap0, rfl⟩ := hv
  obtain ⟨fuel, hf⟩ := h
  simp only [Value.cells] at hf
  rcases Deep.open_slice ht hf with ⟨hcs, _⟩ | ⟨a, len, cap, m, n, D, Pl, hcs, _, hl, hm, hmm, hx, hall⟩
  · simp at hcs
    obtain ⟨rfl, rfl, rfl⟩ := hcs
    exact ⟨[], ⟨none, 0, rfl, Nat.le_refl _, by decide, fun i x hx => (by simp at hx)⟩, fun a ha => (by cases ha), by simp⟩
  · simp at hcs
    obtain ⟨rfl, rfl, rfl⟩ := hcs
    simp only [if_true] at hmm
    subst hmm
    rw [hc] at hall
    have hall' : ∀ i, i < len0 → ∃ z : α, W.cells? 0 (a.add (i * size)) size = some (encE z) ∧ ok z := fun i hi => by
      obtain ⟨cs', h1, h2⟩ := hall i (by omega)
      obtain ⟨_, hlen, _⟩ := World.cells?_some h1
      obtain ⟨z, rfl, hz⟩ := hel _ _ _ hlen h2
      exact ⟨z, h1, hz⟩
    classical
    refine ⟨(List.range len0).pmap (fun i hi => Classical.choose (hall' i hi)) (fun i hi => List.mem_range.1 hi), ⟨some a, m, by simp, by simpa using hl, hm, fun i x hx' => ?_⟩, fun z hz => ?_, ?_⟩
    · have hi : i < len0 := by have := (List.getElem?_eq_some_iff.1 hx').1; simpa using this
      rw [List.getElem?_pmap] at hx'
      simp only [List.getElem?_range hi, Option.pmap_some, Option.some.injEq] at hx'
      have hs := Classical.choose_spec (hall' i hi)
      rw [hx'] at hs
      obtain ⟨hcs, hok⟩ := hs
      obtain ⟨hb, hlen, hcell⟩ := World.cells?_some hcs
      have hspot : a = ⟨a.block, a.off, none⟩ := by
        obtain ⟨z0, hz0, _⟩ := hall' 0 (by omega)
        rw [Nat.zero_mul, show a.add 0 = a from rfl] at hz0
        obtain ⟨_, hl0, hc0⟩ := World.cells?_some hz0
        have h00 := hc0 0 hp
        rw [List.getElem?_eq_getElem (by omega)] at h00
        rw [show a.add 0 = a from rfl] at h00
        cases a with
        | mk b o s =>
          cases s with
          | none => rfl
          | some s => simp [World.cell?] at h00; split at h00 <;> simp at h00
      refine ⟨a.block, a.off, by rw [← hspot], ?_, fun j u hu => ?_⟩
      · have h00 := hcell 0 hp
        rw [List.getElem?_eq_getElem (by omega)] at h00
        have := World.block_lt_of_cell? W _ h00
        rw [hspot] at this
        simpa [Addr.add_lit] using this
      · have := (hcell j (by have := (List.getElem?_eq_some_iff.1 hu).1; omega)).trans hu
        rw [hspot] at this
        simpa [Addr.add_lit] using this
    · obtain ⟨i, hi, rfl⟩ := List.mem_pmap.1 hz
      exact (Classical.choose_spec (hall' i (List.mem_range.1 hi))).2
    · have := hsz _ _ (congrArg Prod.fst hx)
      rw [hby] at this
      simp only [List.length_map, List.length_range] at this
      simp only [List.length_pmap, List.length_range]
      exact Nat.le_trans (Nat.mul_le_mul_right _ (by omega)) this


theorem bulk_one {H : Type} (d : DataW H) : 1 ≤ Rows.uptoBulk d := by
  cases d with
  | lit l => cases l <;> simp [Rows.uptoBulk]
  | nil => simp [Rows.uptoBulk]
  | ptr d => simp [Rows.uptoBulk]
  | slice elems spare => simp [Rows.uptoBulk]
  | agg parts => simp [Rows.uptoBulk]
  | iface t d => simp [Rows.uptoBulk]
  | map entries => simp [Rows.uptoBulk]
  | held h => simp [Rows.uptoBulk]
theorem bulk_part {H : Type} {d : DataW H} {l : List (DataW H)} (h : d ∈ l) : Rows.uptoBulk d ≤ Rows.uptoBulkAll l := by
  induction l with
  | nil => cases h
  | cons x r ih =>
    simp only [Rows.uptoBulkAll]
    cases List.mem_cons.1 h with
    | inl e => subst e; omega
    | inr e => have := ih e; omega
theorem bulk_len {H : Type} (l : List (DataW H)) : l.length ≤ Rows.uptoBulkAll l := by
  induction l with
  | nil => simp [Rows.uptoBulkAll]
  | cons x r ih => have := bulk_one x; simp only [Rows.uptoBulkAll, List.length_cons]; omega
theorem bulk_slice {H : Type} (el sp : List (DataW H)) : el.length + sp.length ≤ Rows.uptoBulk (.slice el sp) := by
  have := bulk_len el; have := bulk_len sp
  simp only [Rows.uptoBulk]
  omega
theorem bulk_times {a b c : Nat} (h : a ≤ b) (hb : b ≤ c) : a * 16 ≤ c * 16 := Nat.mul_le_mul_right _ (Nat.le_trans h hb)
theorem upto_all {H : Type} {l : List (DataW H)} (hk : Rows.uptoSmall H l = true) : Rows.uptoBulkAll l ≤ 1048576 := of_decide_eq_true hk
theorem upto_part {H : Type} {d : DataW H} {l : List (DataW H)} (hk : Rows.uptoSmall H l = true) (h : d ∈ l) : Rows.uptoBulk d ≤ 1048576 :=
  Nat.le_trans (bulk_part h) (upto_all hk)

set_option maxRecDepth 100000 in
theorem open_strsU {H : Type} {enc : TypeId × Value → H} {W : World} {base : Nat} {v : Value} {d : DataW H} {p : List MemPlace} (hv : Value.okWide Tryd.prog W .any base 22 v) (h : DataW.Trod enc Tryd.prog W 0 (fun _ => true) true 22 v d p)
    (hk : Rows.uptoBulk d ≤ 1048576) : ∃ l : List ByteArray, Rd W 1 Path.encS v l ∧ l.length ≤ 1048576 := by
  have hby : Tryd.prog.bytesOf 9 = 16 := by kernel_rfl
  generalize 1048576 = N at hk ⊢
  have hsl : ∃ a l c, v = .slice a l c := okWide_slice Tryd.underlying22 hv
  obtain ⟨l, h1, _, h2⟩ := open_rowsN (P := Tryd.prog) (enc := enc) (W := W) (t := 22) (e := 9) (v := v) (d := d) (p := p) 1 16 Path.encS (fun _ => True) Tryd.underlying22 (by kernel_rfl) (by decide) hby (fun n cs x _ hx => by
    obtain ⟨z, rfl, _, hz⟩ := DataW.trod_string Tryd.underlying9 hx
    exact ⟨z, rfl, trivial⟩) hsl h (N * 16) (fun el sp e => by
    rw [hby]
    rw [e] at hk
    exact bulk_times (bulk_slice el sp) hk)
  exact ⟨l, h1, by omega⟩

namespace Path
theorem map_mk_bs (ns : List ByteArray) : (ns.map bs).map mk = ns := by
  rw [List.map_map]
  conv => rhs; rw [← List.map_id ns]
  exact List.map_congr_left fun x _ => mk_bs x
theorem map_bs_mk (ns : List Bs) : (ns.map mk).map bs = ns := by
  rw [List.map_map]
  conv => rhs; rw [← List.map_id ns]
  exact List.map_congr_left fun x _ => bs_mk x

set_option maxHeartbeats 4000000 in
theorem law_back (p : ByteArray) (v : Value) (ns : List ByteArray) (w : World) (hM : MaxC w) (h : Rd w 1 encS v ns ∧ ns.length ≤ 1048576) :
    Calls Tryd.prog 4 #[.string p, v] w fun e w' => e = .returned (.bool true) ∧ Below w.heap.size w w' := by
  have hex := ex_calls w hM
  have h1 := fun W (hW : Below w.heap.size w W) => split_calls W p (hM.below hW)
  have hJ := fun W (hW : Below w.heap.size w W) => join_calls W v ns (h.1.below hW (Nat.le_refl _)) (by omega)
  have hS := fun W (hW : Below w.heap.size w W) => split_calls W (mk (joinS (ns.map bs))) (hM.below hW)
  have hN := fun W (hW : Below w.heap.size w W) => h.1.below hW (Nat.le_refl _)
  obtain ⟨ao, cap, rfl, _, _, _⟩ := rd_cellsS h.1
  have hnl := h.2
  have hways : (joinE (ns.map bs) = 0 ∧ splitE (joinS (ns.map bs)) = 0 ∧ (splitL (joinS (ns.map bs))).map mk = ns) ∨ (joinE (ns.map bs) != 0) = true := by
    by_cases hE : joinE (ns.map bs) = 0
    · have e : joinS (ns.map bs) = joinP (ns.map bs) := if_pos hE
      obtain ⟨e1, e2⟩ := join_ok hE
      exact .inl ⟨hE, by rw [e, e1], by rw [e, e2, map_mk_bs]⟩
    · exact .inr (bne_iff_ne.2 hE)
  have hway1 : (splitE (bs p) = 0 ∧ joinE (splitL (bs p)) = 0 ∧ joinS (splitL (bs p)) = bs p) ∨ (splitE (bs p) == 0) = false := by
    by_cases hE : splitE (bs p) = 0
    · obtain ⟨e1, e2⟩ := split_ok hE
      exact .inl ⟨hE, e1, by rw [joinS, if_pos e1, e2]⟩
    · exact .inr (beq_false_of_ne hE)
  rw [bs_mk] at hS
  have hpp : (p.toList != p.toList) = false := by simp
  generalize hq : joinS (ns.map bs) = q at *
  generalize joinE (ns.map bs) = E at *
  generalize splitE (bs p) = F at *
  clear hq h hM
  have hl6 := split_six (bs p)
  generalize splitL (bs p) = L at *
  have H1 := Lib.hid h1; have HJ := Lib.hid hJ; have HS := Lib.hid hS; have HN := Lib.hid hN; clear h1 hJ hS hN
  rcases hway1 with ⟨rfl, e1, e2⟩ | hF
  focus
    go_enter Tryd.func4, Tryd.ntmps4
    go_wp2_with (fail)
    refine hex.mono ?_
    rintro e w1 ⟨rfl, hB1⟩
    go_wp2_with (fail)
    refine (H1.out _ hB1).mono ?_
    rintro e w2 ⟨v2, rfl, hO2, hb2⟩
    have hB2 := hB1.trans (hb2.mono hB1.size)
    have hj := join_calls w2 v2 _ hO2.rd (by rw [List.length_map]; omega)
    rw [map_bs_mk, e1, e2] at hj
    clear hO2
    go_wp2_with (fail)
    refine hj.mono ?_
    rintro e w3 ⟨rfl, hb3⟩
    rw [mk_bs]
    have hB3 := hB2.trans (hb3.mono hB2.size)
    go_wp2_with (fail)
  rotate_left
  focus
    go_enter Tryd.func4, Tryd.ntmps4
    go_wp2_with (fail)
    refine hex.mono ?_
    rintro e w1 ⟨rfl, hB1⟩
    go_wp2_with (fail)
    refine (H1.out _ hB1).mono ?_
    rintro e w3 ⟨v2, rfl, _, hb2⟩
    have hB3 := hB1.trans (hb2.mono hB1.size)
    go_wp2_with (fail)
  all_goals
    refine (HJ.out _ hB3).mono ?_
    rintro e w4 ⟨rfl, hb4⟩
    have hB4 := hB3.trans (hb4.mono hB3.size)
    rcases hways with ⟨rfl, f1, f2⟩ | hE
    · have hs := HS.out _ hB4
      rw [f1, f2] at hs
      go_wp2_with (fail)
      refine hs.mono ?_
      rintro e w5 ⟨v5, rfl, hO5, hb5⟩
      have hB5 := hB4.trans (hb5.mono hB4.size)
      have ht := texts_calls w5 v5 _ ns hO5.rd (HN.out _ hB5) (by omega)
      go_wp2_with (fail)
      refine ht.mono ?_
      rintro e w6 ⟨rfl, hb6⟩
      go_wp2_with (fail)
      go_ret
      exact ⟨rfl, hB5.trans (hb6.mono hB5.size)⟩
    · go_wp2_with (fail)
      go_ret
      exact ⟨rfl, hB4⟩
end Path
end Go.Proofs.YtbgeiebfjlgcmaaDoor
