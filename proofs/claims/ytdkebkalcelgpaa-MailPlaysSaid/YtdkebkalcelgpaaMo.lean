/- The document's mail: Take of what is there. -/
import Derived.Test.YtdkebkalcelgpaaMn
namespace Go.Proofs.Ytdkebkalcelgpaa.Mail
open Go.RowKit
set_option linter.unusedSimpArgs false

theorem flatM_one (l : List Ms) : ∀ u ∈ flatM l, u.oneCell' = true := by
  intro u hu
  simp only [flatM, List.mem_flatMap] at hu
  obtain ⟨x, _, hx⟩ := hu
  simp only [encM, List.mem_cons, List.not_mem_nil, or_false] at hx
  rcases hx with rfl | rfl <;> rfl
theorem flatI_one (l : List Int) : ∀ u ∈ flatI l, u.oneCell' = true := by
  intro u hu
  simp only [flatI, List.mem_map] at hu
  obtain ⟨x, _, rfl⟩ := hu
  rfl
theorem flatM_append (l m : List Ms) : flatM (l ++ m) = flatM l ++ flatM m := by simp [flatM]
theorem flatM_drop (l : List Ms) (k : Nat) : (flatM l).drop (k * 2) = flatM (l.drop k) := by
  by_cases hk : k ≤ l.length
  · have hs : flatM l = flatM (l.take k) ++ flatM (l.drop k) := by rw [← flatM_append, List.take_append_drop]
    rw [hs, List.drop_append_of_le_length (by rw [flatM_len, List.length_take]; omega), List.drop_of_length_le (by rw [flatM_len, List.length_take]; omega), List.nil_append]
  · rw [List.drop_of_length_le (by rw [flatM_len]; omega), List.drop_of_length_le (by omega)]; rfl
theorem flatM_take (l : List Ms) (k : Nat) : (flatM l).take (k * 2) = flatM (l.take k) := by
  by_cases hk : k ≤ l.length
  · have hs : flatM l = flatM (l.take k) ++ flatM (l.drop k) := by rw [← flatM_append, List.take_append_drop]
    rw [hs, List.take_append_of_le_length (by rw [flatM_len, List.length_take]; omega), List.take_of_length_le (by rw [flatM_len, List.length_take]; omega)]
  · rw [List.take_of_length_le (by rw [flatM_len]; omega), List.take_of_length_le (by omega)]

/-- The cells of a part of an owned row. -/
theorem own_part {w : World} {base e size n g cap k c : Nat} {xs ys : List Value} (h : w.ownsRow base e size (.slice (some ⟨g, 0, none⟩) n cap) n xs) (hy : ys = (xs.drop (k * size)).take c) {B : Nat} (hB : g < B) {W : World} (hW : Below B w W) :
    ∀ j z, ys[j]? = some z → W.cell? ⟨g, k * size + j, none⟩ = some z := fun j z hz => by
  subst hy
  have h1 : j < c ∧ xs[k * size + j]? = some z := by
    rw [List.getElem?_take] at hz
    split at hz
    · rename_i hj; rw [List.getElem?_drop] at hz; exact ⟨hj, hz⟩
    · simp at hz
  have h2 := (List.getElem?_eq_some_iff.1 h1.2).1
  rw [hW.cell (p := ⟨g, k * size + j, none⟩) hB, h.cellAt _ (by rw [← h.1]; exact h2)]
  exact h1.2

/-- Both rows made anew. -/
theorem RefX.fresh {w w1 : World} {b : Nat} {v u v' u' : Value} {m m' : List Ms} {a a' : List Int} {F : Nat → Prop} (h : RefX w b v u m a F) (hu : Upd (fun k => k = b) w w1) (hb : w1.heap[b]? = some (.cells #[v', u'] 30 (0, 0)))
    (ho : w1.ownsRow 0 32 2 v' m'.length (flatM m')) (ho' : w1.ownsRow 0 3 1 u' a'.length (flatI a')) (hv : ∀ g, v'.ownBlock = some g → w.heap.size ≤ g) (hu' : ∀ g, u'.ownBlock = some g → w.heap.size ≤ g) (hne : ∀ g, v'.ownBlock = some g → u'.ownBlock ≠ some g) :
    XLeft w w1 b v' u' m' a' F := by
  have hbl := h.lt b h.Fb
  refine ⟨hu.mono fun k _ hk => hk ▸ h.Fb, fun k => F k ∨ v'.ownBlock = some k ∨ u'.ownBlock = some k, fun k hk => ?_, hb, ho, ho', .inl h.Fb, fun g hg => ⟨.inr (.inl hg), by have := hv g hg; omega, hne g hg⟩, fun g hg => ⟨.inr (.inr hg), by have := hu' g hg; omega⟩, fun k hk => ?_⟩
  · rcases hk with hk | hk | hk
    · exact .inl hk
    · exact .inr (hv k hk)
    · exact .inr (hu' k hk)
  · rcases hk with hk | hk | hk
    · exact Nat.lt_of_lt_of_le (h.lt k hk) hu.size
    · exact (ho.lt k hk).2
    · exact (ho'.lt k hk).2

/-- What stands behind the four appends of Take. -/
structure Four (wS w1 w2 : World) (v1 u2 : Value) : Prop where
  b2 : Below wS.heap.size wS w2
  v : ∀ q, v1.ownBlock = some q → q = wS.heap.size ∧ q < w2.heap.size
  u : ∀ q, u2.ownBlock = some q → wS.heap.size ≤ q ∧ q < w2.heap.size
  dis : ∀ q, v1.ownBlock = some q → u2.ownBlock ≠ some q
theorem four {wS w1 w2 : World} {v1 u2 : Value} {n n' : Nat} {xs ys : List Value} (own1 : w1.ownsRow 0 32 2 v1 n xs) (grow1 : wS.grownBy w1 (Value.slice none 0 0).ownBlock) (at1 : v1.ownBlock = (Value.slice none 0 0).ownBlock ∨ v1.ownBlock = some wS.heap.size)
    (own2 : w2.ownsRow 0 3 1 u2 n' ys) (grow2 : w1.grownBy w2 (Value.slice none 0 0).ownBlock) (at2 : u2.ownBlock = (Value.slice none 0 0).ownBlock ∨ u2.ownBlock = some w1.heap.size) :
    Four wS w1 w2 v1 u2 ∧ w2.ownsRow 0 32 2 v1 n xs := by
  have hB1 : Below wS.heap.size wS w1 := (Below.refl _ _).grown grow1 (Nat.le_refl _) (fun q hq => by simp [Value.ownBlock] at hq)
  have hB2 : Below w1.heap.size w1 w2 := (Below.refl _ _).grown grow2 (Nat.le_refl _) (fun q hq => by simp [Value.ownBlock] at hq)
  refine ⟨⟨hB1.trans (hB2.mono hB1.size), fun q hq => ?_, fun q hq => ?_, fun q hq hq' => ?_⟩, below_ownsRow hB2 own1 fun q hq => (own1.lt q hq).2⟩
  · rcases at1 with h | h
    · rw [h] at hq; simp [Value.ownBlock] at hq
    · rw [h] at hq; simp only [Option.some.injEq] at hq
      exact ⟨hq.symm, Nat.lt_of_lt_of_le (own1.lt q (h.trans (by rw [hq]))).2 hB2.size⟩
  · rcases at2 with h | h
    · rw [h] at hq; simp [Value.ownBlock] at hq
    · have := (own2.lt q hq).2
      rw [h] at hq; simp only [Option.some.injEq] at hq
      exact ⟨by rw [← hq]; exact hB1.size, this⟩
  · have h1 := (own1.lt q hq).2
    rcases at2 with h | h
    · rw [h] at hq'; simp [Value.ownBlock] at hq'
    · rw [h] at hq'; simp only [Option.some.injEq] at hq'; omega
theorem four3 {wS w1 w2 w3 : World} {v1 u2 v3 : Value} {b n n' : Nat} {xs ys : List Value} (h : Four wS w1 w2 v1 u2) (hb : b < wS.heap.size) (own2 : w2.ownsRow 0 3 1 u2 n' ys) (own3 : w3.ownsRow 0 32 2 v3 n xs) (grow3 : w2.grownBy w3 v1.ownBlock)
    (at3 : v3.ownBlock = v1.ownBlock ∨ v3.ownBlock = some w2.heap.size) : Below wS.heap.size wS w3 ∧ (w3.setCell ⟨b, 0, none⟩ v3).ownsRow 0 3 1 u2 n' ys ∧ (∀ q, v3.ownBlock = some q → wS.heap.size ≤ q ∧ q < w3.heap.size ∧ u2.ownBlock ≠ some q) := by
  have hU3 : Upd (fun k => v1.ownBlock = some k) w2 w3 := (Upd.refl _ _).grown grow3 fun k hk => .inl hk
  refine ⟨h.b2.grown grow3 h.b2.size (fun q hq => by have := (h.v q hq).1; omega), ?_, fun q hq => ?_⟩
  · exact ownsRow_setCell_other (a := ⟨b, 0, none⟩) (hU3.ownsRow own2 fun g hg e => h.dis g e hg) (fun e => by have := (h.u b e).1; omega) _
  · have hl := (own3.lt q hq).2
    rcases at3 with e | e
    · rw [e] at hq; exact ⟨by have := (h.v q hq).1; omega, hl, h.dis q hq⟩
    · rw [e] at hq; simp only [Option.some.injEq] at hq
      subst hq
      exact ⟨h.b2.size, hl, fun e' => by have := (h.u _ e').2; omega⟩

theorem four_close {wS w1 w2 w3 w4 : World} {b : Nat} {v u v1 u2 v3 u4 : Value} {m m' : List Ms} {a a' : List Int} {F : Nat → Prop} (hx : RefX wS b v u m a F) (h4 : Four wS w1 w2 v1 u2) (hB3 : Below wS.heap.size wS w3)
    (own3 : w3.ownsRow 0 32 2 v3 m'.length (flatM m')) (hv3 : ∀ q, v3.ownBlock = some q → wS.heap.size ≤ q ∧ q < w3.heap.size ∧ u2.ownBlock ≠ some q) (own4 : w4.ownsRow 0 3 1 u4 a'.length (flatI a'))
    (grow4 : (w3.setCell ⟨b, 0, none⟩ v3).grownBy w4 u2.ownBlock) (at4 : u4.ownBlock = u2.ownBlock ∨ u4.ownBlock = some (w3.setCell ⟨b, 0, none⟩ v3).heap.size) : XLeft wS (w4.setCell ⟨b, 1, none⟩ u4) b v3 u4 m' a' F := by
  have hbl := hx.lt b hx.Fb
  have hz3 : (w3.setCell ⟨b, 0, none⟩ v3).heap.size = w3.heap.size := by simp [World.setCell]
  have hU4 : Upd (fun k => u2.ownBlock = some k) (w3.setCell ⟨b, 0, none⟩ v3) w4 := (Upd.refl _ _).grown grow4 fun k hk => .inl hk
  have hU : Upd (fun k => k = b) wS w4 := ((Upd.of_below hB3 (fun k => k = b)).setCell (.inl rfl) v3).grown grow4 fun k hk => .inr (h4.u k hk).1
  have hb3 := heap_setCell_same w3 b 0 _ _ v3 ((hB3.block b hbl).trans hx.blk)
  have hb4 := hU4.block_eq hb3 (fun e => by have := (h4.u b e).1; omega)
  have hu4 : ∀ q, u4.ownBlock = some q → wS.heap.size ≤ q := fun q hq => by
    rcases at4 with e | e
    · rw [e] at hq; exact (h4.u q hq).1
    · rw [e, hz3] at hq; simp only [Option.some.injEq] at hq; rw [← hq]; exact hB3.size
  have hvb : v3.ownBlock ≠ some b := fun e => by have := (hv3 b e).1; omega
  refine hx.fresh (hU.setCell (.inl rfl) _) (heap_setCell_same w4 b 1 _ _ u4 hb4) ?_ ?_ (fun q hq => (hv3 q hq).1) hu4 fun q hq hq' => ?_
  · exact ownsRow_setCell_other (a := ⟨b, 1, none⟩) (hU4.ownsRow (ownsRow_setCell_other (a := ⟨b, 0, none⟩) own3 hvb _) fun q hq e => (hv3 q hq).2.2 e) hvb _
  · exact ownsRow_setCell_other (a := ⟨b, 1, none⟩) own4 (fun e => by have := hu4 b e; omega) _
  · rcases at4 with e | e
    · rw [e] at hq'; exact (hv3 q hq).2.2 hq'
    · rw [e, hz3] at hq'; simp only [Option.some.injEq] at hq'; have := (hv3 q hq).2.1; omega
theorem XLeft.res {w wS w4 : World} {b S : Nat} {v u : Value} {m : List Ms} {a : List Int} {F : Nat → Prop} (hB : Below w.heap.size w wS) (hX : XLeft wS w4 b v u m a F) (hF : ∀ k, F k → k < w.heap.size) (hS : S = w.heap.size) (hSl : S < wS.heap.size) (x y : Value) :
    XLeft w ((w4.setCell ⟨S, 0, none⟩ x).setCell ⟨S, 1, none⟩ y) b v u m a F := by
  obtain ⟨hU, F', hF', hR⟩ := hX
  have hu : Upd (fun k => k = S) w4 ((w4.setCell ⟨S, 0, none⟩ x).setCell ⟨S, 1, none⟩ y) := ((Upd.refl (fun k => k = S) _).setCell (p := ⟨S, 0, none⟩) (.inl rfl) _).setCell (p := ⟨S, 1, none⟩) (.inl rfl) _
  refine ⟨((Upd.of_below hB F).trans hU).trans' hu fun k hk => .inr (by omega), F', fun k hk => (hF' k hk).imp id fun h => Nat.le_trans hB.size h, hR.upd hu fun k hk e => ?_⟩
  rcases hF' k hk with h | h
  · have := hF k h; omega
  · omega

set_option maxHeartbeats 4000000 in
theorem rtake_in (w : World) (b : Nat) (l : List Ag) (F : Nat → Prop) (i : Nat) (x : Ag) (hR : RefR w b l F) (hn : l.length ≤ 1000000) (hx : l[i]? = some x) :
    Calls Try.prog 17 #[.pointer (some ⟨b, 0, none⟩), .int .i64 (i : Int)] w fun e w' => e = .returned (.tuple #[.agg #[.int .i64 x.to, .string x.data], .bool true]) ∧ RLeft w w' b (l.eraseIdx i) F := by
  have hi := (List.getElem?_eq_some_iff.1 hx).1
  obtain ⟨v, u, hX⟩ := hR
  have hbl := hX.lt b hX.Fb
  obtain ⟨g, cap, rfl, hgl, hnc, hcm, c0, c1⟩ := hX.rowL hx
  obtain ⟨gu, cau, hu, _, hgul⟩ := hX.ownA.form (by simp; omega)
  have hcau := own_slice hX.ownA
  subst hu
  obtain ⟨_, _, hh, hncu⟩ := hcau
  simp only [Value.slice.injEq, List.length_map] at hh
  obtain ⟨rfl, _, rfl⟩ := hh
  have hcmu : cau ≤ maxLen := by
    obtain ⟨g', cap', cur, h, _, _, _, h2, _⟩ := hX.ownA.2.resolve_left (fun h => by simp at h)
    simp at h; omega
  simp only [List.length_map] at hX hncu
  unfold maxLen at hcm hcmu
  have hc0 : w.cell? ⟨b, 0, none⟩ = some (.slice (some ⟨g, 0, none⟩) l.length cap) := cell_of_blk (j := 0) hX.blk
  have hc1 : w.cell? ⟨b, 1, none⟩ = some (.slice (some ⟨gu, 0, none⟩) l.length cau) := cell_of_blk (j := 1) hX.blk
  have hf0 := free_of_blk (j := 0) hX.blk
  have hf1 := free_of_blk (j := 1) hX.blk
  have h2 : (0 : Int) ≤ (i : Int) + 1 := by omega
  have h3 : (i : Int) + 1 ≤ (l.length : Int) := by omega
  have h4 : ((i : Int) + 1).toNat = i + 1 := by omega
  have h5 : (i : Int) ≤ (cap : Int) := by omega
  have h6 : (i : Int) ≤ (cau : Int) := by omega
  have h7 : (i : Int) + 1 ≤ (cap : Int) := by omega
  have h8 : (i : Int) + 1 ≤ (cau : Int) := by omega
  have Hx := Lib.hid hx; clear hx
  have HX := Lib.hid hX; clear hX
  have hbw := Below.refl w.heap.size w
  have hB0 : Below w.heap.size w ((w.alloc (.cells #[.int .i64 0, .string ⟨#[]⟩] 32)).alloc (.cells #[.int .i64 x.to, .string x.data] 32)) := ((Below.refl w.heap.size w).alloc (Nat.le_refl _) _).alloc (by simp) _
  have hXS := XLeft.pre HX.out hB0
  have hxS := HX.out.pre hB0
  have hrR : (((w.alloc (.cells #[.int .i64 0, .string ⟨#[]⟩] 32)).alloc (.cells #[.int .i64 x.to, .string x.data] 32))).heap[w.heap.size]? = some (.cells #[.int .i64 0, .string ⟨#[]⟩] 32 (0, 0)) := heap_alloc2_old w _ _
  have hrX : (((w.alloc (.cells #[.int .i64 0, .string ⟨#[]⟩] 32)).alloc (.cells #[.int .i64 x.to, .string x.data] 32))).heap[w.heap.size + 1]? = some (.cells #[.int .i64 x.to, .string x.data] 32 (0, 0)) := heap_alloc2_new w _ _
  have hzS : ((w.alloc (.cells #[.int .i64 0, .string ⟨#[]⟩] 32)).alloc (.cells #[.int .i64 x.to, .string x.data] 32)).heap.size = w.heap.size + 2 := by simp [World.setCell]
  obtain ⟨wS, hwS⟩ : ∃ wS, wS = ((w.alloc (.cells #[.int .i64 0, .string ⟨#[]⟩] 32)).alloc (.cells #[.int .i64 x.to, .string x.data] 32)) := ⟨_, rfl⟩
  rw [← hwS] at hXS hxS hrR hrX hzS hB0
  have HB0 := Lib.hid hB0; clear hB0
  have hS0 : w.heap.size < wS.heap.size := by omega
  have hS1 : w.heap.size + 1 < wS.heap.size := by omega
  have hSb : b < wS.heap.size := by omega
  have hc0S : wS.cell? ⟨b, 0, none⟩ = some (.slice (some ⟨g, 0, none⟩) l.length cap) := cell_of_blk (j := 0) hxS.blk
  have hc1S : wS.cell? ⟨b, 1, none⟩ = some (.slice (some ⟨gu, 0, none⟩) l.length cau) := cell_of_blk (j := 1) hxS.blk
  have hf0S := free_of_blk (j := 0) hxS.blk
  have hf1S := free_of_blk (j := 1) hxS.blk
  have hx0S : wS.cell? ⟨w.heap.size + 1, 0, none⟩ = some (.int .i64 x.to) := cell_of_blk (j := 0) hrX
  have hx1S : wS.cell? ⟨w.heap.size + 1, 1, none⟩ = some (.string x.data) := cell_of_blk (j := 1) hrX
  have hr0S : wS.cell? ⟨w.heap.size, 0, none⟩ = some (.int .i64 0) := cell_of_blk (j := 0) hrR
  have hr1S : wS.cell? ⟨w.heap.size, 1, none⟩ = some (.string ⟨#[]⟩) := cell_of_blk (j := 1) hrR
  have hrf0 := free_of_blk (j := 0) hrR
  have hrf1 := free_of_blk (j := 1) hrR
  have HwS := Lib.hid hwS; clear hwS
  have HrR := Lib.hid hrR; clear hrR
  have HrX := Lib.hid hrX; clear hrX
  have HzS := Lib.hid hzS; clear hzS
  have HX' := Lib.hid hXS; clear hXS
  have Hx' := Lib.hid hxS; clear hxS
  have hoL : wS.ownsRow 0 32 2 (.slice (some ⟨g, 0, none⟩) l.length cap) l.length (flatM (l.map msOf)) := by simpa using Hx'.out.ownL
  have hoA : wS.ownsRow 0 3 1 (.slice (some ⟨gu, 0, none⟩) l.length cau) l.length (flatI (l.map Ag.age)) := by simpa using Hx'.out.ownA
  have Hgu : Hid (gu ≠ b) := (Hx'.out.FA gu rfl).2
  have HgS : Hid (g < wS.heap.size ∧ gu < wS.heap.size) := ⟨by omega, by omega⟩
  have N1 := Lib.hid fun W (hW : Below wS.heap.size wS W) => own_part (k := 0) (c := i * 2) hoL (ys := flatM ((l.map msOf).take i)) (by simp [flatM_take]) HgS.out.1 hW
  have N3 := Lib.hid fun W (hW : Below wS.heap.size wS W) => own_part (k := i + 1) (c := l.length * 2) hoL (ys := flatM ((l.map msOf).drop (i + 1))) (by rw [flatM_drop, List.take_of_length_le (by rw [flatM_len]; simp; omega)]) HgS.out.1 hW
  have N2 := Lib.hid fun W (hW : Below wS.heap.size wS W) => own_part (k := 0) (c := i) hoA (ys := flatI ((l.map Ag.age).take i)) (by simp [flatI, List.map_take]) HgS.out.2 hW
  have N4 := Lib.hid fun W (hW : Below wS.heap.size wS W) => own_part (k := i + 1) (c := l.length) hoA (ys := flatI ((l.map Ag.age).drop (i + 1))) (by simp only [flatI, List.map_drop, Nat.mul_one]; rw [List.take_of_length_le (by simp <;> omega)]) HgS.out.2 hW
  have HoL := Lib.hid hoL; clear hoL
  have HoA := Lib.hid hoA; clear hoA
  clear hbw
  by_cases hci : cap = i + 1 <;> by_cases hcu : cau = i + 1
  all_goals
    first | (have hci' : (cap = i + 1) = True := eq_true hci; have Hci := Lib.hid hci; clear hci) | skip
    first | (have hcu' : (cau = i + 1) = True := eq_true hcu; have Hcu := Lib.hid hcu; clear hcu) | skip
    go_enter Try.func17, Try.ntmps17
    go_wp2_with (first
      | (at_builtin; (rw [← HwS.out]); (with_reducible refine et32.wpList_app (v := .slice none 0 0) (n := 0) (xs := []) (ao := some ⟨g, 0, none⟩) (m := i) (c := cap) (news := flatM ((l.map msOf).take i)) (World.ownsRow_nil _ _ _ _) (by simp [flatM_len] <;> omega) (fun h => by simp at h) (fun ad h j z hz => by cases h; have := N1.out wS (Below.refl _ _) j z hz; simpa [Addr.add_lit] using this) (flatM_one _) (by omega) (by unfold maxLen; omega) rfl (.tmp 28) (.tmp 34) rfl rfl rfl ?_); intro v1 w1 own1 grow1 at1 nil1; rw [Nat.zero_add, List.nil_append] at own1; have hB1 : Below wS.heap.size wS w1 := (Below.refl _ _).grown grow1 (Nat.le_refl _) (fun q hq => by simp [Value.ownBlock] at hq); obtain ⟨hcw1, hfw1⟩ := bcell hB1; have Hat1 := Lib.hid at1; clear at1 nil1)
      | (at_builtin; (with_reducible refine et28.wpList_app (v := .slice none 0 0) (n := 0) (xs := []) (ao := some ⟨gu, 0, none⟩) (m := i) (c := cau) (news := flatI ((l.map Ag.age).take i)) (World.ownsRow_nil _ _ _ _) (by simp [flatI_len] <;> omega) (fun h => by simp at h) (fun ad h j z hz => by cases h; have := N2.out w1 hB1 j z hz; simpa [Addr.add_lit] using this) (flatI_one _) (by omega) (by unfold maxLen; omega) rfl (.tmp 36) (.tmp 42) rfl rfl rfl ?_); intro u2 w2 own2 grow2 at2 nil2; rw [Nat.zero_add, List.nil_append] at own2; (obtain ⟨h4s, own1b⟩ := four own1 grow1 Hat1.out own2 grow2 at2); obtain ⟨hcw2, hfw2⟩ := bcell h4s.b2; (clear at2 nil2 hcw1 hfw1; have H4s := Lib.hid h4s; clear h4s))
      | (at_builtin; (with_reducible refine et32.wpList_app (v := v1) (ao := some ⟨g, 0, none⟩) (m := l.length - (i + 1)) (c := cap - (i + 1)) (news := flatM ((l.map msOf).drop (i + 1))) own1b (by simp [flatM_len] <;> omega) (fun h => by simp at h) (fun ad h j z hz => by have := (List.getElem?_eq_some_iff.1 hz).1; rw [flatM_len] at this; simp at this; have := Hci.out; omega) (flatM_one _) (by omega) (by unfold maxLen; omega) rfl (.tmp 45) (.tmp 52) rfl rfl rfl ?_); intro v3 w3 own3 grow3 at3 nil3; obtain ⟨ao3, cap3, rfl, hcap3⟩ := own_slice own3; obtain ⟨hB3, own2b, hv3⟩ := four3 H4s.out hSb own2 own3 grow3 at3; obtain ⟨hcw3, hfw3⟩ := bcell hB3; clear at3 nil3 hcw2 hfw2; have Hv3 := Lib.hid hv3; clear hv3)
      | (at_builtin; (with_reducible refine et32.wpList_app (v := v1) (ao := some ⟨g, (i + 1) * 2, none⟩) (m := l.length - (i + 1)) (c := cap - (i + 1)) (news := flatM ((l.map msOf).drop (i + 1))) own1b (by simp [flatM_len] <;> omega) (fun h => by simp at h) (fun ad h j z hz => by cases h; have := N3.out w2 H4s.out.b2 j z hz; simpa [Addr.add_lit] using this) (flatM_one _) (by omega) (by unfold maxLen; omega) rfl (.tmp 45) (.tmp 52) rfl rfl rfl ?_); intro v3 w3 own3 grow3 at3 nil3; obtain ⟨ao3, cap3, rfl, hcap3⟩ := own_slice own3; obtain ⟨hB3, own2b, hv3⟩ := four3 H4s.out hSb own2 own3 grow3 at3; obtain ⟨hcw3, hfw3⟩ := bcell hB3; clear at3 nil3 hcw2 hfw2; have Hv3 := Lib.hid hv3; clear hv3)
      | (at_builtin; (with_reducible refine et28.wpList_app (v := u2) (ao := some ⟨gu, 0, none⟩) (m := l.length - (i + 1)) (c := cau - (i + 1)) (news := flatI ((l.map Ag.age).drop (i + 1))) own2b (by simp [flatI_len] <;> omega) (fun h => by simp at h) (fun ad h j z hz => by have := (List.getElem?_eq_some_iff.1 hz).1; rw [flatI_len] at this; simp at this; have := Hcu.out; omega) (flatI_one _) (by omega) (by unfold maxLen; omega) rfl (.tmp 57) (.tmp 64) rfl rfl rfl ?_); intro u4 w4 own4 grow4 at4 nil4; obtain ⟨ao4, cap4, rfl, hcap4⟩ := own_slice own4; have Hat4 := Lib.hid at4; have hB4 : Below wS.heap.size (w3.setCell ⟨b, 0, none⟩ (.slice ao3 (i + (l.length - (i + 1))) cap3)) w4 := (Below.refl _ _).grown grow4 (by simpa [World.setCell] using hB3.size) (fun q hq => (H4s.out.u q hq).1); clear at4 nil4; have hcw4 : ∀ b' o, b' < wS.heap.size → w4.cell? ⟨b', o, none⟩ = (w3.setCell ⟨b, 0, none⟩ (.slice ao3 (i + (l.length - (i + 1))) cap3)).cell? ⟨b', o, none⟩ := fun b' o h => hB4.cell (p := ⟨b', o, none⟩) h; have hfw4 : ∀ b' o, b' < wS.heap.size → w4.frozen? ⟨b', o, none⟩ = (w3.setCell ⟨b, 0, none⟩ (.slice ao3 (i + (l.length - (i + 1))) cap3)).frozen? ⟨b', o, none⟩ := fun b' o h => hB4.frozen (p := ⟨b', o, none⟩) h)
      | (at_builtin; (with_reducible refine et28.wpList_app (v := u2) (ao := some ⟨gu, i + 1, none⟩) (m := l.length - (i + 1)) (c := cau - (i + 1)) (news := flatI ((l.map Ag.age).drop (i + 1))) own2b (by simp [flatI_len] <;> omega) (fun h => by simp at h) (fun ad h j z hz => by cases h; have := N4.out w3 hB3 j z hz; rw [Nat.mul_one] at this; rw [Addr.add_lit, World.cell?_setCell_other _ _ _ _ (fun h => by simp only [Addr.mk.injEq] at h; exact absurd h.1.symm Hgu.out)]; exact this) (flatI_one _) (by omega) (by unfold maxLen; omega) rfl (.tmp 57) (.tmp 64) rfl rfl rfl ?_); intro u4 w4 own4 grow4 at4 nil4; obtain ⟨ao4, cap4, rfl, hcap4⟩ := own_slice own4; have Hat4 := Lib.hid at4; have hB4 : Below wS.heap.size (w3.setCell ⟨b, 0, none⟩ (.slice ao3 (i + (l.length - (i + 1))) cap3)) w4 := (Below.refl _ _).grown grow4 (by simpa [World.setCell] using hB3.size) (fun q hq => (H4s.out.u q hq).1); clear at4 nil4; have hcw4 : ∀ b' o, b' < wS.heap.size → w4.cell? ⟨b', o, none⟩ = (w3.setCell ⟨b, 0, none⟩ (.slice ao3 (i + (l.length - (i + 1))) cap3)).cell? ⟨b', o, none⟩ := fun b' o h => hB4.cell (p := ⟨b', o, none⟩) h; have hfw4 : ∀ b' o, b' < wS.heap.size → w4.frozen? ⟨b', o, none⟩ = (w3.setCell ⟨b, 0, none⟩ (.slice ao3 (i + (l.length - (i + 1))) cap3)).frozen? ⟨b', o, none⟩ := fun b' o h => hB4.frozen (p := ⟨b', o, none⟩) h))
    have hb4S : w4.heap[w.heap.size]? = some (.cells #[.int .i64 0, .string ⟨#[]⟩] 32 (0, 0)) := (hB4.block _ hS0).trans ((heap_setCell_other w3 ⟨b, 0, none⟩ _ _ (show w.heap.size ≠ b by omega)).trans ((hB3.block _ hS0).trans HrR.out))
    have hr5 := heap_setCell_same _ _ 1 _ _ (.string x.data) (heap_setCell_same _ _ 0 _ _ (.int .i64 x.to) ((heap_setCell_other w4 ⟨b, 1, none⟩ _ (.slice ao4 (i + (l.length - (i + 1))) cap4) (show w.heap.size ≠ b by omega)).trans hb4S))
    refine bodyPost_ret (results_cell_tmp rfl _ _ w.heap.size _ _ _ rfl hr5 Try.underlying32 rfl (by kernel_rfl)) rfl ⟨rfl, ?_⟩
    have hle : i + (l.length - (i + 1)) = ((l.eraseIdx i).map msOf).length := by rw [List.length_map, List.length_eraseIdx, if_pos hi]; omega
    have hle' : i + (l.length - (i + 1)) = ((l.eraseIdx i).map Ag.age).length := by rw [List.length_map, List.length_eraseIdx, if_pos hi]; omega
    refine (XLeft.res HB0.out (four_close (m' := (l.eraseIdx i).map msOf) (a' := (l.eraseIdx i).map Ag.age) Hx'.out H4s.out hB3 ?_ Hv3.out ?_ grow4 Hat4.out) HX.out.lt rfl hS0 _ _).r rfl rfl
    · rw [← hle, List.eraseIdx_eq_take_drop_succ, List.map_append, List.map_take, List.map_drop, flatM_append]; exact own3
    · rw [← hle', List.eraseIdx_eq_take_drop_succ, List.map_append, List.map_take, List.map_drop]
      have e : flatI ((l.map Ag.age).take i ++ (l.map Ag.age).drop (i + 1)) = flatI ((l.map Ag.age).take i) ++ flatI ((l.map Ag.age).drop (i + 1)) := by simp [flatI]
      rw [e]; exact own4
end Go.Proofs.Ytdkebkalcelgpaa.Mail
