/- The document's mail: a tick of age. -/
import Derived.Test.YtdkebkalcelgpaaMo
namespace Go.Proofs.Ytdkebkalcelgpaa.Mail
open Go.RowKit
set_option linter.unusedSimpArgs false

theorem RefX.rowA {w : World} {b : Nat} {v u : Value} {m : List Ms} {l : List Ag} {F : Nat → Prop} (h : RefX w b v u m (l.map Ag.age) F) {i : Nat} {x : Ag} (hx : l[i]? = some x) :
    ∃ g cap, u = .slice (some ⟨g, 0, none⟩) l.length cap ∧ g < w.heap.size ∧ l.length ≤ cap ∧ w.cell? ⟨g, i, none⟩ = some (.int .i64 x.age) := by
  have hi := (List.getElem?_eq_some_iff.1 hx).1
  have ho := h.ownA
  rcases ho.2 with ⟨_, h0⟩ | ⟨g, cap, cur, rfl, _, hg, hnc, hcm, _⟩
  · simp at h0; subst h0; simp at hi
  · refine ⟨g, cap, by simp, lt_of_block hg, by simpa using hnc, ?_⟩
    rw [ho.cellAt _ (by simp; omega)]
    simp [flatI, hx]

theorem own_beside {w w1 : World} {v u : Value} {base e size n : Nat} {xs : List Value} (ho : w.ownsRow base e size u n xs) (hg : w.grownBy w1 v.ownBlock) (h : ∀ g, v.ownBlock = some g → u.ownBlock ≠ some g) : w1.ownsRow base e size u n xs :=
  ((Upd.refl (fun k => v.ownBlock = some k) w).grown hg fun _ hk => .inl hk).ownsRow ho fun g hg' e => h g e hg'
def age1 (x : Ag) : Int := x.age + 1
/-- Where the loop stands. -/
structure AgeAt (w wr : World) (q : List Ag) (v6 v7 : Value) : Prop where
  o6 : wr.ownsRow 0 32 2 v6 q.length (flatM (q.map msOf))
  o7 : wr.ownsRow 0 3 1 v7 q.length (flatI (q.map age1))
  b6 : ∀ g, v6.ownBlock = some g → w.heap.size ≤ g
  b7 : ∀ g, v7.ownBlock = some g → w.heap.size ≤ g
  dis : ∀ g, v6.ownBlock = some g → v7.ownBlock ≠ some g
  bel : Below w.heap.size w wr
theorem ageAt_next {w wr w1 w2 : World} {q : List Ag} {v6 v7 : Value} {x : Ag} {g6 c6 g7 c7 : Nat} {o o' : Obj} (h : AgeAt w wr q v6 v7)
    (own6 : w1.ownsRow 0 32 2 (.slice (some ⟨g6, 0, none⟩) (q.length + 1) c6) (q.length + 1) (flatM (q.map msOf) ++ encM (msOf x))) (grow6 : (wr.alloc o).grownBy w1 v6.ownBlock) (at6 : v6.ownBlock = some g6 ∨ g6 = (wr.alloc o).heap.size)
    (own7 : w2.ownsRow 0 3 1 (.slice (some ⟨g7, 0, none⟩) (q.length + 1) c7) (q.length + 1) (flatI (q.map age1) ++ [.int .i64 (x.age + 1)])) (grow7 : (w1.alloc o').grownBy w2 v7.ownBlock) (at7 : v7.ownBlock = some g7 ∨ g7 = (w1.alloc o').heap.size) :
    AgeAt w w2 (q ++ [x]) (.slice (some ⟨g6, 0, none⟩) (q.length + 1) c6) (.slice (some ⟨g7, 0, none⟩) (q.length + 1) c7) := by
  have hs := h.bel.size
  have hs6 := grow6.size
  have hs7 := grow7.size
  simp only [World.size_alloc] at hs6 hs7 at6 at7
  have l6 := (own6.lt g6 rfl).2
  have hg6 : w.heap.size ≤ g6 := by rcases at6 with e | e; exact h.b6 _ e; omega
  have hg7 : w.heap.size ≤ g7 := by rcases at7 with e | e; exact h.b7 _ e; omega
  have hne : g6 ≠ g7 := fun e => by
    rcases at6 with e6 | e6 <;> rcases at7 with e7 | e7
    · exact h.dis _ e6 (by rw [e7, e])
    · have := (h.o6.lt _ e6).2; omega
    · have := (h.o7.lt _ e7).2; omega
    · omega
  have h7 : v7.ownBlock ≠ some g6 := fun e => by
    rcases at6 with e6 | e6
    · exact h.dis _ e6 e
    · have := (h.o7.lt _ e).2; omega
  refine ⟨?_, ?_, fun g hg => ?_, fun g hg => ?_, fun g hg hg' => ?_, ?_⟩
  · have := ((Upd.refl (fun k => v7.ownBlock = some k) _).grown grow7 fun k hk => .inl hk).ownsRow (own6.alloc o') (fun g hg e => by simp only [Value.ownBlock, Option.some.injEq] at hg; subst hg; exact h7 e)
    simpa [flatM_snoc] using this
  · simpa [flatI_snoc, age1] using own7
  · simp only [Value.ownBlock, Option.some.injEq] at hg; omega
  · simp only [Value.ownBlock, Option.some.injEq] at hg; omega
  · simp only [Value.ownBlock, Option.some.injEq] at hg hg'; omega
  · exact ((((h.bel.alloc hs o).grown grow6 (by simp; omega) (fun k hk => h.b6 k hk)).alloc (by omega) o').grown grow7 (by simp; omega) (fun k hk => h.b7 k hk))

set_option maxHeartbeats 4000000 in
theorem rage_calls (w : World) (b : Nat) (l : List Ag) (F : Nat → Prop) (ticks : Int) (hR : RefR w b l F) (hn : l.length ≤ 1000000) (hage : ∀ x ∈ l, 0 ≤ x.age ∧ x.age ≤ 1000000) :
    Calls Try.prog 21 #[.pointer (some ⟨b, 0, none⟩), .int .i64 ticks] w fun e w' => e = .returned (.int .i64 (ageN ticks l)) ∧ RLeft w w' b (ageL ticks l) F := by
  obtain ⟨v, u, hX⟩ := hR
  have hbl := hX.lt b hX.Fb
  have hvs := own_slice hX.ownL
  have hus := own_slice hX.ownA
  obtain ⟨ao, cap, rfl, hcap⟩ := hvs
  obtain ⟨au, cau, rfl, hcau⟩ := hus
  simp only [List.length_map] at hX hcap hcau
  have hc0 : w.cell? ⟨b, 0, none⟩ = some (.slice ao l.length cap) := cell_of_blk (j := 0) hX.blk
  have hc1 : w.cell? ⟨b, 1, none⟩ = some (.slice au l.length cau) := cell_of_blk (j := 1) hX.blk
  have hf0 := free_of_blk (j := 0) hX.blk
  have hf1 := free_of_blk (j := 1) hX.blk
  have HX := Lib.hid hX; clear hX
  have Hage := Lib.hid hage; clear hage
  go_enter Try.func21, Try.ntmps21
  go_wp2
  go_loopw [5, 6, 7, 8] (fun vg v6 v7 vk wr => ∃ (k : Nat) (q : List Ag), k ≤ l.length ∧ vk = .int .i64 k ∧ q = (l.take k).filter (stays ticks) ∧ vg = .int .i64 ((k : Int) - (q.length : Int)) ∧ AgeAt w wr q v6 v7) (fun _ _ _ vk _ => l.length - (intOf vk).toNat)
  case atStart => exact ⟨0, [], Nat.zero_le _, rfl, rfl, rfl, World.ownsRow_nil _ _ _ _, World.ownsRow_nil _ _ _ _, fun g h => by simp [Value.ownBlock] at h, fun g h => by simp [Value.ownBlock] at h, fun g h => by simp [Value.ownBlock] at h, Below.refl _ _⟩
  case round =>
    obtain ⟨k, q, hk, rfl, hq, rfl, hA⟩ := hrel
    have hql : q.length ≤ k := by rw [hq]; exact Nat.le_trans (List.length_filter_le _ _) (by simp; omega)
    obtain ⟨hcr, hfr⟩ := bcell hA.bel
    have hsz := hA.bel.size
    have Hq := Lib.hid hq; clear hq
    by_cases hlt : k < l.length
    · obtain ⟨x, hx⟩ : ∃ x, l[k]? = some x := ⟨l[k], by simp [hlt]⟩
      obtain ⟨g, cap', hv, hgl, _, _, c0, c1⟩ := HX.out.rowL hx
      simp only [Value.slice.injEq, true_and] at hv
      obtain ⟨rfl, rfl⟩ := hv
      obtain ⟨gu, cau', hu, hgul, _, c2⟩ := HX.out.rowA hx
      simp only [Value.slice.injEq, true_and] at hu
      obtain ⟨rfl, rfl⟩ := hu
      obtain ⟨ha0, ha1⟩ := Hage.out x (List.mem_of_getElem? hx)
      have o6 := hA.o6
      have o7 := hA.o7
      have HA := Lib.hid hA; clear hA
      have hfil : stays ticks x = false → (l.take (k + 1)).filter (stays ticks) = q := fun h => by rw [List.take_add_one, hx, Hq.out]; simp [h]
      have hfil' : stays ticks x = true → (l.take (k + 1)).filter (stays ticks) = q ++ [x] := fun h => by rw [List.take_add_one, hx, Hq.out]; simp [h]
      have Hf := Lib.hid hfil; clear hfil
      have Hf' := Lib.hid hfil'; clear hfil'
      have Hx := Lib.hid hx; clear hx
      by_cases h1 : x.age ≥ ticks
      · go_wp2
        go_roundw
        case rel => exact ⟨k + 1, q, by omega, by go_num, (Hf.out (by simp [stays, lateB, h1])).symm, by go_num, HA.out⟩
        case measure => simp [intOf]; omega
      · by_cases h2 : ticks < 1
        · exfalso; omega
        · go_wp2_with (first
            | (at_builtin; (with_reducible refine et32.wpList1 (o6.alloc _) (heap_alloc_new _ _) rfl (by simp [Value.oneCell']) (by omega) (by unfold maxLen; omega) rfl (.tmp 33) (.tmp 41) rfl rfl rfl ?_); intro g6 c6 w1 own6 grow6 at6 lt6; have hB1 : Below w.heap.size w w1 := (HA.out.bel.alloc hsz _).grown grow6 (by simp; omega) (fun q hq => HA.out.b6 q hq); obtain ⟨hc1', hf1'⟩ := bcell hB1; have o7' := own_beside (o7.alloc _) grow6 HA.out.dis; have hz1 := hB1.size; have At6 := Lib.hid at6; clear at6 hcr hfr)
            | (at_builtin; (with_reducible refine et28.wpList1 (o7'.alloc _) (heap_alloc_new _ _) rfl (by simp [Value.oneCell']) (by omega) (by unfold maxLen; omega) rfl (.tmp 43) (.tmp 52) rfl rfl rfl ?_); intro g7 c7 w2 own7 grow7 at7 lt7; have At7 := Lib.hid at7; clear at7))
          go_roundw
          case rel => exact ⟨k + 1, q ++ [x], by omega, by go_num, (Hf'.out (by simp [stays, lateB, h1, h2])).symm, by simp; omega, ageAt_next HA.out own6 grow6 At6.out own7 grow7 At7.out⟩
          case measure => simp [intOf]; omega
    · obtain rfl : k = l.length := by omega
      obtain ⟨a6, c6, rfl, _⟩ := own_slice hA.o6
      obtain ⟨a7, c7, rfl, _⟩ := own_slice hA.o7
      have HA := Lib.hid hA; clear hA
      have hql : Hid (q = l.filter (stays ticks)) := by have := Hq.out; rw [List.take_length] at this; exact this
      go_wp2
      go_ret
      have hb0 : wr.heap[b]? = _ := (HA.out.bel.block b hbl).trans HX.out.blk
      have hz : ∀ x y, ((wr.setCell ⟨b, 0, none⟩ x).setCell ⟨b, 1, none⟩ y).heap.size = wr.heap.size := fun x y => by simp [World.setCell]
      have hl6 : (ageL ticks l).map msOf = q.map msOf := by rw [ageL, ← hql.out, List.map_map]; rfl
      have hl7 : (ageL ticks l).map Ag.age = q.map age1 := by rw [ageL, ← hql.out, List.map_map]; rfl
      refine ⟨ret_int (by rw [ageN, ← hql.out]), (HX.out.fresh (m' := q.map msOf) (a' := q.map age1) (((Upd.of_below HA.out.bel (fun k => k = b)).setCell (.inl rfl) _).setCell (.inl rfl) _) (heap_setCell_same _ b 1 _ _ _ (heap_setCell_same _ b 0 _ _ _ hb0)) ?_ ?_ HA.out.b6 HA.out.b7 HA.out.dis).r hl6.symm hl7.symm⟩
      · rw [List.length_map]
        exact ownsRow_setCell_other (a := ⟨b, 1, none⟩) (ownsRow_setCell_other (a := ⟨b, 0, none⟩) HA.out.o6 (fun e => by have := HA.out.b6 b e; omega) _) (fun e => by have := HA.out.b6 b e; omega) _
      · rw [List.length_map]
        exact ownsRow_setCell_other (a := ⟨b, 1, none⟩) (ownsRow_setCell_other (a := ⟨b, 0, none⟩) HA.out.o7 (fun e => by have := HA.out.b7 b e; omega) _) (fun e => by have := HA.out.b7 b e; omega) _
end Go.Proofs.Ytdkebkalcelgpaa.Mail
