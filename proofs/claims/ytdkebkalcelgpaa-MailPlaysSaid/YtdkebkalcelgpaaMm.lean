/- The document's mail: what its block holds; Send and Twin. -/
import Derived.Test.YtdkebkalcelgpaaMi
namespace Go.Proofs.Ytdkebkalcelgpaa.Mail
open Go.RowKit
set_option linter.unusedSimpArgs false

def flatI (l : List Int) : List Value := l.map (Value.int .i64)
theorem flatI_len (l : List Int) : (flatI l).length = l.length := by simp [flatI]
theorem flatI_snoc (l : List Int) (x : Int) : flatI (l ++ [x]) = flatI l ++ [.int .i64 x] := by simp [flatI]
theorem info3 : (Try.prog.info? 3).map (fun i => (i.zero, i.size, i.bytes)) = some (some (.int .i64 0), 1, 8) := by kernel_rfl
theorem et28 : ET Try.prog 28 3 1 8 := ET.of Try.underlying28 info3 rfl (by decide) (by simp [Value.cells, Value.oneCell'])

/-- The document's mail at block b. -/
structure RefX (w : World) (b : Nat) (v u : Value) (m : List Ms) (a : List Int) (F : Nat → Prop) : Prop where
  blk : w.heap[b]? = some (.cells #[v, u] 30 (0, 0))
  ownL : w.ownsRow 0 32 2 v m.length (flatM m)
  ownA : w.ownsRow 0 3 1 u a.length (flatI a)
  Fb : F b
  FL : ∀ g, v.ownBlock = some g → F g ∧ g ≠ b ∧ u.ownBlock ≠ some g
  FA : ∀ g, u.ownBlock = some g → F g ∧ g ≠ b
  lt : ∀ k, F k → k < w.heap.size
def RefR (w : World) (b : Nat) (l : List Ag) (F : Nat → Prop) : Prop := ∃ v u, RefX w b v u (l.map msOf) (l.map Ag.age) F

section
variable {w w1 w2 : World} {b : Nat} {v u v' u' : Value} {m m' : List Ms} {a a' : List Int} {l : List Ag} {F G : Nat → Prop}
theorem RefX.upd (h : RefX w b v u m a F) (hu : Upd G w w1) (hG : ∀ k, F k → ¬ G k) : RefX w1 b v u m a F :=
  ⟨hu.block_eq h.blk (hG b h.Fb), hu.ownsRow h.ownL (fun g hg => hG g (h.FL g hg).1), hu.ownsRow h.ownA (fun g hg => hG g (h.FA g hg).1), h.Fb, h.FL, h.FA, fun k hk => Nat.lt_of_lt_of_le (h.lt k hk) hu.size⟩
theorem RefX.pre (h : RefX w b v u m a F) (hu : Below w.heap.size w w1) : RefX w1 b v u m a F := h.upd (Upd.of_below hu (fun _ => False)) (fun _ _ h => h)
theorem RefR.upd (h : RefR w b l F) (hu : Upd G w w1) (hG : ∀ k, F k → ¬ G k) : RefR w1 b l F := by obtain ⟨v, u, h⟩ := h; exact ⟨v, u, h.upd hu hG⟩
theorem RefR.pre (h : RefR w b l F) (hu : Below w.heap.size w w1) : RefR w1 b l F := by obtain ⟨v, u, h⟩ := h; exact ⟨v, u, h.pre hu⟩
theorem RefR.bound (h : RefR w b l F) : ∀ k, F k → k < w.heap.size := by obtain ⟨v, u, h⟩ := h; exact h.lt
/-- What a step on the document's mail leaves. -/
def XLeft (w w' : World) (b : Nat) (v u : Value) (m : List Ms) (a : List Int) (F : Nat → Prop) : Prop := Upd F w w' ∧ ∃ F' : Nat → Prop, (∀ k, F' k → F k ∨ w.heap.size ≤ k) ∧ RefX w' b v u m a F'
theorem XLeft.next (h : XLeft w w1 b v u m a F) (hn : ∀ F', RefX w1 b v u m a F' → XLeft w1 w2 b v' u' m' a' F') : XLeft w w2 b v' u' m' a' F := by
  obtain ⟨hu, F', hF, hX⟩ := h
  obtain ⟨hu', F2, hF2, hX2⟩ := hn F' hX
  refine ⟨hu.trans' hu' hF, F2, fun k hk => ?_, hX2⟩
  rcases hF2 k hk with h' | h'
  · exact hF k h'
  · exact .inr (Nat.le_trans hu.size h')
theorem XLeft.x (h : XLeft w w1 b v u m a F) : ∃ F', RefX w1 b v u m a F' := by obtain ⟨_, F', _, h⟩ := h; exact ⟨F', h⟩
theorem XLeft.pre (h : RefX w b v u m a F) (hb : Below w.heap.size w w1) : XLeft w w1 b v u m a F := ⟨Upd.of_below hb F, F, fun _ hk => .inl hk, h.pre hb⟩
theorem RefX.setL (h : RefX w b v u m a F) (hu : Upd (fun k => v.ownBlock = some k) w w1) (ho : w1.ownsRow 0 32 2 v' m'.length (flatM m')) (hv : ∀ g, v'.ownBlock = some g → v.ownBlock = some g ∨ w.heap.size ≤ g) :
    XLeft w (w1.setCell ⟨b, 0, none⟩ v') b v' u m' a F := by
  have hbl := h.lt b h.Fb
  have hb1 := hu.block_eq h.blk (fun e => (h.FL b e).2.1 rfl)
  have hne : ∀ g, v'.ownBlock = some g → g ≠ b ∧ u.ownBlock ≠ some g := fun g hg => by
    rcases hv g hg with h' | h'
    · exact (h.FL g h').2
    · refine ⟨by omega, fun e => ?_⟩
      have := h.lt g (h.FA g e).1; omega
  refine ⟨(hu.mono fun k _ hk => (h.FL k hk).1).setCell (.inl h.Fb) _, fun k => F k ∨ v'.ownBlock = some k, fun k hk => hk.elim .inl (fun h' => (hv k h').imp (fun e => (h.FL k e).1) id), heap_setCell_same w1 b 0 _ _ v' hb1, ?_, ?_, .inl h.Fb, fun g hg => ⟨.inr hg, hne g hg⟩, fun g hg => ⟨.inl (h.FA g hg).1, (h.FA g hg).2⟩, fun k hk => ?_⟩
  · exact ownsRow_setCell_other (a := ⟨b, 0, none⟩) ho (fun e => (hne b e).1 rfl) _
  · exact ownsRow_setCell_other (a := ⟨b, 0, none⟩) (hu.ownsRow h.ownA fun g hg e => (h.FL g e).2.2 hg) (fun e => (h.FA b e).2 rfl) _
  · have hs := hu.size
    simp only [World.setCell, Array.size_modify]
    rcases hk with hk | hk
    · have := h.lt k hk; omega
    · exact (ho.lt k hk).2
theorem RefX.setA (h : RefX w b v u m a F) (hu : Upd (fun k => u.ownBlock = some k) w w1) (ho : w1.ownsRow 0 3 1 u' a'.length (flatI a')) (hv : ∀ g, u'.ownBlock = some g → u.ownBlock = some g ∨ w.heap.size ≤ g) :
    XLeft w (w1.setCell ⟨b, 1, none⟩ u') b v u' m a' F := by
  have hbl := h.lt b h.Fb
  have hb1 := hu.block_eq h.blk (fun e => (h.FA b e).2 rfl)
  have hne : ∀ g, u'.ownBlock = some g → g ≠ b ∧ v.ownBlock ≠ some g := fun g hg => by
    rcases hv g hg with h' | h'
    · exact ⟨(h.FA g h').2, fun e => (h.FL g e).2.2 h'⟩
    · refine ⟨by omega, fun e => ?_⟩
      have := h.lt g (h.FL g e).1; omega
  refine ⟨(hu.mono fun k _ hk => (h.FA k hk).1).setCell (.inl h.Fb) _, fun k => F k ∨ u'.ownBlock = some k, fun k hk => hk.elim .inl (fun h' => (hv k h').imp (fun e => (h.FA k e).1) id), heap_setCell_same w1 b 1 _ _ u' hb1, ?_, ?_, .inl h.Fb, fun g hg => ⟨.inl (h.FL g hg).1, (h.FL g hg).2.1, fun e => (hne g e).2 hg⟩, fun g hg => ⟨.inr hg, (hne g hg).1⟩, fun k hk => ?_⟩
  · exact ownsRow_setCell_other (a := ⟨b, 1, none⟩) (hu.ownsRow h.ownL fun g hg e => (h.FL g hg).2.2 e) (fun e => (h.FL b e).2.1 rfl) _
  · exact ownsRow_setCell_other (a := ⟨b, 1, none⟩) ho (fun e => (hne b e).1 rfl) _
  · have hs := hu.size
    simp only [World.setCell, Array.size_modify]
    rcases hk with hk | hk
    · have := h.lt k hk; omega
    · exact (ho.lt k hk).2
end

/-- What an operation on the document's mail leaves. -/
def RLeft (w w' : World) (b : Nat) (l : List Ag) (F : Nat → Prop) : Prop := Upd F w w' ∧ ∃ F' : Nat → Prop, (∀ k, F' k → F k ∨ w.heap.size ≤ k) ∧ RefR w' b l F'
theorem RLeft.refl {w : World} {b : Nat} {l : List Ag} {F : Nat → Prop} (h : RefR w b l F) : RLeft w w b l F := ⟨Upd.refl F w, F, fun _ hk => .inl hk, h⟩
theorem RLeft.pre {w w1 w2 : World} {b : Nat} {l : List Ag} {F : Nat → Prop} (h : Upd F w w1) (k : RLeft w1 w2 b l F) : RLeft w w2 b l F := by
  obtain ⟨hu, F', hF, hM⟩ := k
  exact ⟨h.trans hu, F', fun k hk => (hF k hk).imp id (fun h' => Nat.le_trans h.size h'), hM⟩

theorem rsend_full (w : World) (b : Nat) (l : List Ag) (F : Nat → Prop) (to : Int) (d : ByteArray) (hR : RefR w b l F) (hn : l.length ≤ 1000000) (hf : 50 ≤ l.length ∨ 4000 < d.size) (hd : d.size ≤ maxLen) :
    Calls Try.prog 15 #[.pointer (some ⟨b, 0, none⟩), .agg #[.int .i64 to, .string d]] w fun e w' => e = .returned (.int .i64 4) ∧ RLeft w w' b l F := by
  have hA : Upd F w (w.alloc (.cells #[.int .i64 to, .string d] 32)) := (Upd.refl F w).alloc _
  have hend : RLeft w (w.alloc (.cells #[.int .i64 to, .string d] 32)) b l F := RLeft.pre hA (RLeft.refl (hR.pre ((Below.refl _ _).alloc (Nat.le_refl _) _)))
  obtain ⟨v, u, hX⟩ := hR
  have hbl := hX.lt b hX.Fb
  obtain ⟨ao, cap, rfl, hcap⟩ := own_slice hX.ownL
  rw [List.length_map] at hX
  have hc0 := cell_of_blk (j := 0) hX.blk
  unfold maxLen at hd
  simp only [List.length_map] at hc0 hcap
  clear hX
  by_cases h50 : 50 ≤ l.length
  · go_enter Try.func15, Try.ntmps15
    go_wp2
    go_ret
    exact ⟨rfl, hend⟩
  · have h4 : 4000 < d.size := by omega
    go_enter Try.func15, Try.ntmps15
    go_wp2
    go_ret
    exact ⟨rfl, hend⟩

theorem XLeft.r {w w' : World} {b : Nat} {v u : Value} {l : List Ag} {m : List Ms} {a : List Int} {F : Nat → Prop} (h : XLeft w w' b v u m a F) (hm : m = l.map msOf) (ha : a = l.map Ag.age) : RLeft w w' b l F := by
  obtain ⟨hu, F', hF, hX⟩ := h
  subst hm; subst ha
  exact ⟨hu, F', hF, v, u, hX⟩

set_option maxHeartbeats 4000000 in
theorem rsend_ok (w : World) (b : Nat) (l : List Ag) (F : Nat → Prop) (to : Int) (d : ByteArray) (hR : RefR w b l F) (h50 : l.length < 50) (h4 : d.size ≤ 4000) :
    Calls Try.prog 15 #[.pointer (some ⟨b, 0, none⟩), .agg #[.int .i64 to, .string d]] w fun e w' => e = .returned (.int .i64 0) ∧ RLeft w w' b (l ++ [⟨to, d, 0⟩]) F := by
  obtain ⟨v, u, hX⟩ := hR
  have hbl := hX.lt b hX.Fb
  have hvs := own_slice hX.ownL
  have hus := own_slice hX.ownA
  have hXA := XLeft.pre hX ((((Below.refl w.heap.size w).alloc (Nat.le_refl _) (.cells #[.int .i64 to, .string d] 32)).alloc (by simp) (.cells #[.int .i64 to, .string d] 32)).drew)
  obtain ⟨ao, cap, rfl, hcap⟩ := hvs
  obtain ⟨au, cau, rfl, hcau⟩ := hus
  simp only [List.length_map] at hX hXA hcap hcau
  obtain ⟨FA, hxa⟩ := hXA.x
  have hoL : ((w.alloc (.cells #[.int .i64 to, .string d] 32)).alloc (.cells #[.int .i64 to, .string d] 32)).drew.ownsRow 0 32 2 (.slice ao l.length cap) l.length (flatM (l.map msOf)) := by simpa using hxa.ownL
  have hc0 := cell_of_blk (j := 0) hX.blk
  have hf0 := free_of_blk (j := 0) hX.blk
  clear hX
  have Hxa := Lib.hid hxa; clear hxa
  have HA := Lib.hid hXA; clear hXA
  go_enter Try.func15, Try.ntmps15
  go_wp2_with (fail)
  go_region_law (refine et32.step1 (v := .slice ao l.length cap) (n := l.length) (xs := flatM (l.map msOf)) hoL (heap_alloc2_new w _ _) rfl (by simp [Value.oneCell']) (by omega) (by unfold maxLen; omega) rfl (.tmp 21) (.tmp 23) rfl (by simp [Act.eval, Act.put]) (by simp [Act.eval, Act.put]) ?_; intro g cap1 w1 hown1 hgrow hat hlt; have hU1 : Upd (fun k => (Value.slice ao l.length cap).ownBlock = some k) _ w1 := (Upd.refl _ _).grown hgrow fun k hk => .inl hk; have hb1 := hU1.block_eq Hxa.out.blk (fun e => (Hxa.out.FL b e).2.1 rfl); have hc10 := cell_of_blk (j := 0) hb1; have hf10 := free_of_blk (j := 0) hb1; have hc11 := cell_of_blk (j := 1) hb1; have hf11 := free_of_blk (j := 1) hb1)
  all_goals
    have hX1 := HA.out.next fun F' hF' => hF'.setL (m' := l.map msOf ++ [⟨to, d⟩]) hU1 (by simpa [flatM_snoc, encM] using hown1) (fun g' hg' => by
      simp only [Value.ownBlock, Option.some.injEq] at hg'
      subst hg'
      rcases hat with h | h
      · exact .inl h
      · exact .inr (by rw [h]; exact Nat.le_refl _))
    obtain ⟨F1, hx1⟩ := hX1.x
    have hbl2 := hx1.lt b hx1.Fb
    have hoA2 := hx1.ownA
    have HX1 := Lib.hid hX1; clear hX1
    have Hx1 := Lib.hid hx1; clear hx1
    clear hU1 hoL hgrow hown1 hc0 hf0
    generalize hW2 : w1.setCell ⟨b, 0, none⟩ (.slice (some ⟨g, 0, none⟩) (l.length + 1) cap1) = w2 at *
    have HW2 := Lib.hid hW2; clear hW2
    have hb2 := Hx1.out.blk
    have hc20 : w2.cell? ⟨b, 0, none⟩ = some (.slice (some ⟨g, 0, none⟩) (l.length + 1) cap1) := cell_of_blk (j := 0) hb2
    have hc21 : w2.cell? ⟨b, 1, none⟩ = some (.slice au l.length cau) := cell_of_blk (j := 1) hb2
    have hf20 := free_of_blk (j := 0) hb2
    have hf21 := free_of_blk (j := 1) hb2
    clear hb2 hb1 hc10 hf10 hc11 hf11
    have hoA3 : (w2.alloc (.cells #[.int .i64 0] 3)).ownsRow 0 3 1 (.slice au l.length cau) l.length (flatI (l.map Ag.age)) := by simpa using hoA2.alloc _
    clear hoA2
    have HX2 := Lib.hid (HX1.out.next fun F' hF' => XLeft.pre hF' ((Below.refl w2.heap.size w2).alloc (Nat.le_refl _) (.cells #[.int .i64 0] 3)))
    have Hx2 := Lib.hid (Hx1.out.pre ((Below.refl w2.heap.size w2).alloc (Nat.le_refl _) (.cells #[.int .i64 0] 3)))
    go_wp2_with (at_builtin; (with_reducible refine et28.wpList1 hoA3 (heap_alloc_new w2 _) rfl (by simp [Value.oneCell']) (by omega) (by unfold maxLen; omega) rfl (.tmp 31) (.tmp 32) rfl rfl rfl ?_); intro g2 cap2 w3 hown3 hgrow3 hat3 hlt3; have hU3 : Upd (fun k => (Value.slice au l.length cau).ownBlock = some k) (w2.alloc (.cells #[.int .i64 0] 3)) w3 := (Upd.refl _ _).grown hgrow3 fun k hk => .inl hk; have hb3 := hU3.block_eq Hx2.out.blk (fun e => (Hx2.out.FA b e).2 rfl); have hc31 : w3.cell? ⟨b, 1, none⟩ = some (.slice au l.length cau) := cell_of_blk (j := 1) hb3; have hf31 := free_of_blk (j := 1) hb3; clear hb3)
    go_ret
    refine ⟨rfl, (HX2.out.next fun F' hF' => hF'.setA (a' := l.map Ag.age ++ [0]) hU3 (by simpa [flatI_snoc] using hown3) (fun g' hg' => ?_)).r (by simp [msOf]) (by simp)⟩
    simp only [Value.ownBlock, Option.some.injEq] at hg'
    subst hg'
    rcases hat3 with h | h
    · exact .inl h
    · exact .inr (by rw [h]; exact Nat.le_refl _)
theorem rsend_calls (w : World) (b : Nat) (l : List Ag) (F : Nat → Prop) (to : Int) (d : ByteArray) (hR : RefR w b l F) (hn : l.length ≤ 1000000) (hd : d.size ≤ maxLen) :
    Calls Try.prog 15 #[.pointer (some ⟨b, 0, none⟩), .agg #[.int .i64 to, .string d]] w fun e w' => e = .returned (.int .i64 (sendE l d)) ∧ RLeft w w' b (sendL l to d) F := by
  by_cases h : 50 ≤ l.length ∨ 4000 < d.size
  · have := rsend_full w b l F to d hR hn h hd
    simpa [sendE, sendL, h] using this
  · have := rsend_ok w b l F to d hR (by omega) (by omega)
    simpa [sendE, sendL, h] using this
end Go.Proofs.Ytdkebkalcelgpaa.Mail
