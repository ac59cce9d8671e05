/- Images: image.read's closures, walked. -/
import Derived.Test.YtgpddngbccecfaaDoorIe
import Derived.Test.YtgpddngbccecfaaDoorIf
import Derived.Deep.RegionHeld3
import Derived.BigRegion
namespace Go.Proofs.YtgpddngbccecfaaDoor.Image
open Go.RowKit
open Path (Bs bs mk bs_mk mk_bs tl_bs MaxC encS rd_cellsS)
open Tree Space
open Wire (numB textB sealB takeN textT)
set_option linter.unusedSimpArgs false
set_option linter.unusedVariables false
/-- What a number's taking tells: the number, the rest, whether there is one. -/
def numV (l : Bs) : Int := match takeN l with | none => 0 | some (n, _) => n
def numR (l : Bs) : Bs := match takeN l with | none => [] | some (_, r) => r
def numK (l : Bs) : Bool := (takeN l).isSome
def txtV (l : Bs) : Bs := match textT l with | none => [] | some (a, _) => a
def txtR (l : Bs) : Bs := match textT l with | none => [] | some (_, r) => r
def txtK (l : Bs) : Bool := (textT l).isSome
theorem num_is {l : Bs} (h : numK l = true) : takeN l = some (numV l, numR l) := by
  rw [numK] at h; rw [numV, numR]
  cases ht : takeN l with
  | none => rw [ht] at h; cases h
  | some x => rfl
theorem num_no {l : Bs} (h : numK l = false) : takeN l = none := by
  rw [numK] at h
  cases ht : takeN l with
  | none => rfl
  | some x => rw [ht] at h; cases h
theorem txt_is {l : Bs} (h : txtK l = true) : textT l = some (txtV l, txtR l) := by
  rw [txtK] at h; rw [txtV, txtR]
  cases ht : textT l with
  | none => rw [ht] at h; cases h
  | some x => rfl
theorem txt_no {l : Bs} (h : txtK l = false) : textT l = none := by
  rw [txtK] at h
  cases ht : textT l with
  | none => rfl
  | some x => rw [ht] at h; cases h
theorem numR_len (l : Bs) : (numR l).length ≤ l.length := by
  rw [numR]
  cases ht : takeN l with
  | none => simp
  | some x => exact Nat.le_of_lt (take_lt ht)
theorem txtR_len (l : Bs) : (txtR l).length ≤ l.length := by
  rw [txtR]
  cases ht : textT l with
  | none => simp
  | some x =>
    obtain ⟨s, r⟩ := x
    have := (Wire.textT_len ht).2.1
    show r.length ≤ l.length
    omega
theorem numV_in (l : Bs) : inI (numV l) := by
  rw [numV]
  cases ht : takeN l with
  | none => exact inI_of_le (a := 0) (by omega) (by omega)
  | some x => exact (Wire.take_some ht).1
theorem taken_general (w : World) (s : ByteArray) (hs : s.size ≤ 140737488355328) : Calls Tryd.prog 38 #[.string s] w fun e w' => e = .returned (.tuple #[.int .i64 (numV (bs s)), .string (mk (numR (bs s))), .int .i64 (if numK (bs s) = true then 0 else 2)]) ∧ Below w.heap.size w w' := by
  refine (Wire.taken_calls w s hs).mono ?_
  rintro e w' ⟨⟨n, r, h⟩, hb⟩
  rcases h with ⟨h, rfl⟩ | ⟨h, rfl⟩
  · refine ⟨?_, hb⟩
    rw [numV, numR, numK, h]; rfl
  · refine ⟨?_, hb⟩
    rw [numV, numR, numK, h]; rfl
theorem taket_general (w : World) (s : ByteArray) (hs : s.size ≤ 140737488355328) : Calls Tryd.prog 36 #[.string s] w fun e w' => e = .returned (.tuple #[.string (mk (txtV (bs s))), .string (mk (txtR (bs s))), .int .i64 (if txtK (bs s) = true then 0 else 2)]) ∧ Below w.heap.size w w' := by
  refine (Wire.taket_calls w s hs).mono ?_
  rintro e w' ⟨⟨a, r, h⟩, hb⟩
  rcases h with ⟨h, rfl⟩ | ⟨h, rfl⟩
  · refine ⟨?_, hb⟩
    rw [txtV, txtR, txtK, h]; rfl
  · refine ⟨?_, hb⟩
    rw [txtV, txtR, txtK, h]; rfl
/-- The two variables that a number's taking writes: what is left, whether all was fine. -/
def Two (L F : Nat) (i : Nat) : Prop := i = L ∨ i = F
set_option maxHeartbeats 2000000 in
theorem rdnum_calls (w : World) (L F : Nat) (left : Bs) (fine : Bool) (hL : w.heap[L]? = some (.cells #[.string (mk left)] 9 (0, 0))) (hF : w.heap[F]? = some (.cells #[.bool fine] 4 (0, 0))) (hs : left.length ≤ 140737488355328) :
    Calls Tryd.prog 37 #[.pointer (some ⟨L, 0, none⟩), .pointer (some ⟨F, 0, none⟩)] w fun e w' => e = .returned (.int .i64 (numV left)) ∧ w'.heap[L]? = some (.cells #[.string (mk (numR left))] 9 (0, 0)) ∧ w'.heap[F]? = some (.cells #[.bool (fine && numK left)] 4 (0, 0)) ∧ Upd (Two L F) w w' := by
  have hne : L ≠ F := fun e => by subst e; rw [hL] at hF; cases hF
  have ht := fun W => taken_general W (mk left) (by rw [Path.mk_size]; exact hs)
  rw [bs_mk] at ht
  have c0 := cell_of_blk (j := 0) hL
  have c1 := cell_of_blk (j := 0) hF
  simp only [List.getElem?_toArray, List.getElem?_cons_zero] at c0 c1
  have Ht := Lib.hid ht; have HL := Lib.hid hL; have HF := Lib.hid hF
  have hlL := lt_of_block hL
  have hlF := lt_of_block hF
  clear ht hL hF
  go_enter Tryd.func37, Tryd.ntmps37
  go_wp2_with (fail)
  refine (Ht.out w).mono ?_
  rintro e w1 ⟨rfl, hb1⟩
  have kL := (hb1.block L hlL).trans HL.out
  have kF := (hb1.block F hlF).trans HF.out
  have d0 := cell_of_blk (j := 0) kL
  have d1 := cell_of_blk (j := 0) kF
  have z0 := free_of_blk (j := 0) kL
  have z1 := free_of_blk (j := 0) kF
  simp only [List.getElem?_toArray, List.getElem?_cons_zero] at d0 d1
  have hW : ∀ b : Bool, ((w1.setCell ⟨L, 0, none⟩ (.string (mk (numR left)))).setCell ⟨F, 0, none⟩ (.bool b)).heap[L]? = some (.cells #[.string (mk (numR left))] 9 (0, 0)) ∧ ((w1.setCell ⟨L, 0, none⟩ (.string (mk (numR left)))).setCell ⟨F, 0, none⟩ (.bool b)).heap[F]? = some (.cells #[.bool b] 4 (0, 0)) ∧ Upd (Two L F) w ((w1.setCell ⟨L, 0, none⟩ (.string (mk (numR left)))).setCell ⟨F, 0, none⟩ (.bool b)) := fun b => by
    refine ⟨?_, ?_, ?_⟩
    · exact (heap_setCell_other _ ⟨F, 0, none⟩ _ _ hne).trans (heap_setCell_same _ _ 0 _ _ _ kL)
    · exact heap_setCell_same _ _ 0 _ _ _ ((heap_setCell_other _ ⟨L, 0, none⟩ _ _ (Ne.symm hne)).trans kF)
    · exact ((Upd.of_below hb1 _).setCell (.inl (.inl rfl)) _).setCell (.inl (.inr rfl)) _
  have HW := Lib.hid hW
  clear c0 c1 kL kF hb1 hW Ht HL HF
  rcases Bool.eq_false_or_eq_true fine with e | e
  · subst e
    have hk : ((if numK left = true then 0 else 2 : Int) == 0) = numK left := by cases numK left <;> rfl
    generalize hE : (if numK left = true then 0 else 2 : Int) = E at *
    generalize hK : numK left = Kk at *
    have Hk := Lib.hid hk; have HK := Lib.hid hK
    clear hE hk hK
    rcases Bool.eq_false_or_eq_true Kk with e | e
    · subst e
      have hk := Hk.out
      go_wp2_with (fail)
      go_ret
      obtain ⟨h1, h2, h3⟩ := HW.out true
      exact ⟨rfl, h1, by rw [HK.out]; exact h2, h3⟩
    · subst e
      have hk := Hk.out
      go_wp2_with (fail)
      go_ret
      obtain ⟨h1, h2, h3⟩ := HW.out false
      exact ⟨rfl, h1, by rw [HK.out]; exact h2, h3⟩
  · subst e
    generalize (if numK left = true then 0 else 2 : Int) = E at *
    go_wp2_with (fail)
    go_ret
    obtain ⟨h1, h2, h3⟩ := HW.out false
    exact ⟨rfl, h1, h2, h3⟩
/-- The three variables that a part's taking writes. -/
def Three (L F P : Nat) (i : Nat) : Prop := i = L ∨ i = F ∨ i = P
def partL (fine : Bool) (ps : List ByteArray) (left : Bs) : Bs := if fine = true then (match ps with | [] => left | p :: _ => bs p) else left
def partP (fine : Bool) (ps : List ByteArray) : List ByteArray := if fine = true then ps.drop 1 else ps
def partF (fine : Bool) (ps : List ByteArray) : Bool := fine && !ps.isEmpty
theorem rd_tailS {w : World} {b off cap : Nat} {p : ByteArray} {ps : List ByteArray} (h : Rd w 1 Path.encS (.slice (some ⟨b, off, none⟩) (ps.length + 1) cap) (p :: ps)) : Rd w 1 Path.encS (.slice (some ⟨b, off + 1, none⟩) ps.length (cap - 1)) ps := by
  obtain ⟨ao', cap', hv, h1, h2, h3⟩ := h
  simp only [Value.slice.injEq, List.length_cons] at hv
  obtain ⟨rfl, -, rfl⟩ := hv
  simp only [List.length_cons] at h1
  refine ⟨_, _, rfl, by omega, by omega, fun i x hx => ?_⟩
  obtain ⟨b', off', e, hb', h5⟩ := h3 (i + 1) x (by simpa using hx)
  cases e
  refine ⟨b, off + 1, rfl, hb', fun j u hu => ?_⟩
  have := h5 j u hu
  rw [show off + (i + 1) * 1 + j = off + 1 + i * 1 + j by omega] at this
  exact this
theorem rd_noneS (w : World) (ao : Option Addr) : Rd w 1 Path.encS (.slice ao 0 0) [] := ⟨_, _, rfl, by simp, Nat.zero_le _, fun i x hx => by simp at hx⟩
def PartPost (w0 w : World) (L F P : Nat) (l : Bs) (f : Bool) (ps : List ByteArray) (e : Ending) (w' : World) : Prop :=
  e = .returned (.tuple #[]) ∧ w'.heap[L]? = some (.cells #[.string (mk l)] 9 (0, 0)) ∧ w'.heap[F]? = some (.cells #[.bool f] 4 (0, 0)) ∧ (∃ vp, w'.heap[P]? = some (.cells #[vp] 59 (0, 0)) ∧ Rd w0 1 Path.encS vp ps) ∧ Upd (Three L F P) w w'
set_option maxHeartbeats 4000000 in
theorem rdpart_calls (w0 w : World) (h0 : Below w0.heap.size w0 w) (L F P : Nat) (left : Bs) (fine : Bool) (ps : List ByteArray) (vp : Value) (hL : w.heap[L]? = some (.cells #[.string (mk left)] 9 (0, 0))) (hF : w.heap[F]? = some (.cells #[.bool fine] 4 (0, 0)))
    (hP : w.heap[P]? = some (.cells #[vp] 59 (0, 0))) (hR : Rd w0 1 Path.encS vp ps) (bL : w0.heap.size ≤ L) (bF : w0.heap.size ≤ F) (bP : w0.heap.size ≤ P) :
    Calls Tryd.prog 39 #[.pointer (some ⟨F, 0, none⟩), .pointer (some ⟨P, 0, none⟩), .pointer (some ⟨L, 0, none⟩)] w (PartPost w0 w L F P (partL fine ps left) (partF fine ps) (partP fine ps)) := by
  have hne : L ≠ F := fun e => by subst e; rw [hL] at hF; cases hF
  have hneP : P ≠ F := fun e => by subst e; rw [hP] at hF; cases hF
  have hneL : P ≠ L := fun e => by subst e; rw [hP] at hL; cases hL
  have c0 := cell_of_blk (j := 0) hL
  have c1 := cell_of_blk (j := 0) hF
  have c2 := cell_of_blk (j := 0) hP
  have z0 := free_of_blk (j := 0) hL
  have z1 := free_of_blk (j := 0) hF
  have z2 := free_of_blk (j := 0) hP
  simp only [List.getElem?_toArray, List.getElem?_cons_zero] at c0 c1 c2
  have hfin : ∀ b : Bool, (w.setCell ⟨F, 0, none⟩ (.bool b)).heap[L]? = some (.cells #[.string (mk left)] 9 (0, 0)) ∧ (w.setCell ⟨F, 0, none⟩ (.bool b)).heap[F]? = some (.cells #[.bool b] 4 (0, 0)) ∧ (w.setCell ⟨F, 0, none⟩ (.bool b)).heap[P]? = some (.cells #[vp] 59 (0, 0)) ∧ Upd (Three L F P) w (w.setCell ⟨F, 0, none⟩ (.bool b)) := fun b =>
    ⟨(heap_setCell_other _ ⟨F, 0, none⟩ _ _ hne).trans hL, heap_setCell_same _ _ 0 _ _ _ hF, (heap_setCell_other _ ⟨F, 0, none⟩ _ _ hneP).trans hP, (Upd.refl _ _).setCell (.inl (.inr (.inl rfl))) _⟩
  rcases Bool.eq_false_or_eq_true fine with e | e
  · subst e
    cases ps with
    | nil =>
      obtain ⟨ao, cap, rfl, -, -, -⟩ := rd_cellsS hR
      have HR := Lib.hid hR; have Hfin := Lib.hid hfin
      clear hR hfin hL hF hP
      go_enter Tryd.func39, Tryd.ntmps39
      go_wp2_with (fail)
      go_end0
      obtain ⟨h1, h2, h3, h4⟩ := Hfin.out false
      exact ⟨rfl, h1, h2, ⟨_, h3, HR.out⟩, h4⟩
    | cons p ps =>
      obtain ⟨ao, cap, rfl, hc1, hc2, hcell⟩ := rd_cellsS hR
      obtain ⟨b, off, rfl, hb, d0⟩ := hcell w h0 0 p rfl
      rw [Nat.add_zero] at d0
      simp only [List.length_cons] at hc1 hR c2 hP hfin
      have bneL : b ≠ L := by omega
      have bneF : b ≠ F := by omega
      have bneP : b ≠ P := by omega
      have hfin2 : ∀ v', (((w.setCell ⟨F, 0, none⟩ (.bool true)).setCell ⟨L, 0, none⟩ (.string p)).setCell ⟨P, 0, none⟩ v').heap[L]? = some (.cells #[.string (mk (bs p))] 9 (0, 0)) ∧ (((w.setCell ⟨F, 0, none⟩ (.bool true)).setCell ⟨L, 0, none⟩ (.string p)).setCell ⟨P, 0, none⟩ v').heap[F]? = some (.cells #[.bool true] 4 (0, 0)) ∧ (((w.setCell ⟨F, 0, none⟩ (.bool true)).setCell ⟨L, 0, none⟩ (.string p)).setCell ⟨P, 0, none⟩ v').heap[P]? = some (.cells #[v'] 59 (0, 0)) ∧ Upd (Three L F P) w (((w.setCell ⟨F, 0, none⟩ (.bool true)).setCell ⟨L, 0, none⟩ (.string p)).setCell ⟨P, 0, none⟩ v') := fun v' => by
        obtain ⟨h1, h2, h3, h4⟩ := hfin true
        refine ⟨?_, ?_, ?_, ?_⟩
        · rw [mk_bs]; exact (heap_setCell_other _ ⟨P, 0, none⟩ _ _ (Ne.symm hneL)).trans (heap_setCell_same _ _ 0 _ _ _ h1)
        · exact (heap_setCell_other _ ⟨P, 0, none⟩ _ _ (Ne.symm hneP)).trans ((heap_setCell_other _ ⟨L, 0, none⟩ _ _ (Ne.symm hne)).trans h2)
        · exact heap_setCell_same _ _ 0 _ _ _ ((heap_setCell_other _ ⟨L, 0, none⟩ _ _ hneL).trans h3)
        · exact (h4.setCell (.inl (.inl rfl)) _).setCell (.inl (.inr (.inr rfl))) _
      have HR := Lib.hid hR; have Hfin := Lib.hid hfin2
      clear hR hfin hfin2 hL hF hP hcell
      by_cases hc : cap = 1
      · have hps : ps = [] := List.eq_nil_of_length_eq_zero (by omega)
        subst hps hc
        simp only [List.length_nil, Nat.zero_add] at *
        go_enter Tryd.func39, Tryd.ntmps39
        go_wp2_with (fail)
        go_region
        all_goals
          go_end0
          obtain ⟨h1, h2, h3, h4⟩ := Hfin.out _
          exact ⟨rfl, h1, h2, ⟨_, h3, rd_noneS _ _⟩, h4.drew⟩
      · have hlc : 1 < cap := by omega
        clear hc
        go_enter Tryd.func39, Tryd.ntmps39
        go_wp2_with (fail)
        go_region
        all_goals
          go_end0
          obtain ⟨h1, h2, h3, h4⟩ := Hfin.out _
          exact ⟨rfl, h1, h2, ⟨_, h3, rd_tailS HR.out⟩, h4.drew⟩
  · subst e
    have HR := Lib.hid hR; have Hfin := Lib.hid hfin
    clear hR hfin hL hF hP
    go_enter Tryd.func39, Tryd.ntmps39
    go_wp2_with (fail)
    go_end0
    obtain ⟨h1, h2, h3, h4⟩ := Hfin.out false
    exact ⟨rfl, h1, h2, ⟨_, h3, HR.out⟩, h4⟩
end Go.Proofs.YtgpddngbccecfaaDoor.Image
