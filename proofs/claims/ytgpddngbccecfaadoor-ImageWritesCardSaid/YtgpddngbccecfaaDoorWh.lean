/- Sums (chapter 2): four bytes, seals, walked. -/
import Derived.Test.YtgpddngbccecfaaDoorWg
import Derived.Lib.QuietBelow
import Derived.BigQuiet
namespace Go.Proofs.YtgpddngbccecfaaDoor.Wire
open Go.RowKit Go.Sort
open Path (Bs bs mk bs_mk mk_bs tl_bs mk_size)
set_option linter.unusedSimpArgs false
set_option linter.unusedVariables false
def fourB (v : Nat) : Bs := [UInt8.ofNat (v / 16777216), UInt8.ofNat (v / 65536), UInt8.ofNat (v / 256), UInt8.ofNat v]
theorem fourB_len (v : Nat) : (fourB v).length = 4 := rfl
theorem nat_u8 (m : Nat) (h : m < 256) : ((UInt8.ofNat m).toNat : Int) = (m : Int) := by rw [UInt8.toNat_ofNat']; omega
theorem nat_u8m (m : Nat) : ((UInt8.ofNat m).toNat : Int) = (m : Int) % 256 := by rw [UInt8.toNat_ofNat']; omega
theorem four_str (w : World) (v : Nat) (hv : v < 4294967296) (t : TypeId) :
    (convert 37 9 (.slice (some ⟨w.heap.size, 0, none⟩) 4 4)).run Tryd.prog (w.alloc (.cells #[.int .u8 ((v : Int) / 16777216), .int .u8 ((v : Int) / 65536 % 256), .int .u8 ((v : Int) / 256 % 256), .int .u8 ((v : Int) % 256)] t))
      = .ok (.string (mk (fourB v))) (w.alloc (.cells #[.int .u8 ((v : Int) / 16777216), .int .u8 ((v : Int) / 65536 % 256), .int .u8 ((v : Int) / 256 % 256), .int .u8 ((v : Int) % 256)] t)) := by
  have hc : #[Value.int .u8 ((v : Int) / 16777216), .int .u8 ((v : Int) / 65536 % 256), .int .u8 ((v : Int) / 256 % 256), .int .u8 ((v : Int) % 256)] = ((fourB v).map fun b => Value.int .u8 (b.toNat : Int)).toArray := by
    simp only [fourB, List.map_cons, List.map_nil, nat_u8m]
    rw [show (((v / 16777216 : Nat) : Int) % 256) = (v : Int) / 16777216 by omega]
    rfl
  rw [hc]
  refine run_convert_bytes_back (P := Tryd.prog) _ 37 9 5 ⟨w.heap.size, 0, none⟩ 4 (fourB v) Tryd.underlying37 Tryd.underlying5 Tryd.underlying9 (fun j hj => ?_)
  rw [Addr.add_lit, Nat.zero_add, World.cell?_alloc_mark]
  rw [List.getElem?_toArray, List.getElem?_map, List.getElem?_eq_getElem hj]
  rfl
set_option maxRecDepth 20000 in
set_option maxHeartbeats 4000000 in
theorem rfour_calls (w : World) (v : Nat) (hv : v < 4294967296) : Calls Tryd.prog 53 #[.int .u32 v] w fun e w' => e = .returned (.string (mk (fourB v))) ∧ Below w.heap.size w w' := by
  have hcv := four_str w v hv 5
  go_enter Tryd.func53, Tryd.ntmps53
  go_wp2_with (fail)
  go_ret
  exact ⟨rfl, (Below.refl _ _).alloc (Nat.le_refl _) _⟩
set_option maxRecDepth 20000 in
set_option maxHeartbeats 4000000 in
theorem four_calls (w : World) (v : Nat) (hv : v < 4294967296) : Calls Tryd.prog 28 #[.int .u32 v] w fun e w' => e = .returned (.string (mk (fourB v))) ∧ Below w.heap.size w w' := by
  have hcv := four_str w v hv 90
  go_enter Tryd.func28, Tryd.ntmps28
  go_wp2_with (fail)
  go_ret
  exact ⟨rfl, (Below.refl _ _).alloc (Nat.le_refl _) _⟩
/-- A text with its sum. -/
def sealB (s : Bs) : Bs := textB s ++ fourB (sumN s)
theorem sumN_lt (l : Bs) : sumN l < 4294967296 := by rw [sumN]; omega
theorem textB_len {s : Bs} (h : s.length ≤ 4000) : (textB s).length ≤ 4010 := by
  have := numB_len (n := s.length) (by constructor <;> omega)
  rw [textB, List.length_append]; omega
set_option maxHeartbeats 4000000 in
theorem seal_calls (w : World) (s : ByteArray) (hs : s.size ≤ 140737488355328) : Calls Tryd.prog 13 #[.string s] w fun e w' =>
    (s.size ≤ 4000 ∧ e = .returned (.tuple #[.string (mk (sealB (bs s))), .int .i64 0]) ∨ ¬ s.size ≤ 4000 ∧ e = .returned (.tuple #[.string ⟨#[]⟩, .int .i64 4])) ∧ Below w.heap.size w w' := by
  have ht := text_calls w s hs
  have hsum := fun W => sum_calls W s hs
  have hfour := fun W => four_calls W (sumN (bs s)) (sumN_lt _)
  have hap : mk (textB (bs s)) ++ mk (fourB (sumN (bs s))) = mk (sealB (bs s)) := mk_app _ _
  have hl := mk_size (textB (bs s))
  have hl4 := mk_size (fourB (sumN (bs s)))
  rw [fourB_len] at hl4
  have hl2 : s.size ≤ 4000 → (textB (bs s)).length ≤ 4010 := fun h => textB_len (by rw [Path.bs_len]; exact h)
  generalize textB (bs s) = T at *
  generalize sealB (bs s) = S at *
  generalize sumN (bs s) = V at *
  generalize mk (fourB V) = F at *
  go_enter Tryd.func13, Tryd.ntmps13
  go_wp2_with (fail)
  refine ht.mono ?_
  rintro e w1 ⟨⟨h, rfl⟩ | ⟨h, rfl⟩, hb⟩
  · have hl3 := hl2 h
    clear ht
    go_wp2_with (fail)
    refine (hsum w1).mono ?_
    rintro e w2 ⟨rfl, hb2⟩
    go_wp2_with (fail)
    refine (hfour w2).mono ?_
    rintro e w3 ⟨rfl, hb3⟩
    go_wp2_with (fail)
    go_ret2
    exact ⟨.inl ⟨h, rfl⟩, hb.trans ((hb2.trans (hb3.mono hb2.size)).mono hb.size)⟩
  · clear ht
    go_wp2_with (fail)
    go_ret2
    exact ⟨.inr ⟨h, rfl⟩, hb⟩
set_option maxHeartbeats 4000000 in
theorem rseal_calls (w : World) (s : ByteArray) (hs : s.size ≤ 140737488355328) : Calls Tryd.prog 34 #[.string s] w fun e w' =>
    (s.size ≤ 4000 ∧ e = .returned (.tuple #[.string (mk (sealB (bs s))), .bool true]) ∨ ¬ s.size ≤ 4000 ∧ e = .returned (.tuple #[.string ⟨#[]⟩, .bool false])) ∧ Below w.heap.size w w' := by
  have ht := rtext_calls w s hs
  have hsum := fun W => rsum_calls W s hs
  have hfour := fun W => rfour_calls W (sumN (bs s)) (sumN_lt _)
  have hap : mk (textB (bs s)) ++ mk (fourB (sumN (bs s))) = mk (sealB (bs s)) := mk_app _ _
  have hl := mk_size (textB (bs s))
  have hl4 := mk_size (fourB (sumN (bs s)))
  rw [fourB_len] at hl4
  have hl2 : s.size ≤ 4000 → (textB (bs s)).length ≤ 4010 := fun h => textB_len (by rw [Path.bs_len]; exact h)
  generalize textB (bs s) = T at *
  generalize sealB (bs s) = S at *
  generalize sumN (bs s) = V at *
  generalize mk (fourB V) = F at *
  go_enter Tryd.func34, Tryd.ntmps34
  go_wp2_with (fail)
  refine ht.mono ?_
  rintro e w1 ⟨⟨h, rfl⟩ | ⟨h, rfl⟩, hb⟩
  · have hl3 := hl2 h
    clear ht
    go_wp2_with (fail)
    refine (hsum w1).mono ?_
    rintro e w2 ⟨rfl, rfl⟩
    go_wp2_with (fail)
    refine (hfour w2).mono ?_
    rintro e w3 ⟨rfl, hb3⟩
    go_wp2_with (fail)
    go_ret2
    exact ⟨.inl ⟨h, rfl⟩, hb.trans (hb3.mono hb.size)⟩
  · clear ht
    go_wp2_with (fail)
    go_ret2
    exact ⟨.inr ⟨h, rfl⟩, hb⟩
/-- A text whose sum is right: the error, the text, the rest. -/
def openE (b : Bs) : Int := match textT b with
  | none => 2
  | some (s, r) => if r.length < 4 then 2 else if r.take 4 = fourB (sumN s) then 0 else 3
def openT (b : Bs) : Bs × Bs := match textT b with
  | none => ([], [])
  | some (s, r) => if r.length < 4 then ([], []) else if r.take 4 = fourB (sumN s) then (s, r.drop 4) else ([], [])
theorem open_seal (s r : Bs) (h : s.length ≤ 4000) : openE (sealB s ++ r) = 0 ∧ openT (sealB s ++ r) = (s, r) := by
  have h1 : textT (sealB s ++ r) = some (s, fourB (sumN s) ++ r) := by rw [sealB, List.append_assoc, textT_textB _ _ h]
  have h2 : ¬ (fourB (sumN s) ++ r).length < 4 := by rw [List.length_append, fourB_len]; omega
  have h3 : (fourB (sumN s) ++ r).take 4 = fourB (sumN s) := List.take_left' (fourB_len _)
  have h4 : (fourB (sumN s) ++ r).drop 4 = r := List.drop_left' (fourB_len _)
  rw [openE, openT, h1]
  simp only []
  rw [if_neg h2, if_neg h2, if_pos h3, if_pos h3, h4]
  exact ⟨rfl, rfl⟩
/-- What Open tells. -/
def OpenP (w : World) (b : Bs) (e : Ending) (w' : World) : Prop :=
  e = .returned (.tuple #[.string (mk (openT b).1), .string (mk (openT b).2), .int .i64 (openE b)]) ∧ Below w.heap.size w w'
theorem open_none {b : Bs} (h : textT b = none) : openE b = 2 ∧ openT b = ([], []) := by rw [openE, openT, h]; exact ⟨rfl, rfl⟩
theorem open_short {b s r : Bs} (h : textT b = some (s, r)) (hl : r.length < 4) : openE b = 2 ∧ openT b = ([], []) := by
  rw [openE, openT, h]; simp only []; rw [if_pos hl, if_pos hl]; exact ⟨rfl, rfl⟩
theorem open_bad {b s r : Bs} (h : textT b = some (s, r)) (hl : ¬ r.length < 4) (hn : r.take 4 ≠ fourB (sumN s)) : openE b = 3 ∧ openT b = ([], []) := by
  rw [openE, openT, h]; simp only []; rw [if_neg hl, if_neg hl, if_neg hn, if_neg hn]; exact ⟨rfl, rfl⟩
theorem open_good {b s r : Bs} (h : textT b = some (s, r)) (hl : ¬ r.length < 4) (hn : r.take 4 = fourB (sumN s)) : openE b = 0 ∧ openT b = (s, r.drop 4) := by
  rw [openE, openT, h]; simp only []; rw [if_neg hl, if_neg hl, if_pos hn, if_pos hn]; exact ⟨rfl, rfl⟩
theorem textT_len {b s r : Bs} (h : textT b = some (s, r)) : s.length ≤ 4000 ∧ b.length = (numB s.length).length + s.length + r.length ∧ b = textB s ++ r := by
  rw [textT] at h
  cases hx : takeN b with
  | none => rw [hx] at h; cases h
  | some x =>
    obtain ⟨n, q⟩ := x
    rw [hx] at h
    simp only [] at h
    split at h
    · rename_i hc
      obtain ⟨h1, h2⟩ := take_some hx
      simp only [Option.some.injEq, Prod.mk.injEq] at h
      obtain ⟨rfl, rfl⟩ := h
      have hl : (List.take n.toNat q).length = n.toNat := by rw [List.length_take]; omega
      have hn : ((n.toNat : Nat) : Int) = n := Int.toNat_of_nonneg hc.1
      have hw : b = textB (q.take n.toNat) ++ q.drop n.toNat := by
        rw [textB, hl, hn, List.append_assoc, List.take_append_drop]; exact h2
      refine ⟨by omega, ?_, hw⟩
      conv => lhs; rw [hw]
      rw [textB, List.length_append, List.length_append]
    · cases h
set_option maxRecDepth 8000 in
set_option maxHeartbeats 4000000 in
theorem open_calls (w : World) (b : ByteArray) (hs : b.size ≤ 140737488355328) : Calls Tryd.prog 20 #[.string b] w (OpenP w (bs b)) := by
  have ht := taket_calls w b hs
  show Calls _ _ _ _ fun e w' => e = .returned (.tuple #[.string (mk (openT (bs b)).1), .string (mk (openT (bs b)).2), .int .i64 (openE (bs b))]) ∧ Below w.heap.size w w'
  go_enter Tryd.func20, Tryd.ntmps20
  go_wp2_with (fail)
  refine ht.mono ?_
  rintro e w1 ⟨⟨s, r, ⟨ht, rfl⟩ | ⟨ht, rfl⟩⟩, hb⟩
  · have hlen := textT_len ht
    have hms := mk_size r
    by_cases h4 : r.length < 4
    · have ho := open_short ht h4
      have h40 : decide (((mk r).size : Int) < 4) = true := decide_eq_true (by omega)
      have Ho := Lib.hid ho
      clear ho ht hlen
      go_wp2_with (fail)
      go_ret3
      rw [Ho.out.1, Ho.out.2]
      exact ⟨rfl, hb⟩
    · have h40 : decide (((mk r).size : Int) < 4) = false := decide_eq_false (by omega)
      have hsum := fun W => sum_calls W (mk s) (by rw [mk_size]; omega)
      have hfour := fun W => four_calls W (sumN s) (sumN_lt _)
      rw [bs_mk] at hsum
      have cF := fun d os => Calls.regrown_of (hsum (grow (redrawn w1 d) os))
      have cG := fun d os => Calls.regrown_of (hfour (grow (redrawn w1 d) os))
      clear hsum hfour
      have e1 := take_bs r 4
      have e2 := drop_mk r 4
      have g1 : (4 : Int) ≤ ((mk r).size : Int) := by omega
      have g2 : 4 ≤ (mk r).size := by omega
      by_cases hq : r.take 4 = fourB (sumN s)
      · have ho := open_good ht h4 hq
        have hd : (((mk r).extract 0 4).toList == (mk (fourB (sumN s))).toList) = true := by rw [e1, hq]; exact beq_self_eq_true _
        have Ho := Lib.hid ho; have E2 := Lib.hid e2
        clear ho hlen ht e1 e2 hq hms
        generalize mk (fourB (sumN s)) = F at *
        generalize sumN s = V at *
        generalize mk r = R at *
        go_wp2_with (fail)
        refine wp_region_quiet_below (by kernel_rfl) (by kernel_rfl) ?_; (repeat (go_big_quiet_step (first | exact cF _ _ | exact cG _ _))); refine wpQuiet_nil ?_; intro _ hw'; obtain ⟨⟨dq, osq⟩, hw''⟩ := hw'; subst hw''
        go_wp2_with (fail)
        go_quiet (fail)
        go_wp2_with (fail)
        go_ret3
        rw [Ho.out.1, Ho.out.2, E2.out]
        exact ⟨rfl, hb.trans (((below_regrown w1 dq osq).trans ((Path.below_drewN _ nq).mono (below_regrown w1 dq osq).size)).mono hb.size)⟩
      · have ho := open_bad ht h4 hq
        have hd : (((mk r).extract 0 4).toList == (mk (fourB (sumN s))).toList) = false := beq_false_of_ne fun e => hq (by
          rw [e1, tl_bs, tl_bs, bs_mk, bs_mk] at e
          exact e)
        have Ho := Lib.hid ho
        clear ho hlen ht e1 e2 hq hms
        generalize mk (fourB (sumN s)) = F at *
        generalize sumN s = V at *
        generalize mk r = R at *
        go_wp2_with (fail)
        refine wp_region_quiet_below (by kernel_rfl) (by kernel_rfl) ?_; (repeat (go_big_quiet_step (first | exact cF _ _ | exact cG _ _))); refine wpQuiet_nil ?_; intro _ hw'; obtain ⟨⟨dq, osq⟩, hw''⟩ := hw'; subst hw''
        go_wp2_with (fail)
        go_ret3
        rw [Ho.out.1, Ho.out.2]
        exact ⟨rfl, hb.trans ((below_regrown w1 dq osq).mono hb.size)⟩
  · have ho := open_none ht
    have Ho := Lib.hid ho
    clear ho ht
    go_wp2_with (fail)
    go_ret3
    rw [Ho.out.1, Ho.out.2]
    exact ⟨rfl, hb⟩
end Go.Proofs.YtgpddngbccecfaaDoor.Wire
